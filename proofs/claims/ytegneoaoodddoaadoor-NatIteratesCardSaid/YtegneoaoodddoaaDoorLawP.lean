/-
  NatPowers: the walk.
-/
import Derived.Test.YtegneoaoodddoaaDoorLawM
namespace Go.Proofs.YtegneoaoodddoaaDoor
open Go.RowKit
set_option linter.unusedVariables false
set_option linter.unusedSimpArgs false
attribute [local go_sem] field_nat

theorem one_strs (w : World) (l : List UInt8) : Strs (w.alloc (.cells #[.string ⟨l.toArray⟩] 9)) (.slice (some ⟨w.heap.size, 0, none⟩) 1 1) [l] := by
  refine ⟨_, 1, rfl, by simp, by unfold maxLen; omega, .inr ⟨w.heap.size, 0, rfl, by simp, fun i hi => ?_⟩⟩
  match i, hi with
  | 0, _ => go_simp
theorem rows2_one {base : Nat} {W : World} {va vb : Value} {A : Nat} (h : Rows2 base W va vb [A]) :
    ∃ ga ca gb cb a0 x0, va = .slice (some ⟨ga, 0, none⟩) 1 ca ∧ vb = .slice (some ⟨gb, 0, none⟩) 1 cb ∧ Box W ga a0 ∧ Box W gb x0 ∧ NatIs W (.agg #[a0]) A ∧ RIs W x0 A := by
  obtain ⟨sa, oa, la⟩ := h.a
  obtain ⟨sb, ob, lb⟩ := h.b
  have l1 := la.1
  have l2 := lb.1
  match sa, sb, l1, l2 with
  | [a0], [x0], _, _ =>
    rcases oa.shape with ⟨_, e⟩ | ⟨ga, ca, rfl, _, k1, _, _, hc, k2⟩
    · cases e
    rcases ob.shape with ⟨_, e⟩ | ⟨gb, cb, rfl, _, k3, _, _, hd, k4⟩
    · cases e
    exact ⟨ga, ca, gb, cb, a0, x0, rfl, rfl, ⟨hc 0 (by simp), k2 0, k1⟩, ⟨hd 0 (by simp), k4 0, k3⟩, la.2 0 a0 rfl, lb.2 0 x0 rfl⟩
theorem rtwo_z (w : World) : Calls Tryd.prog 29 #[.int .i64 0] w fun e w' => ∃ r, e = .returned r ∧ RIs w' r (2 ^ 0) ∧ Below w.heap.size w w' := rtwo_any 0 w (by omega)
theorem pval_12 {l : List UInt8} (h : l.length ≤ 12) : pval l < 2 ^ 40 := by
  unfold pval
  split
  · rename_i hok
    split
    · exact Nat.two_pow_pos 40
    · simp only [numOk, Bool.and_eq_true] at hok
      exact Nat.lt_of_lt_of_le (dnum_lt l hok.1) (Nat.le_trans (Nat.pow_le_pow_right (by decide) h) (by decide))
  · exact Nat.two_pow_pos 40
theorem pow_lt40 {A k : Nat} (h : A < 2 ^ 40) : A ^ k ≤ 2 ^ (40 * k) := by
  rw [Nat.pow_mul]; exact Nat.pow_le_pow_left (Nat.le_of_lt h) k
theorem pow40 {A n : Nat} (h : A < 2 ^ 40) (hn : n ≤ 40) : powC A (n : Int) = 0 := by
  unfold powC
  rw [if_neg (by omega), if_neg]
  rw [Int.toNat_natCast]
  have h1 := pow_lt40 (k := n) h
  have h2 : blen (A ^ n) ≤ 40 * n + 1 := blen_le (Nat.lt_of_le_of_lt h1 (Nat.pow_lt_pow_right (by decide) (by omega)))
  omega
theorem rl_le_two {n m K : Nat} (h : n ≤ 2 ^ m) (hm : m < K) : (rlimbs n).length ≤ K := Nat.le_trans (rlimbs_length_mono h) (rl_two hm)
theorem rl_pow40 {A k : Nat} (h : A < 2 ^ 40) (hk : k ≤ 40) : (rlimbs (A ^ k)).length ≤ 2000 := rl_le_two (pow_lt40 h) (by omega)
theorem rl_mul2 {A k : Nat} (h : (rlimbs A).length ≤ 1200) (hk : k ≤ 200) : (rlimbs (A * 2 ^ k)).length ≤ 100000 := Nat.le_trans (rlimbs_mul h (rl_two (K := 201) (by omega))) (by omega)

set_option maxRecDepth 100000 in
set_option maxHeartbeats 1000000 in
theorem natPowers_early1 (l : List UInt8) (e b : Int) (h1 : 12 < l.length) (w : World) :
    Calls Tryd.prog 5 #[.string ⟨l.toArray⟩, .int .i64 e, .int .i64 b] w fun e w' => e = .returned (.bool true) ∧ Below w.heap.size w w' := by
  go_enter Tryd.func5, Tryd.ntmps5
  go_wp2_with (go_at_call 10; refine (alive_any _).mono ?_; rintro e w' ⟨rfl, hb⟩)
  go_ret
  exact ⟨rfl, hb⟩

set_option maxRecDepth 100000 in
set_option maxHeartbeats 1000000 in
theorem natPowers_early2 (l : List UInt8) (e b : Int) (h1 : ¬ 12 < l.length) (h2 : 40 < e) (h3 : e ≤ 5000) (w : World) :
    Calls Tryd.prog 5 #[.string ⟨l.toArray⟩, .int .i64 e, .int .i64 b] w fun e w' => e = .returned (.bool true) ∧ Below w.heap.size w w' := by
  go_enter Tryd.func5, Tryd.ntmps5
  go_wp2_with (go_at_call 10; refine (alive_any _).mono ?_; rintro e w' ⟨rfl, hb⟩)
  go_ret
  exact ⟨rfl, hb⟩

set_option maxRecDepth 100000 in
set_option maxHeartbeats 1000000 in
theorem natPowers_early3 (l : List UInt8) (e b : Int) (h1 : ¬ 12 < l.length) (h2 : e ≤ 40) (h3 : 200 < b) (w : World) :
    Calls Tryd.prog 5 #[.string ⟨l.toArray⟩, .int .i64 e, .int .i64 b] w fun e w' => e = .returned (.bool true) ∧ Below w.heap.size w w' := by
  go_enter Tryd.func5, Tryd.ntmps5
  go_wp2_with (go_at_call 10; refine (alive_any _).mono ?_; rintro e w' ⟨rfl, hb⟩)
  go_ret
  exact ⟨rfl, hb⟩

set_option maxRecDepth 100000 in
set_option maxHeartbeats 1000000 in
theorem natPowers_early4 (l : List UInt8) (e b : Int) (h1 : ¬ 12 < l.length) (h2 : 40 < e) (h2b : 5000 < e) (h3 : 200 < b) (w : World) :
    Calls Tryd.prog 5 #[.string ⟨l.toArray⟩, .int .i64 e, .int .i64 b] w fun e w' => e = .returned (.bool true) ∧ Below w.heap.size w w' := by
  go_enter Tryd.func5, Tryd.ntmps5
  go_wp2_with (go_at_call 10; refine (alive_any _).mono ?_; rintro e w' ⟨rfl, hb⟩)
  go_ret
  exact ⟨rfl, hb⟩

set_option maxRecDepth 100000 in
set_option maxHeartbeats 1000000 in
theorem natPowers_early5 (l : List UInt8) (e b : Int) (h1 : ¬ 12 < l.length) (h2 : e ≤ 40) (h3 : ¬ 200 < b) (h4 : b < -200) (w : World) :
    Calls Tryd.prog 5 #[.string ⟨l.toArray⟩, .int .i64 e, .int .i64 b] w fun e w' => e = .returned (.bool true) ∧ Below w.heap.size w w' := by
  go_enter Tryd.func5, Tryd.ntmps5
  go_wp2_with (go_at_call 10; refine (alive_any _).mono ?_; rintro e w' ⟨rfl, hb⟩)
  go_ret
  exact ⟨rfl, hb⟩

set_option maxRecDepth 100000 in
set_option maxHeartbeats 1000000 in
theorem natPowers_early6 (l : List UInt8) (e b : Int) (h1 : ¬ 12 < l.length) (h2 : 40 < e) (h2b : 5000 < e) (h3 : ¬ 200 < b) (h4 : b < -200) (w : World) :
    Calls Tryd.prog 5 #[.string ⟨l.toArray⟩, .int .i64 e, .int .i64 b] w fun e w' => e = .returned (.bool true) ∧ Below w.heap.size w w' := by
  go_enter Tryd.func5, Tryd.ntmps5
  go_wp2_with (go_at_call 10; refine (alive_any _).mono ?_; rintro e w' ⟨rfl, hb⟩)
  go_ret
  exact ⟨rfl, hb⟩
set_option maxRecDepth 100000 in
set_option maxHeartbeats 4000000 in
theorem natPowers_neg_nonneg (l : List UInt8) (e : Int) (h2 : e < 0) (b : Nat) (h1 : l.length ≤ 12) (h3 : b ≤ 200) (w : World) :
    Calls Tryd.prog 5 #[.string ⟨l.toArray⟩, .int .i64 e, .int .i64 (b : Int)] w fun e w' => e = .returned (.bool true) ∧ Below w.heap.size w w' := by
  go_enter Tryd.func5, Tryd.ntmps5
  go_wp2_with fail
  refine (alive_any _).mono ?_
  rintro e w1 ⟨rfl, hb⟩
  have hbf := hb
  clear hb
  go_upto_region 3 with fail
  have hst := one_strs w1 l
  have hal : Below w1.heap.size w1 (w1.alloc (.cells #[.string ⟨l.toArray⟩] 9)) := (Below.refl _ _).alloc (Nat.le_refl _) _
  have hnats := nats_any _ [l] _ hst (by simp) (by intro x hx; simp at hx; subst hx; omega)
  have HNATS := Lib.hid hnats
  clear hst hnats
  go_wp2_with fail
  refine HNATS.out.mono ?_
  rintro e w5 ⟨va, vb, rfl, hrows, hb⟩
  replace hb := hal.trans (hb.mono hal.size)
  have hrows' : Rows2 (w1.heap.size + 1) w5 va vb [pval l] := by simpa using hrows
  obtain ⟨pa, ca, px, cb, a0, x0, rfl, rfl, hba, hbx, na, nx⟩ := rows2_one hrows'
  clear hrows hrows' HNATS hal
  replace hbf := hbf.trans (hb.mono hbf.size)
  clear hb
  have hlA := rpval_limbs l
  have hA12 := pval_12 (l := l) h1
  obtain ⟨A, hA⟩ : ∃ A, A = pval l := ⟨_, rfl⟩
  rw [← hA] at na nx hlA hA12
  clear hA
  obtain ⟨ao, ac, e0, _, _, _, _⟩ := na.open
  obtain rfl : a0 = .slice ao (limbs A).length ac := by simpa using e0
  obtain ⟨xo, xc, rfl, _, _, _, _⟩ := nx.open
  clear e0
  have hA2 := limbs_of_rlimbs hlA
  have HRA : Hid (∀ z, z = A → (rlimbs z).length ≤ 1200) := Lib.hid (fun z e => e ▸ hlA)
  have HLA : Hid (∀ z, z = A → (limbs z).length ≤ 1200) := Lib.hid (fun z e => e ▸ hA2)
  generalize (limbs A).length = al at *
  generalize (rlimbs A).length = xl at *
  have ha1 : (limbs A).length ≤ 1200 := HLA.out A rfl
  have hr1 : (rlimbs A).length ≤ 1200 := HRA.out A rfl
  have hs1 := fun k hk => rl_pow40 (k := k) hA12 hk
  have hs2 := fun k hk => rl_mul2 (k := k) hr1 hk
  have HS1 := Lib.hid hs1
  have HS2 := Lib.hid hs2
  clear hs1 hs2 HRA HLA
  have hpc : powC A e = 1 := by unfold powC; rw [if_pos h2]
  have hpv : powV A e = 0 := by unfold powV; rw [hpc]; rfl
  have h2b : ¬ e > 5000 := by omega
  have HPC := Lib.hid hpc
  have HPV := Lib.hid hpv
  clear hpc hpv
  have ea := hba.cell
  go_wp2_with fail
  refine (pow_any _ A e _ na (by omega)).mono ?_
  rintro e w2 ⟨rv, rfl, hn, hb⟩
  clear ea
  replace hba := hba.kept hb
  replace na := na.below hb
  replace hbx := hbx.kept hb
  replace nx := nx.below hb
  replace hbf := hbf.trans (hb.mono hbf.size)
  clear hb
  rw [HPC.out]
  rw [HPV.out] at hn
  obtain ⟨sv, rfl, ⟨po, pl, pc, rfl⟩, hbp, hb, np⟩ := box_nat hn
  obtain ⟨w3, hwE⟩ : ∃ w3, w3 = w2.alloc (.cells #[Value.slice po pl pc] 25) := ⟨_, rfl⟩
  rw [← hwE] at hbp hb np
  obtain ⟨pp, hpE⟩ : ∃ p, p = w2.heap.size := ⟨_, rfl⟩
  have HW := Lib.hid hwE; clear hwE hn
  go_upto_region 7 with fail
  rw [← HW.out]
  rw [← hpE] at hbp ⊢
  clear hpE HW
  replace hba := hba.kept hb
  replace na := na.below hb
  replace hbx := hbx.kept hb
  replace nx := nx.below hb
  replace hbf := hbf.trans (hb.mono hbf.size)
  clear hb
  have hone := one_is w3 (x := 1) (by omega) (by omega)
  have hb : Below w3.heap.size w3 (w3.alloc (.cells #[.int .i64 ((1 : Nat) : Int)] 3)) := (Below.refl _ _).alloc (Nat.le_refl _) _
  obtain ⟨w7, hw7⟩ : ∃ w7, w7 = w3.alloc (.cells #[.int .i64 ((1 : Nat) : Int)] 3) := ⟨_, rfl⟩
  rw [← hw7] at hone hb
  have HW7 := Lib.hid hw7; clear hw7
  go_upto_region 8 with fail
  have hw7b : w3.alloc (.cells #[.int .i64 1] 3) = w7 := HW7.out.symm
  rw [hw7b]
  clear hw7b
  replace hba := hba.kept hb
  replace na := na.below hb
  replace hbx := hbx.kept hb
  replace nx := nx.below hb
  replace hbp := hbp.kept hb
  replace np := np.below hb
  replace hbf := hbf.trans (hb.mono hbf.size)
  clear hb
  clear hone
  go_wp2_with fail
  go_loopg [13, 14] 0 (fun gg xv kv wr => xv = .slice none 0 0 ∧ kv = .int .i64 0 ∧ Below w7.heap.size w7 wr)
  case atStart => exact ⟨rfl, rfl, Below.refl _ _⟩
  case round =>
    obtain ⟨rfl, rfl, hbr⟩ := hrel
    have hxk := RIs.nil wr
    have hei : ¬ (0 : Int) < e := by omega
    replace hba := hba.kept hbr
    replace na := na.below hbr
    replace hbx := hbx.kept hbr
    replace nx := nx.below hbr
    replace hbp := hbp.kept hbr
    replace np := np.below hbr
    replace hbf := hbf.trans (hbr.mono hbf.size)
    have hmax : max (b : Int) 0 = (b : Int) := by omega
    have hbn : ¬ (b : Int) < 0 := by omega
    go_upto_region 16 with fail
    have ex := hbx.cell
    have HMK : Hid (∀ w', Below wr.heap.size wr w' → w'.cell? ⟨px, 0, none⟩ = some (Value.slice xo xl xc) ∧ Below wr.heap.size wr w') := Lib.hid (fun w' hb => ⟨(hb.cell (p := ⟨px, 0, none⟩) (World.block_lt_of_cell? wr ⟨px, 0, none⟩ ex)).trans ex, hb⟩)
    have HBL : Hid (∀ w', (w'.cell? ⟨px, 0, none⟩ = some (Value.slice xo xl xc) ∧ Below wr.heap.size wr w') → Below wr.heap.size wr w') := Lib.hid (fun w' h => h.2)
    clear ex
    go_wp2_with fail
    refine wp_region_seq (S := fun w' => w'.cell? ⟨px, 0, none⟩ = some (Value.slice xo xl xc) ∧ Below wr.heap.size wr w') [(true, 0), (true, 1), (true, 2), (true, 3), (false, 4), (false, 5), (false, 6), (true, 7)] (by kernel_rfl) (by kernel_rfl) (by kernel_rfl) (by kernel_rfl) (by kernel_rfl) (fun d _ _ _ _ h => by cases d <;> exact h) ?_ (fun hHeld => ?_)
    · first | assumption | exact HMK.out _ (Below.refl _ _).drew
    simp only [pickOps, List.append_eq, List.cons_append, List.nil_append, List.getElem?_toArray, List.getElem?_cons_succ, List.getElem?_cons_zero]
    repeat (first | (refine seq_take (v := ?_) (by rfl) ?_ ?_; rotate_left; (· intro w hSw; (try dsimp only at hSw); go_simp; all_goals with_reducible rfl); (try simp only [Act.put, List.setIfInBounds_toArray, List.set_cons_zero, List.set_cons_succ])) | (refine seq_leave (by rfl) ?_; (try simp only [Act.put, List.setIfInBounds_toArray, List.set_cons_zero, List.set_cons_succ])))
    (refine seq_step (by rfl) (fun K hK => ?_); go_simp; (skip); (first | refine hK.out _ _ ?_ (fun hHeld => ?_) | (go_wp2_with fail; refine hK.out _ _ ?_ (fun hHeld => ?_))); (· first | assumption | exact HMK.out _ (Below.refl _ _).drew); clear hK K; (try simp only [Act.put, List.setIfInBounds_toArray, List.set_cons_zero, List.set_cons_succ]))
    (refine seq_step (by rfl) (fun K hK => ?_); go_simp; (go_at_call 29; (with_reducible refine (rtwo_any b _ (by omega)).mono ?_); rintro e w' ⟨t1, rfl, hq1, hb'⟩; have hS := heldS HMK.out HBL.out hb' (by assumption)); (first | refine hK.out _ _ ?_ (fun hHeld => ?_) | (go_wp2_with fail; refine hK.out _ _ ?_ (fun hHeld => ?_))); (· first | assumption | exact HMK.out _ (Below.refl _ _).drew); clear hK K; (try simp only [Act.put, List.setIfInBounds_toArray, List.set_cons_zero, List.set_cons_succ]))
    (refine seq_step (by rfl) (fun K hK => ?_); go_simp; (go_at_call 28; (with_reducible refine (rmul_any _ _ A (2 ^ b) _ (nx.below (HBL.out _ (by assumption))) hq1 (by omega) (Nat.le_trans (rl_pow (by omega)) (by omega))).mono ?_); rintro e w' ⟨y1, rfl, hq2, hb'⟩; have hS := heldS HMK.out HBL.out hb' (by assumption)); (first | refine hK.out _ _ ?_ (fun hHeld => ?_) | (go_wp2_with fail; refine hK.out _ _ ?_ (fun hHeld => ?_))); (· first | assumption | exact HMK.out _ (Below.refl _ _).drew); clear hK K; (try simp only [Act.put, List.setIfInBounds_toArray, List.set_cons_zero, List.set_cons_succ]))
    repeat (first | (refine seq_take (v := ?_) (by rfl) ?_ ?_; rotate_left; (· intro w hSw; (try dsimp only at hSw); go_simp; all_goals with_reducible rfl); (try simp only [Act.put, List.setIfInBounds_toArray, List.set_cons_zero, List.set_cons_succ])) | (refine seq_leave (by rfl) ?_; (try simp only [Act.put, List.setIfInBounds_toArray, List.set_cons_zero, List.set_cons_succ])))
    refine seq_end ?_
    have hb := hHeld.2
    clear HMK HBL hHeld hq1
    have hq3 := hq2
    clear hq2
    obtain ⟨wq1, hwq⟩ : ∃ x, x = w' := ⟨_, rfl⟩
    subst hwq
    replace hba := hba.kept hb
    replace na := na.below hb
    replace hbx := hbx.kept hb
    replace nx := nx.below hb
    replace hbp := hbp.kept hb
    replace np := np.below hb
    replace hxk := hxk.below hb
    replace hbf := hbf.trans (hb.mono hbf.size)
    clear hb
    have ep := hbp.cell
    go_wp2_with fail
    refine (same_any _ _ (0) _ np hxk (by rw [rlimbs_zero]; simp)).mono ?_
    rintro e w41 ⟨rfl, hb⟩
    clear ep
    replace hba := hba.kept hb
    replace na := na.below hb
    replace hbx := hbx.kept hb
    replace nx := nx.below hb
    replace hbp := hbp.kept hb
    replace np := np.below hb
    replace hxk := hxk.below hb
    replace hq3 := hq3.below hb
    replace hbf := hbf.trans (hb.mono hbf.size)
    clear hb
    have ea := hba.cell
    go_wp2_with fail
    refine (shift_any _ A b _ na (by omega) (by omega)).mono ?_
    rintro e w42 ⟨s1, rfl, hq7, hb⟩
    clear ea
    replace hba := hba.kept hb
    replace na := na.below hb
    replace hbx := hbx.kept hb
    replace nx := nx.below hb
    replace hbp := hbp.kept hb
    replace np := np.below hb
    replace hxk := hxk.below hb
    replace hq3 := hq3.below hb
    replace hbf := hbf.trans (hb.mono hbf.size)
    clear hb
    go_wp2_with fail
    refine (same_any _ _ (A * 2 ^ b) _ hq7 hq3 (HS2.out b (by omega))).mono ?_
    rintro e w43 ⟨rfl, hb⟩
    replace hba := hba.kept hb
    replace na := na.below hb
    replace hbx := hbx.kept hb
    replace nx := nx.below hb
    replace hbp := hbp.kept hb
    replace np := np.below hb
    replace hxk := hxk.below hb
    replace hq3 := hq3.below hb
    replace hbf := hbf.trans (hb.mono hbf.size)
    clear hb
    go_wp2
    go_ret
    exact ⟨rfl, hbf⟩

set_option maxRecDepth 100000 in
set_option maxHeartbeats 4000000 in
theorem natPowers_neg_neg (l : List UInt8) (e : Int) (h2 : e < 0) (b : Nat) (h1 : l.length ≤ 12) (h3 : b ≤ 200) (hb0 : 0 < b) (w : World) :
    Calls Tryd.prog 5 #[.string ⟨l.toArray⟩, .int .i64 e, .int .i64 (-(b : Int))] w fun e w' => e = .returned (.bool true) ∧ Below w.heap.size w w' := by
  go_enter Tryd.func5, Tryd.ntmps5
  go_wp2_with fail
  refine (alive_any _).mono ?_
  rintro e w1 ⟨rfl, hb⟩
  have hbf := hb
  clear hb
  go_upto_region 3 with fail
  have hst := one_strs w1 l
  have hal : Below w1.heap.size w1 (w1.alloc (.cells #[.string ⟨l.toArray⟩] 9)) := (Below.refl _ _).alloc (Nat.le_refl _) _
  have hnats := nats_any _ [l] _ hst (by simp) (by intro x hx; simp at hx; subst hx; omega)
  have HNATS := Lib.hid hnats
  clear hst hnats
  go_wp2_with fail
  refine HNATS.out.mono ?_
  rintro e w5 ⟨va, vb, rfl, hrows, hb⟩
  replace hb := hal.trans (hb.mono hal.size)
  have hrows' : Rows2 (w1.heap.size + 1) w5 va vb [pval l] := by simpa using hrows
  obtain ⟨pa, ca, px, cb, a0, x0, rfl, rfl, hba, hbx, na, nx⟩ := rows2_one hrows'
  clear hrows hrows' HNATS hal
  replace hbf := hbf.trans (hb.mono hbf.size)
  clear hb
  have hlA := rpval_limbs l
  have hA12 := pval_12 (l := l) h1
  obtain ⟨A, hA⟩ : ∃ A, A = pval l := ⟨_, rfl⟩
  rw [← hA] at na nx hlA hA12
  clear hA
  obtain ⟨ao, ac, e0, _, _, _, _⟩ := na.open
  obtain rfl : a0 = .slice ao (limbs A).length ac := by simpa using e0
  obtain ⟨xo, xc, rfl, _, _, _, _⟩ := nx.open
  clear e0
  have hA2 := limbs_of_rlimbs hlA
  have HRA : Hid (∀ z, z = A → (rlimbs z).length ≤ 1200) := Lib.hid (fun z e => e ▸ hlA)
  have HLA : Hid (∀ z, z = A → (limbs z).length ≤ 1200) := Lib.hid (fun z e => e ▸ hA2)
  generalize (limbs A).length = al at *
  generalize (rlimbs A).length = xl at *
  have ha1 : (limbs A).length ≤ 1200 := HLA.out A rfl
  have hr1 : (rlimbs A).length ≤ 1200 := HRA.out A rfl
  have hs1 := fun k hk => rl_pow40 (k := k) hA12 hk
  have hs2 := fun k hk => rl_mul2 (k := k) hr1 hk
  have HS1 := Lib.hid hs1
  have HS2 := Lib.hid hs2
  clear hs1 hs2 HRA HLA
  have hpc : powC A e = 1 := by unfold powC; rw [if_pos h2]
  have hpv : powV A e = 0 := by unfold powV; rw [hpc]; rfl
  have h2b : ¬ e > 5000 := by omega
  have HPC := Lib.hid hpc
  have HPV := Lib.hid hpv
  clear hpc hpv
  have ea := hba.cell
  go_wp2_with fail
  refine (pow_any _ A e _ na (by omega)).mono ?_
  rintro e w2 ⟨rv, rfl, hn, hb⟩
  clear ea
  replace hba := hba.kept hb
  replace na := na.below hb
  replace hbx := hbx.kept hb
  replace nx := nx.below hb
  replace hbf := hbf.trans (hb.mono hbf.size)
  clear hb
  rw [HPC.out]
  rw [HPV.out] at hn
  obtain ⟨sv, rfl, ⟨po, pl, pc, rfl⟩, hbp, hb, np⟩ := box_nat hn
  obtain ⟨w3, hwE⟩ : ∃ w3, w3 = w2.alloc (.cells #[Value.slice po pl pc] 25) := ⟨_, rfl⟩
  rw [← hwE] at hbp hb np
  obtain ⟨pp, hpE⟩ : ∃ p, p = w2.heap.size := ⟨_, rfl⟩
  have HW := Lib.hid hwE; clear hwE hn
  go_upto_region 7 with fail
  rw [← HW.out]
  rw [← hpE] at hbp ⊢
  clear hpE HW
  replace hba := hba.kept hb
  replace na := na.below hb
  replace hbx := hbx.kept hb
  replace nx := nx.below hb
  replace hbf := hbf.trans (hb.mono hbf.size)
  clear hb
  have hone := one_is w3 (x := 1) (by omega) (by omega)
  have hb : Below w3.heap.size w3 (w3.alloc (.cells #[.int .i64 ((1 : Nat) : Int)] 3)) := (Below.refl _ _).alloc (Nat.le_refl _) _
  obtain ⟨w7, hw7⟩ : ∃ w7, w7 = w3.alloc (.cells #[.int .i64 ((1 : Nat) : Int)] 3) := ⟨_, rfl⟩
  rw [← hw7] at hone hb
  have HW7 := Lib.hid hw7; clear hw7
  go_upto_region 8 with fail
  have hw7b : w3.alloc (.cells #[.int .i64 1] 3) = w7 := HW7.out.symm
  rw [hw7b]
  clear hw7b
  replace hba := hba.kept hb
  replace na := na.below hb
  replace hbx := hbx.kept hb
  replace nx := nx.below hb
  replace hbp := hbp.kept hb
  replace np := np.below hb
  replace hbf := hbf.trans (hb.mono hbf.size)
  clear hb
  clear hone
  go_wp2_with fail
  go_loopg [13, 14] 0 (fun gg xv kv wr => xv = .slice none 0 0 ∧ kv = .int .i64 0 ∧ Below w7.heap.size w7 wr)
  case atStart => exact ⟨rfl, rfl, Below.refl _ _⟩
  case round =>
    obtain ⟨rfl, rfl, hbr⟩ := hrel
    have hxk := RIs.nil wr
    have hei : ¬ (0 : Int) < e := by omega
    replace hba := hba.kept hbr
    replace na := na.below hbr
    replace hbx := hbx.kept hbr
    replace nx := nx.below hbr
    replace hbp := hbp.kept hbr
    replace np := np.below hbr
    replace hbf := hbf.trans (hbr.mono hbf.size)
    have hbn : (-(b : Int)) < 0 := by omega
    have hmax : max (-(b : Int)) 0 = ((0 : Nat) : Int) := by omega
    have hneg : IntKind.i64.wrap (b : Int) = (b : Int) := IntWalk.i64_in _ (by omega)
    go_upto_region 16 with fail
    have ex := hbx.cell
    have HMK : Hid (∀ w', Below wr.heap.size wr w' → w'.cell? ⟨px, 0, none⟩ = some (Value.slice xo xl xc) ∧ Below wr.heap.size wr w') := Lib.hid (fun w' hb => ⟨(hb.cell (p := ⟨px, 0, none⟩) (World.block_lt_of_cell? wr ⟨px, 0, none⟩ ex)).trans ex, hb⟩)
    have HBL : Hid (∀ w', (w'.cell? ⟨px, 0, none⟩ = some (Value.slice xo xl xc) ∧ Below wr.heap.size wr w') → Below wr.heap.size wr w') := Lib.hid (fun w' h => h.2)
    clear ex
    go_wp2_with fail
    refine wp_region_seq (S := fun w' => w'.cell? ⟨px, 0, none⟩ = some (Value.slice xo xl xc) ∧ Below wr.heap.size wr w') [(true, 0), (true, 1), (true, 2), (true, 3), (false, 4), (false, 5), (false, 6), (true, 7)] (by kernel_rfl) (by kernel_rfl) (by kernel_rfl) (by kernel_rfl) (by kernel_rfl) (fun d _ _ _ _ h => by cases d <;> exact h) ?_ (fun hHeld => ?_)
    · first | assumption | exact HMK.out _ (Below.refl _ _).drew
    simp only [pickOps, List.append_eq, List.cons_append, List.nil_append, List.getElem?_toArray, List.getElem?_cons_succ, List.getElem?_cons_zero]
    repeat (first | (refine seq_take (v := ?_) (by rfl) ?_ ?_; rotate_left; (· intro w hSw; (try dsimp only at hSw); go_simp; all_goals with_reducible rfl); (try simp only [Act.put, List.setIfInBounds_toArray, List.set_cons_zero, List.set_cons_succ])) | (refine seq_leave (by rfl) ?_; (try simp only [Act.put, List.setIfInBounds_toArray, List.set_cons_zero, List.set_cons_succ])))
    (refine seq_step (by rfl) (fun K hK => ?_); go_simp; (skip); (first | refine hK.out _ _ ?_ (fun hHeld => ?_) | (go_wp2_with fail; refine hK.out _ _ ?_ (fun hHeld => ?_))); (· first | assumption | exact HMK.out _ (Below.refl _ _).drew); clear hK K; (try simp only [Act.put, List.setIfInBounds_toArray, List.set_cons_zero, List.set_cons_succ]))
    (refine seq_step (by rfl) (fun K hK => ?_); go_simp; (go_at_call 29; (with_reducible refine (rtwo_z _).mono ?_); rintro e w' ⟨t1, rfl, hq1, hb'⟩; have hS := heldS HMK.out HBL.out hb' (by assumption)); (first | refine hK.out _ _ ?_ (fun hHeld => ?_) | (go_wp2_with fail; refine hK.out _ _ ?_ (fun hHeld => ?_))); (· first | assumption | exact HMK.out _ (Below.refl _ _).drew); clear hK K; (try simp only [Act.put, List.setIfInBounds_toArray, List.set_cons_zero, List.set_cons_succ]))
    (refine seq_step (by rfl) (fun K hK => ?_); go_simp; (go_at_call 28; (with_reducible refine (rmul_any _ _ A (2 ^ 0) _ (nx.below (HBL.out _ (by assumption))) hq1 (by omega) (Nat.le_trans (rl_pow (by omega)) (by omega))).mono ?_); rintro e w' ⟨y1, rfl, hq2, hb'⟩; have hS := heldS HMK.out HBL.out hb' (by assumption)); (first | refine hK.out _ _ ?_ (fun hHeld => ?_) | (go_wp2_with fail; refine hK.out _ _ ?_ (fun hHeld => ?_))); (· first | assumption | exact HMK.out _ (Below.refl _ _).drew); clear hK K; (try simp only [Act.put, List.setIfInBounds_toArray, List.set_cons_zero, List.set_cons_succ]))
    repeat (first | (refine seq_take (v := ?_) (by rfl) ?_ ?_; rotate_left; (· intro w hSw; (try dsimp only at hSw); go_simp; all_goals with_reducible rfl); (try simp only [Act.put, List.setIfInBounds_toArray, List.set_cons_zero, List.set_cons_succ])) | (refine seq_leave (by rfl) ?_; (try simp only [Act.put, List.setIfInBounds_toArray, List.set_cons_zero, List.set_cons_succ])))
    refine seq_end ?_
    have hb := hHeld.2
    clear HMK HBL hHeld hq1
    have hq3 := hq2
    clear hq2
    obtain ⟨wq1, hwq⟩ : ∃ x, x = w' := ⟨_, rfl⟩
    subst hwq
    replace hba := hba.kept hb
    replace na := na.below hb
    replace hbx := hbx.kept hb
    replace nx := nx.below hb
    replace hbp := hbp.kept hb
    replace np := np.below hb
    replace hxk := hxk.below hb
    replace hbf := hbf.trans (hb.mono hbf.size)
    clear hb
    clear hq3
    go_upto_region 18 with fail
    have ex := hbx.cell
    have HMK : Hid (∀ w', Below wq1.heap.size wq1 w' → w'.cell? ⟨px, 0, none⟩ = some (Value.slice xo xl xc) ∧ Below wq1.heap.size wq1 w') := Lib.hid (fun w' hb => ⟨(hb.cell (p := ⟨px, 0, none⟩) (World.block_lt_of_cell? wq1 ⟨px, 0, none⟩ ex)).trans ex, hb⟩)
    have HBL : Hid (∀ w', (w'.cell? ⟨px, 0, none⟩ = some (Value.slice xo xl xc) ∧ Below wq1.heap.size wq1 w') → Below wq1.heap.size wq1 w') := Lib.hid (fun w' h => h.2)
    clear ex
    go_wp2_with fail
    refine wp_region_seq (S := fun w' => w'.cell? ⟨px, 0, none⟩ = some (Value.slice xo xl xc) ∧ Below wq1.heap.size wq1 w') [(true, 0), (true, 1), (true, 2), (true, 3), (true, 4), (false, 5), (false, 6), (true, 7), (true, 8), (true, 9), (true, 10)] (by kernel_rfl) (by kernel_rfl) (by kernel_rfl) (by kernel_rfl) (by kernel_rfl) (fun d _ _ _ _ h => by cases d <;> exact h) ?_ (fun hHeld => ?_)
    · first | assumption | exact HMK.out _ (Below.refl _ _).drew
    simp only [pickOps, List.append_eq, List.cons_append, List.nil_append, List.getElem?_toArray, List.getElem?_cons_succ, List.getElem?_cons_zero]
    repeat (first | (refine seq_take (v := ?_) (by rfl) ?_ ?_; rotate_left; (· intro w hSw; (try dsimp only at hSw); go_simp; all_goals with_reducible rfl); (try simp only [Act.put, List.setIfInBounds_toArray, List.set_cons_zero, List.set_cons_succ])) | (refine seq_leave (by rfl) ?_; (try simp only [Act.put, List.setIfInBounds_toArray, List.set_cons_zero, List.set_cons_succ])))
    (refine seq_step (by rfl) (fun K hK => ?_); go_simp; (go_at_call 29; (with_reducible refine (rtwo_any b _ (by omega)).mono ?_); rintro e w' ⟨t2, rfl, hq4, hb'⟩; have hS := heldS HMK.out HBL.out hb' (by assumption)); (first | refine hK.out _ _ ?_ (fun hHeld => ?_) | (go_wp2_with fail; refine hK.out _ _ ?_ (fun hHeld => ?_))); (· first | assumption | exact HMK.out _ (Below.refl _ _).drew); clear hK K; (try simp only [Act.put, List.setIfInBounds_toArray, List.set_cons_zero, List.set_cons_succ]))
    (refine seq_step (by rfl) (fun K hK => ?_); go_simp; (go_at_call 26; (with_reducible refine (rdivmod_any _ _ A (2 ^ b) _ (nx.below (HBL.out _ (by assumption))) hq4 (by omega) (Nat.le_trans (rl_pow (by omega)) (by omega)) (Nat.two_pow_pos b)).mono ?_); rintro e w' ⟨y2, y3, rfl, hq5, hq6, hb'⟩; have hS := heldS HMK.out HBL.out hb' (by assumption)); (first | refine hK.out _ _ ?_ (fun hHeld => ?_) | (go_wp2_with fail; refine hK.out _ _ ?_ (fun hHeld => ?_))); (· first | assumption | exact HMK.out _ (Below.refl _ _).drew); clear hK K; (try simp only [Act.put, List.setIfInBounds_toArray, List.set_cons_zero, List.set_cons_succ]))
    repeat (first | (refine seq_take (v := ?_) (by rfl) ?_ ?_; rotate_left; (· intro w hSw; (try dsimp only at hSw); go_simp; all_goals with_reducible rfl); (try simp only [Act.put, List.setIfInBounds_toArray, List.set_cons_zero, List.set_cons_succ])) | (refine seq_leave (by rfl) ?_; (try simp only [Act.put, List.setIfInBounds_toArray, List.set_cons_zero, List.set_cons_succ])))
    refine seq_end ?_
    have hb := hHeld.2
    clear HMK HBL hHeld hq4 hq6
    obtain ⟨wq2, hwq⟩ : ∃ x, x = w' := ⟨_, rfl⟩
    subst hwq
    replace hba := hba.kept hb
    replace na := na.below hb
    replace hbx := hbx.kept hb
    replace nx := nx.below hb
    replace hbp := hbp.kept hb
    replace np := np.below hb
    replace hxk := hxk.below hb
    replace hbf := hbf.trans (hb.mono hbf.size)
    clear hb
    have ep := hbp.cell
    go_wp2_with fail
    refine (same_any _ _ (0) _ np hxk (by rw [rlimbs_zero]; simp)).mono ?_
    rintro e w41 ⟨rfl, hb⟩
    clear ep
    replace hba := hba.kept hb
    replace na := na.below hb
    replace hbx := hbx.kept hb
    replace nx := nx.below hb
    replace hbp := hbp.kept hb
    replace np := np.below hb
    replace hxk := hxk.below hb
    replace hq5 := hq5.below hb
    replace hbf := hbf.trans (hb.mono hbf.size)
    clear hb
    have ea := hba.cell
    go_wp2_with fail
    refine (shift_down _ A b _ na (by omega) (by omega)).mono ?_
    rintro e w42 ⟨s1, rfl, hq7, hb⟩
    clear ea
    replace hba := hba.kept hb
    replace na := na.below hb
    replace hbx := hbx.kept hb
    replace nx := nx.below hb
    replace hbp := hbp.kept hb
    replace np := np.below hb
    replace hxk := hxk.below hb
    replace hq5 := hq5.below hb
    replace hbf := hbf.trans (hb.mono hbf.size)
    clear hb
    go_wp2_with fail
    refine (same_any _ _ (A / 2 ^ b) _ hq7 hq5 (Nat.le_trans (rlimbs_length_mono (Nat.div_le_self _ _)) (by omega))).mono ?_
    rintro e w43 ⟨rfl, hb⟩
    replace hba := hba.kept hb
    replace na := na.below hb
    replace hbx := hbx.kept hb
    replace nx := nx.below hb
    replace hbp := hbp.kept hb
    replace np := np.below hb
    replace hxk := hxk.below hb
    replace hq5 := hq5.below hb
    replace hbf := hbf.trans (hb.mono hbf.size)
    clear hb
    go_wp2
    go_ret
    exact ⟨rfl, hbf⟩

set_option maxRecDepth 100000 in
set_option maxHeartbeats 4000000 in
theorem natPowers_mid_nonneg (l : List UInt8) (n : Nat) (h2 : n ≤ 40) (b : Nat) (h1 : l.length ≤ 12) (h3 : b ≤ 200) (w : World) :
    Calls Tryd.prog 5 #[.string ⟨l.toArray⟩, .int .i64 (n : Int), .int .i64 (b : Int)] w fun e w' => e = .returned (.bool true) ∧ Below w.heap.size w w' := by
  go_enter Tryd.func5, Tryd.ntmps5
  go_wp2_with fail
  refine (alive_any _).mono ?_
  rintro e w1 ⟨rfl, hb⟩
  have hbf := hb
  clear hb
  go_upto_region 3 with fail
  have hst := one_strs w1 l
  have hal : Below w1.heap.size w1 (w1.alloc (.cells #[.string ⟨l.toArray⟩] 9)) := (Below.refl _ _).alloc (Nat.le_refl _) _
  have hnats := nats_any _ [l] _ hst (by simp) (by intro x hx; simp at hx; subst hx; omega)
  have HNATS := Lib.hid hnats
  clear hst hnats
  go_wp2_with fail
  refine HNATS.out.mono ?_
  rintro e w5 ⟨va, vb, rfl, hrows, hb⟩
  replace hb := hal.trans (hb.mono hal.size)
  have hrows' : Rows2 (w1.heap.size + 1) w5 va vb [pval l] := by simpa using hrows
  obtain ⟨pa, ca, px, cb, a0, x0, rfl, rfl, hba, hbx, na, nx⟩ := rows2_one hrows'
  clear hrows hrows' HNATS hal
  replace hbf := hbf.trans (hb.mono hbf.size)
  clear hb
  have hlA := rpval_limbs l
  have hA12 := pval_12 (l := l) h1
  obtain ⟨A, hA⟩ : ∃ A, A = pval l := ⟨_, rfl⟩
  rw [← hA] at na nx hlA hA12
  clear hA
  obtain ⟨ao, ac, e0, _, _, _, _⟩ := na.open
  obtain rfl : a0 = .slice ao (limbs A).length ac := by simpa using e0
  obtain ⟨xo, xc, rfl, _, _, _, _⟩ := nx.open
  clear e0
  have hA2 := limbs_of_rlimbs hlA
  have HRA : Hid (∀ z, z = A → (rlimbs z).length ≤ 1200) := Lib.hid (fun z e => e ▸ hlA)
  have HLA : Hid (∀ z, z = A → (limbs z).length ≤ 1200) := Lib.hid (fun z e => e ▸ hA2)
  generalize (limbs A).length = al at *
  generalize (rlimbs A).length = xl at *
  have ha1 : (limbs A).length ≤ 1200 := HLA.out A rfl
  have hr1 : (rlimbs A).length ≤ 1200 := HRA.out A rfl
  have hs1 := fun k hk => rl_pow40 (k := k) hA12 hk
  have hs2 := fun k hk => rl_mul2 (k := k) hr1 hk
  have HS1 := Lib.hid hs1
  have HS2 := Lib.hid hs2
  clear hs1 hs2 HRA HLA
  have hpc : powC A (n : Int) = 0 := pow40 hA12 h2
  have hpv : powV A (n : Int) = A ^ n := by unfold powV; rw [hpc, if_pos rfl, Int.toNat_natCast]
  have h2a : ¬ (n : Int) < 0 := by omega
  have h2b : ¬ (n : Int) > 5000 := by omega
  have HPC := Lib.hid hpc
  have HPV := Lib.hid hpv
  clear hpc hpv
  have ea := hba.cell
  go_wp2_with fail
  refine (pow_any _ A (n : Int) _ na (by omega)).mono ?_
  rintro e w2 ⟨rv, rfl, hn, hb⟩
  clear ea
  replace hba := hba.kept hb
  replace na := na.below hb
  replace hbx := hbx.kept hb
  replace nx := nx.below hb
  replace hbf := hbf.trans (hb.mono hbf.size)
  clear hb
  rw [HPC.out]
  rw [HPV.out] at hn
  obtain ⟨sv, rfl, ⟨po, pl, pc, rfl⟩, hbp, hb, np⟩ := box_nat hn
  obtain ⟨w3, hwE⟩ : ∃ w3, w3 = w2.alloc (.cells #[Value.slice po pl pc] 25) := ⟨_, rfl⟩
  rw [← hwE] at hbp hb np
  obtain ⟨pp, hpE⟩ : ∃ p, p = w2.heap.size := ⟨_, rfl⟩
  have HW := Lib.hid hwE; clear hwE hn
  go_upto_region 7 with fail
  rw [← HW.out]
  rw [← hpE] at hbp ⊢
  clear hpE HW
  replace hba := hba.kept hb
  replace na := na.below hb
  replace hbx := hbx.kept hb
  replace nx := nx.below hb
  replace hbf := hbf.trans (hb.mono hbf.size)
  clear hb
  have hone := one_is w3 (x := 1) (by omega) (by omega)
  have hb : Below w3.heap.size w3 (w3.alloc (.cells #[.int .i64 ((1 : Nat) : Int)] 3)) := (Below.refl _ _).alloc (Nat.le_refl _) _
  obtain ⟨w7, hw7⟩ : ∃ w7, w7 = w3.alloc (.cells #[.int .i64 ((1 : Nat) : Int)] 3) := ⟨_, rfl⟩
  rw [← hw7] at hone hb
  have HW7 := Lib.hid hw7; clear hw7
  go_upto_region 8 with fail
  have hw7b : w3.alloc (.cells #[.int .i64 1] 3) = w7 := HW7.out.symm
  rw [hw7b]
  clear hw7b
  replace hba := hba.kept hb
  replace na := na.below hb
  replace hbx := hbx.kept hb
  replace nx := nx.below hb
  replace hbp := hbp.kept hb
  replace np := np.below hb
  replace hbf := hbf.trans (hb.mono hbf.size)
  clear hb
  have e7 := hbx.cell
  go_wp2_with fail
  clear e7
  go_loopg [13, 14] n (fun gg xv kv wr => ∃ k : Nat, k + gg = n ∧ kv = .int .i64 (k : Int) ∧ RIs wr xv (A ^ k) ∧ Below w7.heap.size w7 wr)
  case atStart => exact ⟨0, by omega, rfl, by rw [Nat.pow_zero]; exact hone, Below.refl _ _⟩
  case round =>
    obtain ⟨k, hk, rfl, hxk, hbr⟩ := hrel
    by_cases hkn : k < n
    · have hb7 := hbx.kept hbr
      have e7 := hb7.cell
      go_wp2_with fail
      refine (rmul_any _ _ (A ^ k) A wr hxk (nx.below hbr) (Nat.le_trans (HS1.out k (by omega)) (by omega)) (by omega)).mono ?_
      rintro e w8 ⟨r2, rfl, hq2, hb8⟩
      rw [← Nat.pow_succ] at hq2
      clear e7
      go_wp2_with fail
      go_roundg (gk - 1)
      case measure => omega
      case rel => exact ⟨k + 1, by omega, by go_num, hq2, hbr.trans (hb8.mono hbr.size)⟩
    · obtain rfl : k = n := by omega
      clear hone
      replace hba := hba.kept hbr
      replace na := na.below hbr
      replace hbx := hbx.kept hbr
      replace nx := nx.below hbr
      replace hbp := hbp.kept hbr
      replace np := np.below hbr
      replace hbf := hbf.trans (hbr.mono hbf.size)
      have hmax : max (b : Int) 0 = (b : Int) := by omega
      have hbn : ¬ (b : Int) < 0 := by omega
      go_upto_region 16 with fail
      have ex := hbx.cell
      have HMK : Hid (∀ w', Below wr.heap.size wr w' → w'.cell? ⟨px, 0, none⟩ = some (Value.slice xo xl xc) ∧ Below wr.heap.size wr w') := Lib.hid (fun w' hb => ⟨(hb.cell (p := ⟨px, 0, none⟩) (World.block_lt_of_cell? wr ⟨px, 0, none⟩ ex)).trans ex, hb⟩)
      have HBL : Hid (∀ w', (w'.cell? ⟨px, 0, none⟩ = some (Value.slice xo xl xc) ∧ Below wr.heap.size wr w') → Below wr.heap.size wr w') := Lib.hid (fun w' h => h.2)
      clear ex
      go_wp2_with fail
      refine wp_region_seq (S := fun w' => w'.cell? ⟨px, 0, none⟩ = some (Value.slice xo xl xc) ∧ Below wr.heap.size wr w') [(true, 0), (true, 1), (true, 2), (true, 3), (false, 4), (false, 5), (false, 6), (true, 7)] (by kernel_rfl) (by kernel_rfl) (by kernel_rfl) (by kernel_rfl) (by kernel_rfl) (fun d _ _ _ _ h => by cases d <;> exact h) ?_ (fun hHeld => ?_)
      · first | assumption | exact HMK.out _ (Below.refl _ _).drew
      simp only [pickOps, List.append_eq, List.cons_append, List.nil_append, List.getElem?_toArray, List.getElem?_cons_succ, List.getElem?_cons_zero]
      repeat (first | (refine seq_take (v := ?_) (by rfl) ?_ ?_; rotate_left; (· intro w hSw; (try dsimp only at hSw); go_simp; all_goals with_reducible rfl); (try simp only [Act.put, List.setIfInBounds_toArray, List.set_cons_zero, List.set_cons_succ])) | (refine seq_leave (by rfl) ?_; (try simp only [Act.put, List.setIfInBounds_toArray, List.set_cons_zero, List.set_cons_succ])))
      (refine seq_step (by rfl) (fun K hK => ?_); go_simp; (skip); (first | refine hK.out _ _ ?_ (fun hHeld => ?_) | (go_wp2_with fail; refine hK.out _ _ ?_ (fun hHeld => ?_))); (· first | assumption | exact HMK.out _ (Below.refl _ _).drew); clear hK K; (try simp only [Act.put, List.setIfInBounds_toArray, List.set_cons_zero, List.set_cons_succ]))
      (refine seq_step (by rfl) (fun K hK => ?_); go_simp; (go_at_call 29; (with_reducible refine (rtwo_any b _ (by omega)).mono ?_); rintro e w' ⟨t1, rfl, hq1, hb'⟩; have hS := heldS HMK.out HBL.out hb' (by assumption)); (first | refine hK.out _ _ ?_ (fun hHeld => ?_) | (go_wp2_with fail; refine hK.out _ _ ?_ (fun hHeld => ?_))); (· first | assumption | exact HMK.out _ (Below.refl _ _).drew); clear hK K; (try simp only [Act.put, List.setIfInBounds_toArray, List.set_cons_zero, List.set_cons_succ]))
      (refine seq_step (by rfl) (fun K hK => ?_); go_simp; (go_at_call 28; (with_reducible refine (rmul_any _ _ A (2 ^ b) _ (nx.below (HBL.out _ (by assumption))) hq1 (by omega) (Nat.le_trans (rl_pow (by omega)) (by omega))).mono ?_); rintro e w' ⟨y1, rfl, hq2, hb'⟩; have hS := heldS HMK.out HBL.out hb' (by assumption)); (first | refine hK.out _ _ ?_ (fun hHeld => ?_) | (go_wp2_with fail; refine hK.out _ _ ?_ (fun hHeld => ?_))); (· first | assumption | exact HMK.out _ (Below.refl _ _).drew); clear hK K; (try simp only [Act.put, List.setIfInBounds_toArray, List.set_cons_zero, List.set_cons_succ]))
      repeat (first | (refine seq_take (v := ?_) (by rfl) ?_ ?_; rotate_left; (· intro w hSw; (try dsimp only at hSw); go_simp; all_goals with_reducible rfl); (try simp only [Act.put, List.setIfInBounds_toArray, List.set_cons_zero, List.set_cons_succ])) | (refine seq_leave (by rfl) ?_; (try simp only [Act.put, List.setIfInBounds_toArray, List.set_cons_zero, List.set_cons_succ])))
      refine seq_end ?_
      have hb := hHeld.2
      clear HMK HBL hHeld hq1
      have hq3 := hq2
      clear hq2
      obtain ⟨wq1, hwq⟩ : ∃ x, x = w' := ⟨_, rfl⟩
      subst hwq
      replace hba := hba.kept hb
      replace na := na.below hb
      replace hbx := hbx.kept hb
      replace nx := nx.below hb
      replace hbp := hbp.kept hb
      replace np := np.below hb
      replace hxk := hxk.below hb
      replace hbf := hbf.trans (hb.mono hbf.size)
      clear hb
      have ep := hbp.cell
      go_wp2_with fail
      refine (same_any _ _ (A ^ k) _ np hxk (Nat.le_trans (HS1.out k (by omega)) (by omega))).mono ?_
      rintro e w41 ⟨rfl, hb⟩
      clear ep
      replace hba := hba.kept hb
      replace na := na.below hb
      replace hbx := hbx.kept hb
      replace nx := nx.below hb
      replace hbp := hbp.kept hb
      replace np := np.below hb
      replace hxk := hxk.below hb
      replace hq3 := hq3.below hb
      replace hbf := hbf.trans (hb.mono hbf.size)
      clear hb
      have ea := hba.cell
      go_wp2_with fail
      refine (shift_any _ A b _ na (by omega) (by omega)).mono ?_
      rintro e w42 ⟨s1, rfl, hq7, hb⟩
      clear ea
      replace hba := hba.kept hb
      replace na := na.below hb
      replace hbx := hbx.kept hb
      replace nx := nx.below hb
      replace hbp := hbp.kept hb
      replace np := np.below hb
      replace hxk := hxk.below hb
      replace hq3 := hq3.below hb
      replace hbf := hbf.trans (hb.mono hbf.size)
      clear hb
      go_wp2_with fail
      refine (same_any _ _ (A * 2 ^ b) _ hq7 hq3 (HS2.out b (by omega))).mono ?_
      rintro e w43 ⟨rfl, hb⟩
      replace hba := hba.kept hb
      replace na := na.below hb
      replace hbx := hbx.kept hb
      replace nx := nx.below hb
      replace hbp := hbp.kept hb
      replace np := np.below hb
      replace hxk := hxk.below hb
      replace hq3 := hq3.below hb
      replace hbf := hbf.trans (hb.mono hbf.size)
      clear hb
      go_wp2
      go_ret
      exact ⟨rfl, hbf⟩

set_option maxRecDepth 100000 in
set_option maxHeartbeats 4000000 in
theorem natPowers_mid_neg (l : List UInt8) (n : Nat) (h2 : n ≤ 40) (b : Nat) (h1 : l.length ≤ 12) (h3 : b ≤ 200) (hb0 : 0 < b) (w : World) :
    Calls Tryd.prog 5 #[.string ⟨l.toArray⟩, .int .i64 (n : Int), .int .i64 (-(b : Int))] w fun e w' => e = .returned (.bool true) ∧ Below w.heap.size w w' := by
  go_enter Tryd.func5, Tryd.ntmps5
  go_wp2_with fail
  refine (alive_any _).mono ?_
  rintro e w1 ⟨rfl, hb⟩
  have hbf := hb
  clear hb
  go_upto_region 3 with fail
  have hst := one_strs w1 l
  have hal : Below w1.heap.size w1 (w1.alloc (.cells #[.string ⟨l.toArray⟩] 9)) := (Below.refl _ _).alloc (Nat.le_refl _) _
  have hnats := nats_any _ [l] _ hst (by simp) (by intro x hx; simp at hx; subst hx; omega)
  have HNATS := Lib.hid hnats
  clear hst hnats
  go_wp2_with fail
  refine HNATS.out.mono ?_
  rintro e w5 ⟨va, vb, rfl, hrows, hb⟩
  replace hb := hal.trans (hb.mono hal.size)
  have hrows' : Rows2 (w1.heap.size + 1) w5 va vb [pval l] := by simpa using hrows
  obtain ⟨pa, ca, px, cb, a0, x0, rfl, rfl, hba, hbx, na, nx⟩ := rows2_one hrows'
  clear hrows hrows' HNATS hal
  replace hbf := hbf.trans (hb.mono hbf.size)
  clear hb
  have hlA := rpval_limbs l
  have hA12 := pval_12 (l := l) h1
  obtain ⟨A, hA⟩ : ∃ A, A = pval l := ⟨_, rfl⟩
  rw [← hA] at na nx hlA hA12
  clear hA
  obtain ⟨ao, ac, e0, _, _, _, _⟩ := na.open
  obtain rfl : a0 = .slice ao (limbs A).length ac := by simpa using e0
  obtain ⟨xo, xc, rfl, _, _, _, _⟩ := nx.open
  clear e0
  have hA2 := limbs_of_rlimbs hlA
  have HRA : Hid (∀ z, z = A → (rlimbs z).length ≤ 1200) := Lib.hid (fun z e => e ▸ hlA)
  have HLA : Hid (∀ z, z = A → (limbs z).length ≤ 1200) := Lib.hid (fun z e => e ▸ hA2)
  generalize (limbs A).length = al at *
  generalize (rlimbs A).length = xl at *
  have ha1 : (limbs A).length ≤ 1200 := HLA.out A rfl
  have hr1 : (rlimbs A).length ≤ 1200 := HRA.out A rfl
  have hs1 := fun k hk => rl_pow40 (k := k) hA12 hk
  have hs2 := fun k hk => rl_mul2 (k := k) hr1 hk
  have HS1 := Lib.hid hs1
  have HS2 := Lib.hid hs2
  clear hs1 hs2 HRA HLA
  have hpc : powC A (n : Int) = 0 := pow40 hA12 h2
  have hpv : powV A (n : Int) = A ^ n := by unfold powV; rw [hpc, if_pos rfl, Int.toNat_natCast]
  have h2a : ¬ (n : Int) < 0 := by omega
  have h2b : ¬ (n : Int) > 5000 := by omega
  have HPC := Lib.hid hpc
  have HPV := Lib.hid hpv
  clear hpc hpv
  have ea := hba.cell
  go_wp2_with fail
  refine (pow_any _ A (n : Int) _ na (by omega)).mono ?_
  rintro e w2 ⟨rv, rfl, hn, hb⟩
  clear ea
  replace hba := hba.kept hb
  replace na := na.below hb
  replace hbx := hbx.kept hb
  replace nx := nx.below hb
  replace hbf := hbf.trans (hb.mono hbf.size)
  clear hb
  rw [HPC.out]
  rw [HPV.out] at hn
  obtain ⟨sv, rfl, ⟨po, pl, pc, rfl⟩, hbp, hb, np⟩ := box_nat hn
  obtain ⟨w3, hwE⟩ : ∃ w3, w3 = w2.alloc (.cells #[Value.slice po pl pc] 25) := ⟨_, rfl⟩
  rw [← hwE] at hbp hb np
  obtain ⟨pp, hpE⟩ : ∃ p, p = w2.heap.size := ⟨_, rfl⟩
  have HW := Lib.hid hwE; clear hwE hn
  go_upto_region 7 with fail
  rw [← HW.out]
  rw [← hpE] at hbp ⊢
  clear hpE HW
  replace hba := hba.kept hb
  replace na := na.below hb
  replace hbx := hbx.kept hb
  replace nx := nx.below hb
  replace hbf := hbf.trans (hb.mono hbf.size)
  clear hb
  have hone := one_is w3 (x := 1) (by omega) (by omega)
  have hb : Below w3.heap.size w3 (w3.alloc (.cells #[.int .i64 ((1 : Nat) : Int)] 3)) := (Below.refl _ _).alloc (Nat.le_refl _) _
  obtain ⟨w7, hw7⟩ : ∃ w7, w7 = w3.alloc (.cells #[.int .i64 ((1 : Nat) : Int)] 3) := ⟨_, rfl⟩
  rw [← hw7] at hone hb
  have HW7 := Lib.hid hw7; clear hw7
  go_upto_region 8 with fail
  have hw7b : w3.alloc (.cells #[.int .i64 1] 3) = w7 := HW7.out.symm
  rw [hw7b]
  clear hw7b
  replace hba := hba.kept hb
  replace na := na.below hb
  replace hbx := hbx.kept hb
  replace nx := nx.below hb
  replace hbp := hbp.kept hb
  replace np := np.below hb
  replace hbf := hbf.trans (hb.mono hbf.size)
  clear hb
  have e7 := hbx.cell
  go_wp2_with fail
  clear e7
  go_loopg [13, 14] n (fun gg xv kv wr => ∃ k : Nat, k + gg = n ∧ kv = .int .i64 (k : Int) ∧ RIs wr xv (A ^ k) ∧ Below w7.heap.size w7 wr)
  case atStart => exact ⟨0, by omega, rfl, by rw [Nat.pow_zero]; exact hone, Below.refl _ _⟩
  case round =>
    obtain ⟨k, hk, rfl, hxk, hbr⟩ := hrel
    by_cases hkn : k < n
    · have hb7 := hbx.kept hbr
      have e7 := hb7.cell
      go_wp2_with fail
      refine (rmul_any _ _ (A ^ k) A wr hxk (nx.below hbr) (Nat.le_trans (HS1.out k (by omega)) (by omega)) (by omega)).mono ?_
      rintro e w8 ⟨r2, rfl, hq2, hb8⟩
      rw [← Nat.pow_succ] at hq2
      clear e7
      go_wp2_with fail
      go_roundg (gk - 1)
      case measure => omega
      case rel => exact ⟨k + 1, by omega, by go_num, hq2, hbr.trans (hb8.mono hbr.size)⟩
    · obtain rfl : k = n := by omega
      clear hone
      replace hba := hba.kept hbr
      replace na := na.below hbr
      replace hbx := hbx.kept hbr
      replace nx := nx.below hbr
      replace hbp := hbp.kept hbr
      replace np := np.below hbr
      replace hbf := hbf.trans (hbr.mono hbf.size)
      have hbn : (-(b : Int)) < 0 := by omega
      have hmax : max (-(b : Int)) 0 = ((0 : Nat) : Int) := by omega
      have hneg : IntKind.i64.wrap (b : Int) = (b : Int) := IntWalk.i64_in _ (by omega)
      go_upto_region 16 with fail
      have ex := hbx.cell
      have HMK : Hid (∀ w', Below wr.heap.size wr w' → w'.cell? ⟨px, 0, none⟩ = some (Value.slice xo xl xc) ∧ Below wr.heap.size wr w') := Lib.hid (fun w' hb => ⟨(hb.cell (p := ⟨px, 0, none⟩) (World.block_lt_of_cell? wr ⟨px, 0, none⟩ ex)).trans ex, hb⟩)
      have HBL : Hid (∀ w', (w'.cell? ⟨px, 0, none⟩ = some (Value.slice xo xl xc) ∧ Below wr.heap.size wr w') → Below wr.heap.size wr w') := Lib.hid (fun w' h => h.2)
      clear ex
      go_wp2_with fail
      refine wp_region_seq (S := fun w' => w'.cell? ⟨px, 0, none⟩ = some (Value.slice xo xl xc) ∧ Below wr.heap.size wr w') [(true, 0), (true, 1), (true, 2), (true, 3), (false, 4), (false, 5), (false, 6), (true, 7)] (by kernel_rfl) (by kernel_rfl) (by kernel_rfl) (by kernel_rfl) (by kernel_rfl) (fun d _ _ _ _ h => by cases d <;> exact h) ?_ (fun hHeld => ?_)
      · first | assumption | exact HMK.out _ (Below.refl _ _).drew
      simp only [pickOps, List.append_eq, List.cons_append, List.nil_append, List.getElem?_toArray, List.getElem?_cons_succ, List.getElem?_cons_zero]
      repeat (first | (refine seq_take (v := ?_) (by rfl) ?_ ?_; rotate_left; (· intro w hSw; (try dsimp only at hSw); go_simp; all_goals with_reducible rfl); (try simp only [Act.put, List.setIfInBounds_toArray, List.set_cons_zero, List.set_cons_succ])) | (refine seq_leave (by rfl) ?_; (try simp only [Act.put, List.setIfInBounds_toArray, List.set_cons_zero, List.set_cons_succ])))
      (refine seq_step (by rfl) (fun K hK => ?_); go_simp; (skip); (first | refine hK.out _ _ ?_ (fun hHeld => ?_) | (go_wp2_with fail; refine hK.out _ _ ?_ (fun hHeld => ?_))); (· first | assumption | exact HMK.out _ (Below.refl _ _).drew); clear hK K; (try simp only [Act.put, List.setIfInBounds_toArray, List.set_cons_zero, List.set_cons_succ]))
      (refine seq_step (by rfl) (fun K hK => ?_); go_simp; (go_at_call 29; (with_reducible refine (rtwo_z _).mono ?_); rintro e w' ⟨t1, rfl, hq1, hb'⟩; have hS := heldS HMK.out HBL.out hb' (by assumption)); (first | refine hK.out _ _ ?_ (fun hHeld => ?_) | (go_wp2_with fail; refine hK.out _ _ ?_ (fun hHeld => ?_))); (· first | assumption | exact HMK.out _ (Below.refl _ _).drew); clear hK K; (try simp only [Act.put, List.setIfInBounds_toArray, List.set_cons_zero, List.set_cons_succ]))
      (refine seq_step (by rfl) (fun K hK => ?_); go_simp; (go_at_call 28; (with_reducible refine (rmul_any _ _ A (2 ^ 0) _ (nx.below (HBL.out _ (by assumption))) hq1 (by omega) (Nat.le_trans (rl_pow (by omega)) (by omega))).mono ?_); rintro e w' ⟨y1, rfl, hq2, hb'⟩; have hS := heldS HMK.out HBL.out hb' (by assumption)); (first | refine hK.out _ _ ?_ (fun hHeld => ?_) | (go_wp2_with fail; refine hK.out _ _ ?_ (fun hHeld => ?_))); (· first | assumption | exact HMK.out _ (Below.refl _ _).drew); clear hK K; (try simp only [Act.put, List.setIfInBounds_toArray, List.set_cons_zero, List.set_cons_succ]))
      repeat (first | (refine seq_take (v := ?_) (by rfl) ?_ ?_; rotate_left; (· intro w hSw; (try dsimp only at hSw); go_simp; all_goals with_reducible rfl); (try simp only [Act.put, List.setIfInBounds_toArray, List.set_cons_zero, List.set_cons_succ])) | (refine seq_leave (by rfl) ?_; (try simp only [Act.put, List.setIfInBounds_toArray, List.set_cons_zero, List.set_cons_succ])))
      refine seq_end ?_
      have hb := hHeld.2
      clear HMK HBL hHeld hq1
      have hq3 := hq2
      clear hq2
      obtain ⟨wq1, hwq⟩ : ∃ x, x = w' := ⟨_, rfl⟩
      subst hwq
      replace hba := hba.kept hb
      replace na := na.below hb
      replace hbx := hbx.kept hb
      replace nx := nx.below hb
      replace hbp := hbp.kept hb
      replace np := np.below hb
      replace hxk := hxk.below hb
      replace hbf := hbf.trans (hb.mono hbf.size)
      clear hb
      clear hq3
      go_upto_region 18 with fail
      have ex := hbx.cell
      have HMK : Hid (∀ w', Below wq1.heap.size wq1 w' → w'.cell? ⟨px, 0, none⟩ = some (Value.slice xo xl xc) ∧ Below wq1.heap.size wq1 w') := Lib.hid (fun w' hb => ⟨(hb.cell (p := ⟨px, 0, none⟩) (World.block_lt_of_cell? wq1 ⟨px, 0, none⟩ ex)).trans ex, hb⟩)
      have HBL : Hid (∀ w', (w'.cell? ⟨px, 0, none⟩ = some (Value.slice xo xl xc) ∧ Below wq1.heap.size wq1 w') → Below wq1.heap.size wq1 w') := Lib.hid (fun w' h => h.2)
      clear ex
      go_wp2_with fail
      refine wp_region_seq (S := fun w' => w'.cell? ⟨px, 0, none⟩ = some (Value.slice xo xl xc) ∧ Below wq1.heap.size wq1 w') [(true, 0), (true, 1), (true, 2), (true, 3), (true, 4), (false, 5), (false, 6), (true, 7), (true, 8), (true, 9), (true, 10)] (by kernel_rfl) (by kernel_rfl) (by kernel_rfl) (by kernel_rfl) (by kernel_rfl) (fun d _ _ _ _ h => by cases d <;> exact h) ?_ (fun hHeld => ?_)
      · first | assumption | exact HMK.out _ (Below.refl _ _).drew
      simp only [pickOps, List.append_eq, List.cons_append, List.nil_append, List.getElem?_toArray, List.getElem?_cons_succ, List.getElem?_cons_zero]
      repeat (first | (refine seq_take (v := ?_) (by rfl) ?_ ?_; rotate_left; (· intro w hSw; (try dsimp only at hSw); go_simp; all_goals with_reducible rfl); (try simp only [Act.put, List.setIfInBounds_toArray, List.set_cons_zero, List.set_cons_succ])) | (refine seq_leave (by rfl) ?_; (try simp only [Act.put, List.setIfInBounds_toArray, List.set_cons_zero, List.set_cons_succ])))
      (refine seq_step (by rfl) (fun K hK => ?_); go_simp; (go_at_call 29; (with_reducible refine (rtwo_any b _ (by omega)).mono ?_); rintro e w' ⟨t2, rfl, hq4, hb'⟩; have hS := heldS HMK.out HBL.out hb' (by assumption)); (first | refine hK.out _ _ ?_ (fun hHeld => ?_) | (go_wp2_with fail; refine hK.out _ _ ?_ (fun hHeld => ?_))); (· first | assumption | exact HMK.out _ (Below.refl _ _).drew); clear hK K; (try simp only [Act.put, List.setIfInBounds_toArray, List.set_cons_zero, List.set_cons_succ]))
      (refine seq_step (by rfl) (fun K hK => ?_); go_simp; (go_at_call 26; (with_reducible refine (rdivmod_any _ _ A (2 ^ b) _ (nx.below (HBL.out _ (by assumption))) hq4 (by omega) (Nat.le_trans (rl_pow (by omega)) (by omega)) (Nat.two_pow_pos b)).mono ?_); rintro e w' ⟨y2, y3, rfl, hq5, hq6, hb'⟩; have hS := heldS HMK.out HBL.out hb' (by assumption)); (first | refine hK.out _ _ ?_ (fun hHeld => ?_) | (go_wp2_with fail; refine hK.out _ _ ?_ (fun hHeld => ?_))); (· first | assumption | exact HMK.out _ (Below.refl _ _).drew); clear hK K; (try simp only [Act.put, List.setIfInBounds_toArray, List.set_cons_zero, List.set_cons_succ]))
      repeat (first | (refine seq_take (v := ?_) (by rfl) ?_ ?_; rotate_left; (· intro w hSw; (try dsimp only at hSw); go_simp; all_goals with_reducible rfl); (try simp only [Act.put, List.setIfInBounds_toArray, List.set_cons_zero, List.set_cons_succ])) | (refine seq_leave (by rfl) ?_; (try simp only [Act.put, List.setIfInBounds_toArray, List.set_cons_zero, List.set_cons_succ])))
      refine seq_end ?_
      have hb := hHeld.2
      clear HMK HBL hHeld hq4 hq6
      obtain ⟨wq2, hwq⟩ : ∃ x, x = w' := ⟨_, rfl⟩
      subst hwq
      replace hba := hba.kept hb
      replace na := na.below hb
      replace hbx := hbx.kept hb
      replace nx := nx.below hb
      replace hbp := hbp.kept hb
      replace np := np.below hb
      replace hxk := hxk.below hb
      replace hbf := hbf.trans (hb.mono hbf.size)
      clear hb
      have ep := hbp.cell
      go_wp2_with fail
      refine (same_any _ _ (A ^ k) _ np hxk (Nat.le_trans (HS1.out k (by omega)) (by omega))).mono ?_
      rintro e w41 ⟨rfl, hb⟩
      clear ep
      replace hba := hba.kept hb
      replace na := na.below hb
      replace hbx := hbx.kept hb
      replace nx := nx.below hb
      replace hbp := hbp.kept hb
      replace np := np.below hb
      replace hxk := hxk.below hb
      replace hq5 := hq5.below hb
      replace hbf := hbf.trans (hb.mono hbf.size)
      clear hb
      have ea := hba.cell
      go_wp2_with fail
      refine (shift_down _ A b _ na (by omega) (by omega)).mono ?_
      rintro e w42 ⟨s1, rfl, hq7, hb⟩
      clear ea
      replace hba := hba.kept hb
      replace na := na.below hb
      replace hbx := hbx.kept hb
      replace nx := nx.below hb
      replace hbp := hbp.kept hb
      replace np := np.below hb
      replace hxk := hxk.below hb
      replace hq5 := hq5.below hb
      replace hbf := hbf.trans (hb.mono hbf.size)
      clear hb
      go_wp2_with fail
      refine (same_any _ _ (A / 2 ^ b) _ hq7 hq5 (Nat.le_trans (rlimbs_length_mono (Nat.div_le_self _ _)) (by omega))).mono ?_
      rintro e w43 ⟨rfl, hb⟩
      replace hba := hba.kept hb
      replace na := na.below hb
      replace hbx := hbx.kept hb
      replace nx := nx.below hb
      replace hbp := hbp.kept hb
      replace np := np.below hb
      replace hxk := hxk.below hb
      replace hq5 := hq5.below hb
      replace hbf := hbf.trans (hb.mono hbf.size)
      clear hb
      go_wp2
      go_ret
      exact ⟨rfl, hbf⟩

set_option maxRecDepth 100000 in
set_option maxHeartbeats 4000000 in
theorem natPowers_big_nonneg (l : List UInt8) (e : Int) (h2 : 5000 < e) (b : Nat) (h1 : l.length ≤ 12) (h3 : b ≤ 200) (w : World) :
    Calls Tryd.prog 5 #[.string ⟨l.toArray⟩, .int .i64 e, .int .i64 (b : Int)] w fun e w' => e = .returned (.bool true) ∧ Below w.heap.size w w' := by
  go_enter Tryd.func5, Tryd.ntmps5
  go_wp2_with fail
  refine (alive_any _).mono ?_
  rintro e w1 ⟨rfl, hb⟩
  have hbf := hb
  clear hb
  go_upto_region 3 with fail
  have hst := one_strs w1 l
  have hal : Below w1.heap.size w1 (w1.alloc (.cells #[.string ⟨l.toArray⟩] 9)) := (Below.refl _ _).alloc (Nat.le_refl _) _
  have hnats := nats_any _ [l] _ hst (by simp) (by intro x hx; simp at hx; subst hx; omega)
  have HNATS := Lib.hid hnats
  clear hst hnats
  go_wp2_with fail
  refine HNATS.out.mono ?_
  rintro e w5 ⟨va, vb, rfl, hrows, hb⟩
  replace hb := hal.trans (hb.mono hal.size)
  have hrows' : Rows2 (w1.heap.size + 1) w5 va vb [pval l] := by simpa using hrows
  obtain ⟨pa, ca, px, cb, a0, x0, rfl, rfl, hba, hbx, na, nx⟩ := rows2_one hrows'
  clear hrows hrows' HNATS hal
  replace hbf := hbf.trans (hb.mono hbf.size)
  clear hb
  have hlA := rpval_limbs l
  have hA12 := pval_12 (l := l) h1
  obtain ⟨A, hA⟩ : ∃ A, A = pval l := ⟨_, rfl⟩
  rw [← hA] at na nx hlA hA12
  clear hA
  obtain ⟨ao, ac, e0, _, _, _, _⟩ := na.open
  obtain rfl : a0 = .slice ao (limbs A).length ac := by simpa using e0
  obtain ⟨xo, xc, rfl, _, _, _, _⟩ := nx.open
  clear e0
  have hA2 := limbs_of_rlimbs hlA
  have HRA : Hid (∀ z, z = A → (rlimbs z).length ≤ 1200) := Lib.hid (fun z e => e ▸ hlA)
  have HLA : Hid (∀ z, z = A → (limbs z).length ≤ 1200) := Lib.hid (fun z e => e ▸ hA2)
  generalize (limbs A).length = al at *
  generalize (rlimbs A).length = xl at *
  have ha1 : (limbs A).length ≤ 1200 := HLA.out A rfl
  have hr1 : (rlimbs A).length ≤ 1200 := HRA.out A rfl
  have hs1 := fun k hk => rl_pow40 (k := k) hA12 hk
  have hs2 := fun k hk => rl_mul2 (k := k) hr1 hk
  have HS1 := Lib.hid hs1
  have HS2 := Lib.hid hs2
  clear hs1 hs2 HRA HLA
  have hpc : powC A e = 2 := by unfold powC; rw [if_neg (by omega), if_pos (.inl h2)]
  have hpv : powV A e = 0 := by unfold powV; rw [hpc]; rfl
  have h2b : ¬ e < 0 := by omega
  have HPC := Lib.hid hpc
  have HPV := Lib.hid hpv
  clear hpc hpv
  have ea := hba.cell
  go_wp2_with fail
  refine (pow_any _ A e _ na (by omega)).mono ?_
  rintro e w2 ⟨rv, rfl, hn, hb⟩
  clear ea
  replace hba := hba.kept hb
  replace na := na.below hb
  replace hbx := hbx.kept hb
  replace nx := nx.below hb
  replace hbf := hbf.trans (hb.mono hbf.size)
  clear hb
  rw [HPC.out]
  rw [HPV.out] at hn
  obtain ⟨sv, rfl, ⟨po, pl, pc, rfl⟩, hbp, hb, np⟩ := box_nat hn
  obtain ⟨w3, hwE⟩ : ∃ w3, w3 = w2.alloc (.cells #[Value.slice po pl pc] 25) := ⟨_, rfl⟩
  rw [← hwE] at hbp hb np
  obtain ⟨pp, hpE⟩ : ∃ p, p = w2.heap.size := ⟨_, rfl⟩
  have HW := Lib.hid hwE; clear hwE hn
  go_upto_region 7 with fail
  rw [← HW.out]
  rw [← hpE] at hbp ⊢
  clear hpE HW
  replace hba := hba.kept hb
  replace na := na.below hb
  replace hbx := hbx.kept hb
  replace nx := nx.below hb
  replace hbf := hbf.trans (hb.mono hbf.size)
  clear hb
  have hone := one_is w3 (x := 1) (by omega) (by omega)
  have hb : Below w3.heap.size w3 (w3.alloc (.cells #[.int .i64 ((1 : Nat) : Int)] 3)) := (Below.refl _ _).alloc (Nat.le_refl _) _
  obtain ⟨w7, hw7⟩ : ∃ w7, w7 = w3.alloc (.cells #[.int .i64 ((1 : Nat) : Int)] 3) := ⟨_, rfl⟩
  rw [← hw7] at hone hb
  have HW7 := Lib.hid hw7; clear hw7
  go_upto_region 8 with fail
  have hw7b : w3.alloc (.cells #[.int .i64 1] 3) = w7 := HW7.out.symm
  rw [hw7b]
  clear hw7b
  replace hba := hba.kept hb
  replace na := na.below hb
  replace hbx := hbx.kept hb
  replace nx := nx.below hb
  replace hbp := hbp.kept hb
  replace np := np.below hb
  replace hbf := hbf.trans (hb.mono hbf.size)
  clear hb
  clear hone
  go_wp2_with fail
  go_loopg [13, 14] 0 (fun gg xv kv wr => xv = .slice none 0 0 ∧ kv = .int .i64 0 ∧ Below w7.heap.size w7 wr)
  case atStart => exact ⟨rfl, rfl, Below.refl _ _⟩
  case round =>
    obtain ⟨rfl, rfl, hbr⟩ := hrel
    have hxk := RIs.nil wr
    have hei : (0 : Int) < e := by omega
    replace hba := hba.kept hbr
    replace na := na.below hbr
    replace hbx := hbx.kept hbr
    replace nx := nx.below hbr
    replace hbp := hbp.kept hbr
    replace np := np.below hbr
    replace hbf := hbf.trans (hbr.mono hbf.size)
    have hmax : max (b : Int) 0 = (b : Int) := by omega
    have hbn : ¬ (b : Int) < 0 := by omega
    go_upto_region 16 with fail
    have ex := hbx.cell
    have HMK : Hid (∀ w', Below wr.heap.size wr w' → w'.cell? ⟨px, 0, none⟩ = some (Value.slice xo xl xc) ∧ Below wr.heap.size wr w') := Lib.hid (fun w' hb => ⟨(hb.cell (p := ⟨px, 0, none⟩) (World.block_lt_of_cell? wr ⟨px, 0, none⟩ ex)).trans ex, hb⟩)
    have HBL : Hid (∀ w', (w'.cell? ⟨px, 0, none⟩ = some (Value.slice xo xl xc) ∧ Below wr.heap.size wr w') → Below wr.heap.size wr w') := Lib.hid (fun w' h => h.2)
    clear ex
    go_wp2_with fail
    refine wp_region_seq (S := fun w' => w'.cell? ⟨px, 0, none⟩ = some (Value.slice xo xl xc) ∧ Below wr.heap.size wr w') [(true, 0), (true, 1), (true, 2), (true, 3), (false, 4), (false, 5), (false, 6), (true, 7)] (by kernel_rfl) (by kernel_rfl) (by kernel_rfl) (by kernel_rfl) (by kernel_rfl) (fun d _ _ _ _ h => by cases d <;> exact h) ?_ (fun hHeld => ?_)
    · first | assumption | exact HMK.out _ (Below.refl _ _).drew
    simp only [pickOps, List.append_eq, List.cons_append, List.nil_append, List.getElem?_toArray, List.getElem?_cons_succ, List.getElem?_cons_zero]
    repeat (first | (refine seq_take (v := ?_) (by rfl) ?_ ?_; rotate_left; (· intro w hSw; (try dsimp only at hSw); go_simp; all_goals with_reducible rfl); (try simp only [Act.put, List.setIfInBounds_toArray, List.set_cons_zero, List.set_cons_succ])) | (refine seq_leave (by rfl) ?_; (try simp only [Act.put, List.setIfInBounds_toArray, List.set_cons_zero, List.set_cons_succ])))
    (refine seq_step (by rfl) (fun K hK => ?_); go_simp; (skip); (first | refine hK.out _ _ ?_ (fun hHeld => ?_) | (go_wp2_with fail; refine hK.out _ _ ?_ (fun hHeld => ?_))); (· first | assumption | exact HMK.out _ (Below.refl _ _).drew); clear hK K; (try simp only [Act.put, List.setIfInBounds_toArray, List.set_cons_zero, List.set_cons_succ]))
    (refine seq_step (by rfl) (fun K hK => ?_); go_simp; (go_at_call 29; (with_reducible refine (rtwo_any b _ (by omega)).mono ?_); rintro e w' ⟨t1, rfl, hq1, hb'⟩; have hS := heldS HMK.out HBL.out hb' (by assumption)); (first | refine hK.out _ _ ?_ (fun hHeld => ?_) | (go_wp2_with fail; refine hK.out _ _ ?_ (fun hHeld => ?_))); (· first | assumption | exact HMK.out _ (Below.refl _ _).drew); clear hK K; (try simp only [Act.put, List.setIfInBounds_toArray, List.set_cons_zero, List.set_cons_succ]))
    (refine seq_step (by rfl) (fun K hK => ?_); go_simp; (go_at_call 28; (with_reducible refine (rmul_any _ _ A (2 ^ b) _ (nx.below (HBL.out _ (by assumption))) hq1 (by omega) (Nat.le_trans (rl_pow (by omega)) (by omega))).mono ?_); rintro e w' ⟨y1, rfl, hq2, hb'⟩; have hS := heldS HMK.out HBL.out hb' (by assumption)); (first | refine hK.out _ _ ?_ (fun hHeld => ?_) | (go_wp2_with fail; refine hK.out _ _ ?_ (fun hHeld => ?_))); (· first | assumption | exact HMK.out _ (Below.refl _ _).drew); clear hK K; (try simp only [Act.put, List.setIfInBounds_toArray, List.set_cons_zero, List.set_cons_succ]))
    repeat (first | (refine seq_take (v := ?_) (by rfl) ?_ ?_; rotate_left; (· intro w hSw; (try dsimp only at hSw); go_simp; all_goals with_reducible rfl); (try simp only [Act.put, List.setIfInBounds_toArray, List.set_cons_zero, List.set_cons_succ])) | (refine seq_leave (by rfl) ?_; (try simp only [Act.put, List.setIfInBounds_toArray, List.set_cons_zero, List.set_cons_succ])))
    refine seq_end ?_
    have hb := hHeld.2
    clear HMK HBL hHeld hq1
    have hq3 := hq2
    clear hq2
    obtain ⟨wq1, hwq⟩ : ∃ x, x = w' := ⟨_, rfl⟩
    subst hwq
    replace hba := hba.kept hb
    replace na := na.below hb
    replace hbx := hbx.kept hb
    replace nx := nx.below hb
    replace hbp := hbp.kept hb
    replace np := np.below hb
    replace hxk := hxk.below hb
    replace hbf := hbf.trans (hb.mono hbf.size)
    clear hb
    have ep := hbp.cell
    go_wp2_with fail
    refine (same_any _ _ (0) _ np hxk (by rw [rlimbs_zero]; simp)).mono ?_
    rintro e w41 ⟨rfl, hb⟩
    clear ep
    replace hba := hba.kept hb
    replace na := na.below hb
    replace hbx := hbx.kept hb
    replace nx := nx.below hb
    replace hbp := hbp.kept hb
    replace np := np.below hb
    replace hxk := hxk.below hb
    replace hq3 := hq3.below hb
    replace hbf := hbf.trans (hb.mono hbf.size)
    clear hb
    have ea := hba.cell
    go_wp2_with fail
    refine (shift_any _ A b _ na (by omega) (by omega)).mono ?_
    rintro e w42 ⟨s1, rfl, hq7, hb⟩
    clear ea
    replace hba := hba.kept hb
    replace na := na.below hb
    replace hbx := hbx.kept hb
    replace nx := nx.below hb
    replace hbp := hbp.kept hb
    replace np := np.below hb
    replace hxk := hxk.below hb
    replace hq3 := hq3.below hb
    replace hbf := hbf.trans (hb.mono hbf.size)
    clear hb
    go_wp2_with fail
    refine (same_any _ _ (A * 2 ^ b) _ hq7 hq3 (HS2.out b (by omega))).mono ?_
    rintro e w43 ⟨rfl, hb⟩
    replace hba := hba.kept hb
    replace na := na.below hb
    replace hbx := hbx.kept hb
    replace nx := nx.below hb
    replace hbp := hbp.kept hb
    replace np := np.below hb
    replace hxk := hxk.below hb
    replace hq3 := hq3.below hb
    replace hbf := hbf.trans (hb.mono hbf.size)
    clear hb
    go_wp2
    go_ret
    exact ⟨rfl, hbf⟩

set_option maxRecDepth 100000 in
set_option maxHeartbeats 4000000 in
theorem natPowers_big_neg (l : List UInt8) (e : Int) (h2 : 5000 < e) (b : Nat) (h1 : l.length ≤ 12) (h3 : b ≤ 200) (hb0 : 0 < b) (w : World) :
    Calls Tryd.prog 5 #[.string ⟨l.toArray⟩, .int .i64 e, .int .i64 (-(b : Int))] w fun e w' => e = .returned (.bool true) ∧ Below w.heap.size w w' := by
  go_enter Tryd.func5, Tryd.ntmps5
  go_wp2_with fail
  refine (alive_any _).mono ?_
  rintro e w1 ⟨rfl, hb⟩
  have hbf := hb
  clear hb
  go_upto_region 3 with fail
  have hst := one_strs w1 l
  have hal : Below w1.heap.size w1 (w1.alloc (.cells #[.string ⟨l.toArray⟩] 9)) := (Below.refl _ _).alloc (Nat.le_refl _) _
  have hnats := nats_any _ [l] _ hst (by simp) (by intro x hx; simp at hx; subst hx; omega)
  have HNATS := Lib.hid hnats
  clear hst hnats
  go_wp2_with fail
  refine HNATS.out.mono ?_
  rintro e w5 ⟨va, vb, rfl, hrows, hb⟩
  replace hb := hal.trans (hb.mono hal.size)
  have hrows' : Rows2 (w1.heap.size + 1) w5 va vb [pval l] := by simpa using hrows
  obtain ⟨pa, ca, px, cb, a0, x0, rfl, rfl, hba, hbx, na, nx⟩ := rows2_one hrows'
  clear hrows hrows' HNATS hal
  replace hbf := hbf.trans (hb.mono hbf.size)
  clear hb
  have hlA := rpval_limbs l
  have hA12 := pval_12 (l := l) h1
  obtain ⟨A, hA⟩ : ∃ A, A = pval l := ⟨_, rfl⟩
  rw [← hA] at na nx hlA hA12
  clear hA
  obtain ⟨ao, ac, e0, _, _, _, _⟩ := na.open
  obtain rfl : a0 = .slice ao (limbs A).length ac := by simpa using e0
  obtain ⟨xo, xc, rfl, _, _, _, _⟩ := nx.open
  clear e0
  have hA2 := limbs_of_rlimbs hlA
  have HRA : Hid (∀ z, z = A → (rlimbs z).length ≤ 1200) := Lib.hid (fun z e => e ▸ hlA)
  have HLA : Hid (∀ z, z = A → (limbs z).length ≤ 1200) := Lib.hid (fun z e => e ▸ hA2)
  generalize (limbs A).length = al at *
  generalize (rlimbs A).length = xl at *
  have ha1 : (limbs A).length ≤ 1200 := HLA.out A rfl
  have hr1 : (rlimbs A).length ≤ 1200 := HRA.out A rfl
  have hs1 := fun k hk => rl_pow40 (k := k) hA12 hk
  have hs2 := fun k hk => rl_mul2 (k := k) hr1 hk
  have HS1 := Lib.hid hs1
  have HS2 := Lib.hid hs2
  clear hs1 hs2 HRA HLA
  have hpc : powC A e = 2 := by unfold powC; rw [if_neg (by omega), if_pos (.inl h2)]
  have hpv : powV A e = 0 := by unfold powV; rw [hpc]; rfl
  have h2b : ¬ e < 0 := by omega
  have HPC := Lib.hid hpc
  have HPV := Lib.hid hpv
  clear hpc hpv
  have ea := hba.cell
  go_wp2_with fail
  refine (pow_any _ A e _ na (by omega)).mono ?_
  rintro e w2 ⟨rv, rfl, hn, hb⟩
  clear ea
  replace hba := hba.kept hb
  replace na := na.below hb
  replace hbx := hbx.kept hb
  replace nx := nx.below hb
  replace hbf := hbf.trans (hb.mono hbf.size)
  clear hb
  rw [HPC.out]
  rw [HPV.out] at hn
  obtain ⟨sv, rfl, ⟨po, pl, pc, rfl⟩, hbp, hb, np⟩ := box_nat hn
  obtain ⟨w3, hwE⟩ : ∃ w3, w3 = w2.alloc (.cells #[Value.slice po pl pc] 25) := ⟨_, rfl⟩
  rw [← hwE] at hbp hb np
  obtain ⟨pp, hpE⟩ : ∃ p, p = w2.heap.size := ⟨_, rfl⟩
  have HW := Lib.hid hwE; clear hwE hn
  go_upto_region 7 with fail
  rw [← HW.out]
  rw [← hpE] at hbp ⊢
  clear hpE HW
  replace hba := hba.kept hb
  replace na := na.below hb
  replace hbx := hbx.kept hb
  replace nx := nx.below hb
  replace hbf := hbf.trans (hb.mono hbf.size)
  clear hb
  have hone := one_is w3 (x := 1) (by omega) (by omega)
  have hb : Below w3.heap.size w3 (w3.alloc (.cells #[.int .i64 ((1 : Nat) : Int)] 3)) := (Below.refl _ _).alloc (Nat.le_refl _) _
  obtain ⟨w7, hw7⟩ : ∃ w7, w7 = w3.alloc (.cells #[.int .i64 ((1 : Nat) : Int)] 3) := ⟨_, rfl⟩
  rw [← hw7] at hone hb
  have HW7 := Lib.hid hw7; clear hw7
  go_upto_region 8 with fail
  have hw7b : w3.alloc (.cells #[.int .i64 1] 3) = w7 := HW7.out.symm
  rw [hw7b]
  clear hw7b
  replace hba := hba.kept hb
  replace na := na.below hb
  replace hbx := hbx.kept hb
  replace nx := nx.below hb
  replace hbp := hbp.kept hb
  replace np := np.below hb
  replace hbf := hbf.trans (hb.mono hbf.size)
  clear hb
  clear hone
  go_wp2_with fail
  go_loopg [13, 14] 0 (fun gg xv kv wr => xv = .slice none 0 0 ∧ kv = .int .i64 0 ∧ Below w7.heap.size w7 wr)
  case atStart => exact ⟨rfl, rfl, Below.refl _ _⟩
  case round =>
    obtain ⟨rfl, rfl, hbr⟩ := hrel
    have hxk := RIs.nil wr
    have hei : (0 : Int) < e := by omega
    replace hba := hba.kept hbr
    replace na := na.below hbr
    replace hbx := hbx.kept hbr
    replace nx := nx.below hbr
    replace hbp := hbp.kept hbr
    replace np := np.below hbr
    replace hbf := hbf.trans (hbr.mono hbf.size)
    have hbn : (-(b : Int)) < 0 := by omega
    have hmax : max (-(b : Int)) 0 = ((0 : Nat) : Int) := by omega
    have hneg : IntKind.i64.wrap (b : Int) = (b : Int) := IntWalk.i64_in _ (by omega)
    go_upto_region 16 with fail
    have ex := hbx.cell
    have HMK : Hid (∀ w', Below wr.heap.size wr w' → w'.cell? ⟨px, 0, none⟩ = some (Value.slice xo xl xc) ∧ Below wr.heap.size wr w') := Lib.hid (fun w' hb => ⟨(hb.cell (p := ⟨px, 0, none⟩) (World.block_lt_of_cell? wr ⟨px, 0, none⟩ ex)).trans ex, hb⟩)
    have HBL : Hid (∀ w', (w'.cell? ⟨px, 0, none⟩ = some (Value.slice xo xl xc) ∧ Below wr.heap.size wr w') → Below wr.heap.size wr w') := Lib.hid (fun w' h => h.2)
    clear ex
    go_wp2_with fail
    refine wp_region_seq (S := fun w' => w'.cell? ⟨px, 0, none⟩ = some (Value.slice xo xl xc) ∧ Below wr.heap.size wr w') [(true, 0), (true, 1), (true, 2), (true, 3), (false, 4), (false, 5), (false, 6), (true, 7)] (by kernel_rfl) (by kernel_rfl) (by kernel_rfl) (by kernel_rfl) (by kernel_rfl) (fun d _ _ _ _ h => by cases d <;> exact h) ?_ (fun hHeld => ?_)
    · first | assumption | exact HMK.out _ (Below.refl _ _).drew
    simp only [pickOps, List.append_eq, List.cons_append, List.nil_append, List.getElem?_toArray, List.getElem?_cons_succ, List.getElem?_cons_zero]
    repeat (first | (refine seq_take (v := ?_) (by rfl) ?_ ?_; rotate_left; (· intro w hSw; (try dsimp only at hSw); go_simp; all_goals with_reducible rfl); (try simp only [Act.put, List.setIfInBounds_toArray, List.set_cons_zero, List.set_cons_succ])) | (refine seq_leave (by rfl) ?_; (try simp only [Act.put, List.setIfInBounds_toArray, List.set_cons_zero, List.set_cons_succ])))
    (refine seq_step (by rfl) (fun K hK => ?_); go_simp; (skip); (first | refine hK.out _ _ ?_ (fun hHeld => ?_) | (go_wp2_with fail; refine hK.out _ _ ?_ (fun hHeld => ?_))); (· first | assumption | exact HMK.out _ (Below.refl _ _).drew); clear hK K; (try simp only [Act.put, List.setIfInBounds_toArray, List.set_cons_zero, List.set_cons_succ]))
    (refine seq_step (by rfl) (fun K hK => ?_); go_simp; (go_at_call 29; (with_reducible refine (rtwo_z _).mono ?_); rintro e w' ⟨t1, rfl, hq1, hb'⟩; have hS := heldS HMK.out HBL.out hb' (by assumption)); (first | refine hK.out _ _ ?_ (fun hHeld => ?_) | (go_wp2_with fail; refine hK.out _ _ ?_ (fun hHeld => ?_))); (· first | assumption | exact HMK.out _ (Below.refl _ _).drew); clear hK K; (try simp only [Act.put, List.setIfInBounds_toArray, List.set_cons_zero, List.set_cons_succ]))
    (refine seq_step (by rfl) (fun K hK => ?_); go_simp; (go_at_call 28; (with_reducible refine (rmul_any _ _ A (2 ^ 0) _ (nx.below (HBL.out _ (by assumption))) hq1 (by omega) (Nat.le_trans (rl_pow (by omega)) (by omega))).mono ?_); rintro e w' ⟨y1, rfl, hq2, hb'⟩; have hS := heldS HMK.out HBL.out hb' (by assumption)); (first | refine hK.out _ _ ?_ (fun hHeld => ?_) | (go_wp2_with fail; refine hK.out _ _ ?_ (fun hHeld => ?_))); (· first | assumption | exact HMK.out _ (Below.refl _ _).drew); clear hK K; (try simp only [Act.put, List.setIfInBounds_toArray, List.set_cons_zero, List.set_cons_succ]))
    repeat (first | (refine seq_take (v := ?_) (by rfl) ?_ ?_; rotate_left; (· intro w hSw; (try dsimp only at hSw); go_simp; all_goals with_reducible rfl); (try simp only [Act.put, List.setIfInBounds_toArray, List.set_cons_zero, List.set_cons_succ])) | (refine seq_leave (by rfl) ?_; (try simp only [Act.put, List.setIfInBounds_toArray, List.set_cons_zero, List.set_cons_succ])))
    refine seq_end ?_
    have hb := hHeld.2
    clear HMK HBL hHeld hq1
    have hq3 := hq2
    clear hq2
    obtain ⟨wq1, hwq⟩ : ∃ x, x = w' := ⟨_, rfl⟩
    subst hwq
    replace hba := hba.kept hb
    replace na := na.below hb
    replace hbx := hbx.kept hb
    replace nx := nx.below hb
    replace hbp := hbp.kept hb
    replace np := np.below hb
    replace hxk := hxk.below hb
    replace hbf := hbf.trans (hb.mono hbf.size)
    clear hb
    clear hq3
    go_upto_region 18 with fail
    have ex := hbx.cell
    have HMK : Hid (∀ w', Below wq1.heap.size wq1 w' → w'.cell? ⟨px, 0, none⟩ = some (Value.slice xo xl xc) ∧ Below wq1.heap.size wq1 w') := Lib.hid (fun w' hb => ⟨(hb.cell (p := ⟨px, 0, none⟩) (World.block_lt_of_cell? wq1 ⟨px, 0, none⟩ ex)).trans ex, hb⟩)
    have HBL : Hid (∀ w', (w'.cell? ⟨px, 0, none⟩ = some (Value.slice xo xl xc) ∧ Below wq1.heap.size wq1 w') → Below wq1.heap.size wq1 w') := Lib.hid (fun w' h => h.2)
    clear ex
    go_wp2_with fail
    refine wp_region_seq (S := fun w' => w'.cell? ⟨px, 0, none⟩ = some (Value.slice xo xl xc) ∧ Below wq1.heap.size wq1 w') [(true, 0), (true, 1), (true, 2), (true, 3), (true, 4), (false, 5), (false, 6), (true, 7), (true, 8), (true, 9), (true, 10)] (by kernel_rfl) (by kernel_rfl) (by kernel_rfl) (by kernel_rfl) (by kernel_rfl) (fun d _ _ _ _ h => by cases d <;> exact h) ?_ (fun hHeld => ?_)
    · first | assumption | exact HMK.out _ (Below.refl _ _).drew
    simp only [pickOps, List.append_eq, List.cons_append, List.nil_append, List.getElem?_toArray, List.getElem?_cons_succ, List.getElem?_cons_zero]
    repeat (first | (refine seq_take (v := ?_) (by rfl) ?_ ?_; rotate_left; (· intro w hSw; (try dsimp only at hSw); go_simp; all_goals with_reducible rfl); (try simp only [Act.put, List.setIfInBounds_toArray, List.set_cons_zero, List.set_cons_succ])) | (refine seq_leave (by rfl) ?_; (try simp only [Act.put, List.setIfInBounds_toArray, List.set_cons_zero, List.set_cons_succ])))
    (refine seq_step (by rfl) (fun K hK => ?_); go_simp; (go_at_call 29; (with_reducible refine (rtwo_any b _ (by omega)).mono ?_); rintro e w' ⟨t2, rfl, hq4, hb'⟩; have hS := heldS HMK.out HBL.out hb' (by assumption)); (first | refine hK.out _ _ ?_ (fun hHeld => ?_) | (go_wp2_with fail; refine hK.out _ _ ?_ (fun hHeld => ?_))); (· first | assumption | exact HMK.out _ (Below.refl _ _).drew); clear hK K; (try simp only [Act.put, List.setIfInBounds_toArray, List.set_cons_zero, List.set_cons_succ]))
    (refine seq_step (by rfl) (fun K hK => ?_); go_simp; (go_at_call 26; (with_reducible refine (rdivmod_any _ _ A (2 ^ b) _ (nx.below (HBL.out _ (by assumption))) hq4 (by omega) (Nat.le_trans (rl_pow (by omega)) (by omega)) (Nat.two_pow_pos b)).mono ?_); rintro e w' ⟨y2, y3, rfl, hq5, hq6, hb'⟩; have hS := heldS HMK.out HBL.out hb' (by assumption)); (first | refine hK.out _ _ ?_ (fun hHeld => ?_) | (go_wp2_with fail; refine hK.out _ _ ?_ (fun hHeld => ?_))); (· first | assumption | exact HMK.out _ (Below.refl _ _).drew); clear hK K; (try simp only [Act.put, List.setIfInBounds_toArray, List.set_cons_zero, List.set_cons_succ]))
    repeat (first | (refine seq_take (v := ?_) (by rfl) ?_ ?_; rotate_left; (· intro w hSw; (try dsimp only at hSw); go_simp; all_goals with_reducible rfl); (try simp only [Act.put, List.setIfInBounds_toArray, List.set_cons_zero, List.set_cons_succ])) | (refine seq_leave (by rfl) ?_; (try simp only [Act.put, List.setIfInBounds_toArray, List.set_cons_zero, List.set_cons_succ])))
    refine seq_end ?_
    have hb := hHeld.2
    clear HMK HBL hHeld hq4 hq6
    obtain ⟨wq2, hwq⟩ : ∃ x, x = w' := ⟨_, rfl⟩
    subst hwq
    replace hba := hba.kept hb
    replace na := na.below hb
    replace hbx := hbx.kept hb
    replace nx := nx.below hb
    replace hbp := hbp.kept hb
    replace np := np.below hb
    replace hxk := hxk.below hb
    replace hbf := hbf.trans (hb.mono hbf.size)
    clear hb
    have ep := hbp.cell
    go_wp2_with fail
    refine (same_any _ _ (0) _ np hxk (by rw [rlimbs_zero]; simp)).mono ?_
    rintro e w41 ⟨rfl, hb⟩
    clear ep
    replace hba := hba.kept hb
    replace na := na.below hb
    replace hbx := hbx.kept hb
    replace nx := nx.below hb
    replace hbp := hbp.kept hb
    replace np := np.below hb
    replace hxk := hxk.below hb
    replace hq5 := hq5.below hb
    replace hbf := hbf.trans (hb.mono hbf.size)
    clear hb
    have ea := hba.cell
    go_wp2_with fail
    refine (shift_down _ A b _ na (by omega) (by omega)).mono ?_
    rintro e w42 ⟨s1, rfl, hq7, hb⟩
    clear ea
    replace hba := hba.kept hb
    replace na := na.below hb
    replace hbx := hbx.kept hb
    replace nx := nx.below hb
    replace hbp := hbp.kept hb
    replace np := np.below hb
    replace hxk := hxk.below hb
    replace hq5 := hq5.below hb
    replace hbf := hbf.trans (hb.mono hbf.size)
    clear hb
    go_wp2_with fail
    refine (same_any _ _ (A / 2 ^ b) _ hq7 hq5 (Nat.le_trans (rlimbs_length_mono (Nat.div_le_self _ _)) (by omega))).mono ?_
    rintro e w43 ⟨rfl, hb⟩
    replace hba := hba.kept hb
    replace na := na.below hb
    replace hbx := hbx.kept hb
    replace nx := nx.below hb
    replace hbp := hbp.kept hb
    replace np := np.below hb
    replace hxk := hxk.below hb
    replace hq5 := hq5.below hb
    replace hbf := hbf.trans (hb.mono hbf.size)
    clear hb
    go_wp2
    go_ret
    exact ⟨rfl, hbf⟩

set_option maxRecDepth 100000 in
theorem natPowers_walk (a0 : ByteArray) (a1 a2 : Int) (w0 : a0.size ≤ maxLen) (w1 : (Lit.int .i64 a1).wf = true) (w2 : (Lit.int .i64 a2).wf = true) (w : World) :
    Calls Tryd.prog 5 #[.string a0, .int .i64 a1, .int .i64 a2] w fun e w' => e = .returned (.bool true) ∧ Below w.heap.size w w' := by
  obtain ⟨l, rfl, _⟩ := bytes_of a0
  by_cases h1 : 12 < l.length
  · exact natPowers_early1 l a1 a2 h1 w
  by_cases h2 : 40 < a1 ∧ a1 ≤ 5000
  · exact natPowers_early2 l a1 a2 h1 h2.1 h2.2 w
  by_cases h3 : 200 < a2
  · by_cases h4 : a1 ≤ 40
    · exact natPowers_early3 l a1 a2 h1 h4 h3 w
    · exact natPowers_early4 l a1 a2 h1 (by omega) (by omega) h3 w
  by_cases h5 : a2 < -200
  · by_cases h4 : a1 ≤ 40
    · exact natPowers_early5 l a1 a2 h1 h4 h3 h5 w
    · exact natPowers_early6 l a1 a2 h1 (by omega) (by omega) h3 h5 w
  by_cases hb : 0 ≤ a2
  · obtain ⟨b, rfl⟩ : ∃ b : Nat, a2 = (b : Int) := ⟨a2.toNat, by omega⟩
    by_cases he : a1 < 0
    · exact natPowers_neg_nonneg l a1 he b (by omega) (by omega) w
    by_cases he2 : a1 ≤ 40
    · obtain ⟨n, rfl⟩ : ∃ n : Nat, a1 = (n : Int) := ⟨a1.toNat, by omega⟩
      exact natPowers_mid_nonneg l n (by omega) b (by omega) (by omega) w
    · exact natPowers_big_nonneg l a1 (by omega) b (by omega) (by omega) w
  · obtain ⟨b, rfl⟩ : ∃ b : Nat, a2 = -(b : Int) := ⟨(-a2).toNat, by omega⟩
    have hb1 : 0 < b := by omega
    by_cases he : a1 < 0
    · exact natPowers_neg_neg l a1 he b (by omega) (by omega) hb1 w
    by_cases he2 : a1 ≤ 40
    · obtain ⟨n, rfl⟩ : ∃ n : Nat, a1 = (n : Int) := ⟨a1.toNat, by omega⟩
      exact natPowers_mid_neg l n (by omega) b (by omega) (by omega) hb1 w
    · exact natPowers_big_neg l a1 (by omega) b (by omega) (by omega) hb1 w
end Go.Proofs.YtegneoaoodddoaaDoor

