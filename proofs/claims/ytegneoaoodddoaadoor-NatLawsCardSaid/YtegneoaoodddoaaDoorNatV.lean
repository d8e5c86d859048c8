/-
  nat: walks (20): Pow.
-/
import Derived.Test.YtegneoaoodddoaaDoorNatI
import Derived.Test.YtegneoaoodddoaaDoorNatJ
import Derived.Test.YtegneoaoodddoaaDoorNatL
import Derived.Test.YtegneoaoodddoaaDoorBitsB
namespace Go.Proofs.YtegneoaoodddoaaDoor
open Go.RowKit
set_option linter.unusedVariables false
set_option linter.unusedSimpArgs false
attribute [local go_sem] and_low field_nat

theorem run_shrI {P : Program} (w : World) (t : TypeId) (x s : Nat) (hs : s < 64) : (binOp .shr t (.int .i64 (x : Int)) (.int .i64 (s : Int))).run P w = .ok (.int .i64 ((x / 2 ^ s : Nat) : Int)) w := by
  simp only [binOp]
  simp [IntKind.bits]
theorem and_oneI (x : Nat) (hx : x < 9223372036854775808) : bits .and .i64 (x : Int) 1 = ((x % 2 : Nat) : Int) := by
  have := bits_mask .i64 63 (by decide) (fun n h0 h1 => IntWalk.i64_in _ (by omega)) 1 (by decide) x (by omega) (by omega)
  simpa using this

theorem and_oneI' {k j : Nat} (hx : k / 2 ^ j < 9223372036854775808) : bits .and .i64 ((k : Int) / 2 ^ j) 1 = ((k / 2 ^ j % 2 : Nat) : Int) := by
  have := and_oneI (k / 2 ^ j) hx
  rw [← this]
  simp

/-- Why a power is refused. -/
def powC (a : Nat) (e : Int) : Int := if e < 0 then 1 else if 5000 < e ∨ 10000 < blen (a ^ e.toNat) then 2 else 0
def powV (a : Nat) (e : Int) : Nat := if powC a e = 0 then a ^ e.toNat else 0

def PowPost (w : World) (a : Nat) (k : Int) (e : Ending) (w' : World) : Prop := ∃ r, e = .returned (.tuple #[r, .int .i64 (powC a k)]) ∧ NatIs w' r (powV a k) ∧ Below w.heap.size w w'

theorem blen_pow {a k : Nat} (h : 0 < blen a) : (blen a - 1) * k < blen (a ^ k) := by
  have h0 : 0 < a := by
    rcases Nat.eq_zero_or_pos a with rfl | h1
    · rw [blen_zero] at h; omega
    · exact h1
  have h1 := two_blen_le h0
  have h2 : 2 ^ ((blen a - 1) * k) ≤ a ^ k := by rw [Nat.pow_mul]; exact Nat.pow_le_pow_left h1 k
  apply Nat.lt_of_not_le
  intro h3
  have h4 := blen_le_iff.1 h3
  omega
theorem limbs_two {n m K : Nat} (h : n ≤ 2 ^ m) (hm : m < 32 * K) : (limbs n).length ≤ K := by
  refine limbs_length_le (Nat.lt_of_le_of_lt h ?_)
  rw [show (4294967296 : Nat) = 2 ^ 32 by decide, ← Nat.pow_mul]
  exact Nat.pow_lt_pow_right (by decide) hm
theorem pow_size {a k j : Nat} (hk : k ≤ 5000) (hj : j ≤ k) (h : blen a ≤ 1 ∨ (blen a - 1) * k < 10000) : (limbs (a ^ j)).length ≤ 1000 := by
  have h1 : a < 2 ^ blen a := lt_two_blen a
  have h2 : a ^ j ≤ 2 ^ (blen a * j) := by rw [Nat.pow_mul]; exact Nat.pow_le_pow_left (Nat.le_of_lt h1) j
  have h3 : blen a * j ≤ 20000 := by
    rcases h with h | h
    · have : blen a * j ≤ 1 * 5000 := Nat.mul_le_mul h (by omega)
      omega
    · have e1 : blen a * j ≤ blen a * k := Nat.mul_le_mul_left _ hj
      have e2 : blen a * k ≤ (blen a - 1) * k + k := by
        have : blen a ≤ (blen a - 1) + 1 := by omega
        have := Nat.mul_le_mul_right k this
        rwa [Nat.add_mul, Nat.one_mul] at this
      omega
  exact limbs_two h2 (by omega)
theorem blen_bound {a K : Nat} (h : (limbs a).length ≤ K) : blen a ≤ 32 * K := by
  have h1 := lt_pow_limbs a
  refine blen_le (Nat.lt_of_lt_of_le h1 ?_)
  rw [show (4294967296 : Nat) = 2 ^ 32 by decide, ← Nat.pow_mul]
  exact Nat.pow_le_pow_right (by decide) (by omega)
theorem mul_lay {x k : Int} {M : Nat} (h : x * k = (M : Int)) (hM : M ≤ 16000000000) : IntKind.i64.wrap (x * k) = (M : Int) := by
  rw [h]; exact IntWalk.i64_in _ (by omega)
theorem pow_step (a k i : Nat) : a ^ (k / 2 ^ i) = a ^ (k / 2 ^ (i + 1)) * a ^ (k / 2 ^ (i + 1)) * a ^ (k / 2 ^ i % 2) := by
  rw [← Nat.pow_add, ← Nat.pow_add]
  congr 1
  rw [Nat.pow_succ, ← Nat.div_div_eq_div_mul]
  omega

set_option maxRecDepth 100000 in
set_option maxHeartbeats 1000000 in
theorem pow_neg (va : Value) (a : Nat) (k : Int) (w : World) (ha : NatIs w va a) (hk : k < 0) :
    Calls Tryd.prog 27 #[va, .int .i64 k] w (PowPost w a k) := by
  obtain ⟨ao, ca, rfl, ha1, ha2, ha3, ha4⟩ := ha.open
  have hc : powC a k = 1 := by unfold powC; rw [if_pos hk]
  have hv : powV a k = 0 := by unfold powV; rw [hc]; rfl
  have HP : PowPost w a k = fun e w' => ∃ r, e = .returned (.tuple #[r, .int .i64 1]) ∧ NatIs w' r 0 ∧ Below w.heap.size w w' := by unfold PowPost; rw [hc, hv]
  rw [HP]
  clear HP hc hv
  go_enter Tryd.func27, Tryd.ntmps27
  go_wp2
  refine ret_nat_tmp rfl rfl rfl (by go_simp) rfl ⟨_, rfl, NatIs.zero _, ?_⟩
  exact ((Below.refl _ w).alloc (Nat.le_refl _) _).alloc (by simp) _

set_option maxRecDepth 100000 in
set_option maxHeartbeats 1000000 in
theorem pow_big (va : Value) (a : Nat) (k : Int) (w : World) (ha : NatIs w va a) (hk : 5000 < k) :
    Calls Tryd.prog 27 #[va, .int .i64 k] w (PowPost w a k) := by
  obtain ⟨ao, ca, rfl, ha1, ha2, ha3, ha4⟩ := ha.open
  have hc : powC a k = 2 := by unfold powC; rw [if_neg (by omega), if_pos (.inl hk)]
  have hv : powV a k = 0 := by unfold powV; rw [hc]; rfl
  have HP : PowPost w a k = fun e w' => ∃ r, e = .returned (.tuple #[r, .int .i64 2]) ∧ NatIs w' r 0 ∧ Below w.heap.size w w' := by unfold PowPost; rw [hc, hv]
  rw [HP]
  clear HP hc hv
  have hk0 : ¬ k < 0 := by omega
  go_enter Tryd.func27, Tryd.ntmps27
  go_wp2
  refine ret_nat_tmp rfl rfl rfl (by go_simp) rfl ⟨_, rfl, NatIs.zero _, ?_⟩
  exact ((Below.refl _ w).alloc (Nat.le_refl _) _).alloc (by simp) _

set_option maxRecDepth 100000 in
set_option maxHeartbeats 1000000 in
theorem pow_lim (va : Value) (a k : Nat) (w : World) (ha : NatIs w va a) (hla : (limbs a).length ≤ 100000) (hk : k ≤ 5000) (hb : 1 < blen a) (hm : 10000 ≤ (blen a - 1) * k) :
    Calls Tryd.prog 27 #[va, .int .i64 (k : Int)] w (PowPost w a k) := by
  obtain ⟨ao, ca, rfl, ha1, ha2, ha3, ha4⟩ := ha.open
  have hc : powC a k = 2 := by
    unfold powC; rw [if_neg (by omega), if_pos]
    right
    rw [Int.toNat_natCast]
    exact Nat.lt_of_le_of_lt hm (blen_pow (by omega))
  have hv : powV a k = 0 := by unfold powV; rw [hc]; rfl
  have HP : PowPost w a k = fun e w' => ∃ r, e = .returned (.tuple #[r, .int .i64 2]) ∧ NatIs w' r 0 ∧ Below w.heap.size w w' := by unfold PowPost; rw [hc, hv]
  rw [HP]
  clear HP hc hv
  have hbl : blen a ≤ 3200000 := blen_bound hla
  obtain ⟨w0, hw0⟩ : ∃ w0, w0 = (w.alloc (.cells #[.slice ao (limbs a).length ca] 25)).alloc (.cells #[.slice none 0 0] 25) := ⟨_, rfl⟩
  have hbel : Below w.heap.size w w0 := by
    rw [hw0]; exact ((Below.refl _ w).alloc (Nat.le_refl _) _).alloc (by simp <;> omega) _
  have hba : Box w0 w.heap.size (.slice ao (limbs a).length ca) := by
    rw [hw0]; exact ⟨by go_simp, by go_simp, by simp <;> omega⟩
  have hbr : Box w0 (w.heap.size + 1) (.slice none 0 0) := by
    rw [hw0]; exact ⟨by go_simp, by go_simp, by simp <;> omega⟩
  have ha0 := ha.below hbel
  have HW := Lib.hid hw0; clear hw0 ha ha1 ha2 ha3 ha4
  obtain ⟨M, hM⟩ : ∃ M, M = (blen a - 1) * k := ⟨_, rfl⟩
  have hM2 : M ≤ 16000000000 := by rw [hM]; exact Nat.le_trans (Nat.mul_le_mul (show blen a - 1 ≤ 3200000 by omega) hk) (by decide)
  have hmul : (((blen a : Nat) : Int) - 1) * (k : Int) = (M : Int) := by
    rw [hM, Int.natCast_mul]; congr 1; omega
  rw [← hM] at hm
  have hml := mul_lay hmul hM2
  have HM := Lib.hid hM; clear hM hmul
  have hbits := fun W (hW : NatIs W (.agg #[.slice ao (limbs a).length ca]) a) => bits_any _ a W hW (by omega)
  generalize blen a = n at *
  have HBITS := Lib.hid hbits; clear hbits
  have hk1 : ¬ (k : Int) < 0 := by omega
  have hk2 : ¬ (k : Int) > 5000 := by omega
  have e1 := hba.cell
  go_enter Tryd.func27, Tryd.ntmps27
  go_upto_region 3 with fail
  rw [← HW.out]
  go_wp2_with fail
  refine (HBITS.out _ ha0).mono ?_
  rintro e w1 ⟨rfl, hb1⟩
  have hba1 := hba.kept hb1
  have e2 := hba1.cell
  clear e1
  go_wp2_with fail
  refine (HBITS.out _ (ha0.below hb1)).mono ?_
  rintro e w2 ⟨rfl, hb2⟩
  have hb12 := hb1.trans (hb2.mono hb1.size)
  have hbr2 := hbr.kept hb12
  have e3 := hbr2.cell
  have f3 := hbr2.free
  clear e2
  go_wp2
  refine ret_nat_tmp rfl rfl rfl (cell_set e3) rfl ⟨_, rfl, NatIs.zero _, ?_⟩
  exact (hbel.trans (hb12.mono hbel.size)).setCell (p := ⟨w.heap.size + 1, 0, none⟩) (by simp) _

set_option maxRecDepth 100000 in
set_option maxHeartbeats 2000000 in
theorem pow_ok (va : Value) (a k : Nat) (w : World) (ha : NatIs w va a) (hla : (limbs a).length ≤ 100000) (hk : k ≤ 5000) (hs : blen a ≤ 1 ∨ (blen a - 1) * k < 10000) :
    Calls Tryd.prog 27 #[va, .int .i64 (k : Int)] w (PowPost w a k) := by
  obtain ⟨ao, ca, rfl, ha1, ha2, ha3, ha4⟩ := ha.open
  have HSZ : Hid (∀ j, j ≤ k → (limbs (a ^ j)).length ≤ 1000) := Lib.hid (fun j hj => pow_size hk hj hs)
  have hbl : blen a ≤ 3200000 := blen_bound hla
  obtain ⟨w0, hw0⟩ : ∃ w0, w0 = (w.alloc (.cells #[.slice ao (limbs a).length ca] 25)).alloc (.cells #[.slice none 0 0] 25) := ⟨_, rfl⟩
  have hbel : Below w.heap.size w w0 := by
    rw [hw0]; exact ((Below.refl _ w).alloc (Nat.le_refl _) _).alloc (by simp <;> omega) _
  have hba : Box w0 w.heap.size (.slice ao (limbs a).length ca) := by
    rw [hw0]; exact ⟨by go_simp, by go_simp, by simp <;> omega⟩
  have hbr : Box w0 (w.heap.size + 1) (.slice none 0 0) := by
    rw [hw0]; exact ⟨by go_simp, by go_simp, by simp <;> omega⟩
  have ha0 := ha.below hbel
  have HW := Lib.hid hw0; clear hw0 ha ha1 ha2 ha3 ha4
  have hbits := fun W (hW : NatIs W (.agg #[.slice ao (limbs a).length ca]) a) => bits_any _ a W hW (by omega)
  have HP : Hid (∀ (r : Value) (W : World), Below w.heap.size w W → NatIs W r (a ^ k) → ¬ 10000 < blen (a ^ k) → PowPost w a k (.returned (.tuple #[r, .int .i64 0])) W) := Lib.hid (by
    intro r W hW hr hb
    have hc : powC a k = 0 := by unfold powC; rw [if_neg (by omega), if_neg]; rw [Int.toNat_natCast]; omega
    refine ⟨r, by rw [hc], ?_, hW⟩
    unfold powV; rw [hc, if_pos rfl, Int.toNat_natCast]; exact hr)
  have HP2 : Hid (∀ (W : World), Below w.heap.size w W → 10000 < blen (a ^ k) → PowPost w a k (.returned (.tuple #[.agg #[.slice none 0 0], .int .i64 2])) W) := Lib.hid (by
    intro W hW hb
    have hc : powC a k = 2 := by unfold powC; rw [if_neg (by omega), if_pos]; rw [Int.toNat_natCast]; exact .inr hb
    refine ⟨_, by rw [hc], ?_, hW⟩
    unfold powV; rw [hc, if_neg (by decide)]; exact NatIs.zero _)
  have hM : blen a ≤ 1 ∨ (1 < blen a ∧ ∃ M : Nat, M < 10000 ∧ IntKind.i64.wrap ((((blen a : Nat) : Int) - 1) * (k : Int)) = (M : Int)) := by
    rcases hs with h | h
    · exact .inl h
    · by_cases h1 : blen a ≤ 1
      · exact .inl h1
      · refine .inr ⟨by omega, (blen a - 1) * k, h, ?_⟩
        refine mul_lay ?_ (by omega)
        rw [Int.natCast_mul]; congr 1; omega
  clear hs
  generalize blen a = n at *
  have HBITS := Lib.hid hbits; clear hbits
  have hk1 : ¬ (k : Int) < 0 := by omega
  have hk2 : ¬ (k : Int) > 5000 := by omega
  have hbk : Lib.bitLen (k : Int).toNat = blen k := by rw [Int.toNat_natCast]; exact bitLen_blen k (by omega)
  have hbk13 : blen k ≤ 13 := blen_le (by omega)
  have hk0 : k / 2 ^ blen k = 0 := Nat.div_eq_of_lt (lt_two_blen k)
  have HBK := Lib.hid hbk; clear hbk
  have HK0 := Lib.hid hk0; clear hk0
  have e1 := hba.cell
  go_enter Tryd.func27, Tryd.ntmps27
  go_upto_region 3 with fail
  rw [← HW.out]
  rcases hM with hn1 | ⟨hn1, M, hM, hmw⟩
  · go_wp2_with fail
    refine (HBITS.out _ ha0).mono ?_
    rintro e w2 ⟨rfl, hb12⟩
    clear e1
    go_wp2_with fail
    refine (of_any 1 w2 (by omega)).mono ?_
    rintro e w3 ⟨r1, rfl, hr1, hb3⟩
    obtain ⟨so1, sc1, rfl, _, _, _, _⟩ := hr1.open
    have hb13 := hb12.trans (hb3.mono hb12.size)
    obtain ⟨w4, hw4⟩ : ∃ w4, w4 = w3.alloc (.cells #[.slice so1 (limbs 1).length sc1] 25) := ⟨_, rfl⟩
    have hb4 : Below w3.heap.size w3 w4 := by rw [hw4]; exact (Below.refl _ w3).alloc (Nat.le_refl _) _
    have hbo : Box w4 w3.heap.size (.slice so1 (limbs 1).length sc1) := by rw [hw4]; exact ⟨by go_simp, by go_simp, by simp⟩
    have hr4 := hr1.below hb4
    have hba3 := hba.kept hb13
    have hbr3 := hbr.kept hb13
    have ha3 := ha0.below hb13
    have hlt3 := hbr3.lt
    have HW4 := Lib.hid hw4; clear hw4 hr1
    generalize (limbs 1).length = l1 at *
    go_upto_region 6 with fail
    rw [← HW4.out]
    go_wp2_with fail
    refine (Tryd.bits_Len (k : Int) w4 (by omega) (by omega)).mono ?_
    rintro e w' ⟨rfl, rfl⟩
    rw [HBK.out]
    go_wp2_with fail
    go_loopg [7] (blen k) (fun gg iv wr => ∃ (so : Option Addr) (sl sc : Nat), iv = .int .i64 ((gg : Int) - 1) ∧ gg ≤ blen k ∧ Box wr w3.heap.size (.slice so sl sc) ∧ NatIs wr (.agg #[.slice so sl sc]) (a ^ (k / 2 ^ gg)) ∧ Below w3.heap.size w3 wr)
    case atStart => exact ⟨_, _, _, rfl, Nat.le_refl _, hbo, by rw [HK0.out, Nat.pow_zero]; exact hr4, hb4⟩
    case round =>
      obtain ⟨so, sl, sc, rfl, hgk, hbx, hno, hbw⟩ := hrel
      have hbxlt := hbx.lt
      have e5 := hbx.cell
      have f5 := hbx.free
      have hbaw := hba3.below hbw (by omega)
      have hbrw := hbr3.below hbw (by omega)
      have hB := hbel.trans (hb13.mono hbel.size)
      by_cases hg0 : gk = 0
      · subst hg0
        rw [Nat.pow_zero, Nat.div_one] at hno
        have hbits := bits_any _ (a ^ k) wr hno (by have := HSZ.out k (Nat.le_refl _); omega)
        have hbs2 : blen (a ^ k) ≤ 32000 := blen_bound (HSZ.out k (Nat.le_refl _))
        have HP' := HP.out
        have HP2' := HP2.out
        generalize blen (a ^ k) = m at *
        have HB := Lib.hid hbits
        have HPa := Lib.hid HP'
        have HPb := Lib.hid HP2'
        clear hbits HP' HP2'
        go_wp2_with fail
        refine HB.out.mono ?_
        rintro e w5 ⟨rfl, hb5⟩
        have hbx5 := hbx.kept hb5
        have hbr5 := hbrw.kept hb5
        have e6 := hbx5.cell
        have e7 := hbr5.cell
        have f7 := hbr5.free
        have hno5 := hno.below hb5
        have hB5 : Below w.heap.size w w5 := hB.trans ((hbw.trans (hb5.mono (by have := hbx.lt; omega))).mono (hB.size))
        clear e5 f5
        by_cases hm : 10000 < m
        · have hm2 : (m : Int) > 10000 := by omega
          go_wp2
          refine ret_nat_tmp rfl rfl rfl (cell_set e7) rfl (HPb.out _ (hB5.setCell (p := ⟨w.heap.size + 1, 0, none⟩) (by simp) _) hm)
        · have hm2 : ¬ (m : Int) > 10000 := by omega
          go_wp2
          refine ret_nat_tmp rfl rfl rfl (cell_set e7) rfl (HPa.out _ _ (hB5.setCell (p := ⟨w.heap.size + 1, 0, none⟩) (by simp) _) (hno5.set _ _ (fun n e => by rw [e7] at e; cases e)) hm)
      · obtain ⟨j, rfl⟩ : ∃ j, gk = j + 1 := ⟨gk - 1, by omega⟩
        have ej : ((j + 1 : Nat) : Int) - 1 = (j : Int) := by omega
        rw [ej]
        have hps := pow_step a k j
        have hle1 : k / 2 ^ (j + 1) ≤ k := Nat.div_le_self _ _
        have hle2 : k / 2 ^ j ≤ k := Nat.div_le_self _ _
        have hz1 := HSZ.out _ hle1
        have hz2 := HSZ.out _ hle2
        have hsh := fun (W : World) (t : TypeId) => run_shrI (P := Tryd.prog) W t k j (by omega)
        have hand := and_oneI' (k := k) (j := j) (by omega)
        obtain ⟨x, hx⟩ : ∃ x, x = a ^ (k / 2 ^ (j + 1)) := ⟨_, rfl⟩
        obtain ⟨y, hy⟩ : ∃ y, y = a ^ (k / 2 ^ j) := ⟨_, rfl⟩
        rw [← hx] at hps hz1 hno
        rw [← hy] at hps hz2
        have hpar : k / 2 ^ j % 2 = 0 ∨ k / 2 ^ j % 2 = 1 := by omega
        have HY := Lib.hid hy
        have hj13 : j < 13 := by omega
        have hj0 : (0 : Int) ≤ (j : Int) := by omega
        clear hx hy ej hle1 hle2 hg0
        rcases hpar with hp | hp
        · rw [hp] at hps hand
          rw [Nat.pow_zero, Nat.mul_one] at hps
          have HPS := Lib.hid hps
          clear hps hp
          go_wp2_with fail
          refine (mul_any _ _ x x wr hno hno (by omega) (by omega)).mono ?_
          rintro e w5 ⟨rm, rfl, hnm, hb5⟩
          obtain ⟨mo, mc, rfl, _, _, _, _⟩ := hnm.open
          have hbx5 := hbx.kept hb5
          have e6 := hbx5.cell
          have f6 := hbx5.free
          have hbw5 := hbw.trans (hb5.mono (Nat.le_of_lt hbxlt))
          have hnm6 := hnm.set ⟨w3.heap.size, 0, none⟩ (.slice mo (limbs (x * x)).length mc) (fun n e => by rw [e6] at e; cases e)
          rw [← HPS.out] at hnm6 ⊢
          clear e5 f5
          go_wp2_with fail
          go_roundg j
          case measure => omega
          case rel => exact ⟨_, _, _, rfl, by omega, hbx5.set _, by rw [← HY.out]; exact hnm6, hbw5.setCell (Nat.le_refl _) _⟩
        · rw [hp] at hps hand
          rw [Nat.pow_one] at hps
          have HPS := Lib.hid hps
          clear hps hp
          go_wp2_with fail
          refine (mul_any _ _ x x wr hno hno (by omega) (by omega)).mono ?_
          rintro e w5 ⟨rm, rfl, hnm, hb5⟩
          obtain ⟨mo, mc, rfl, _, _, _, _⟩ := hnm.open
          have hbx5 := hbx.kept hb5
          have e6 := hbx5.cell
          have f6 := hbx5.free
          have hbw5 := hbw.trans (hb5.mono (Nat.le_of_lt hbxlt))
          have hba5 := hbaw.kept hb5
          clear e5 f5
          obtain ⟨w6, hw6⟩ : ∃ w6, w6 = w5.setCell ⟨w3.heap.size, 0, none⟩ (.slice mo (limbs (x * x)).length mc) := ⟨_, rfl⟩
          have hnm6 : NatIs w6 (.agg #[.slice mo (limbs (x * x)).length mc]) (x * x) := by rw [hw6]; exact hnm.set _ _ (fun n e => by rw [e6] at e; cases e)
          have hbx6 : Box w6 w3.heap.size (.slice mo (limbs (x * x)).length mc) := by rw [hw6]; exact hbx5.set _
          have hba6 : Box w6 w.heap.size (.slice ao (limbs a).length ca) := by rw [hw6]; exact hba5.setOther (by omega) 0 _
          have hbw6 : Below w3.heap.size w3 w6 := by rw [hw6]; exact hbw5.setCell (Nat.le_refl _) _
          have ha6 := ha3.below hbw6
          have hbxlt6 := hbx6.lt
          have hlx2 : (limbs (x * x)).length ≤ 100000000 := by
            have h1 := val_lt (limbs x) (limbs_lt x)
            rw [val_limbs] at h1
            refine Nat.le_trans (limbs_length_le (k := (limbs x).length + (limbs x).length) ?_) (by omega)
            rw [Nat.pow_add]
            rcases Nat.eq_zero_or_pos x with h0 | h0
            · rw [h0, Nat.zero_mul]; exact Nat.mul_pos (Nat.pow_pos (by decide)) (Nat.pow_pos (by decide))
            · exact Nat.mul_lt_mul'' h1 h1
          have HW6 := Lib.hid hw6
          clear hw6
          go_upto_region 10 with fail
          rw [← HW6.out]
          clear e6 f6
          have e8 := hbx6.cell
          have e9 := hba6.cell
          go_wp2_with fail
          refine (mul_any _ _ (x * x) a w6 hnm6 ha6 hlx2 (by omega)).mono ?_
          rintro e w7 ⟨rn, rfl, hnn, hb7⟩
          obtain ⟨no, nc, rfl, _, _, _, _⟩ := hnn.open
          have hbx7 := hbx6.kept hb7
          have e10 := hbx7.cell
          have f10 := hbx7.free
          have hbw7 := hbw6.trans (hb7.mono (Nat.le_of_lt hbxlt6))
          have hnn8 := hnn.set ⟨w3.heap.size, 0, none⟩ (.slice no (limbs (x * x * a)).length nc) (fun n e => by rw [e10] at e; cases e)
          rw [← HPS.out] at hnn8 ⊢
          clear e8 e9
          go_wp2_with fail
          go_roundg j
          case measure => omega
          case rel => exact ⟨_, _, _, rfl, by omega, hbx7.set _, by rw [← HY.out]; exact hnn8, hbw7.setCell (Nat.le_refl _) _⟩
  · go_wp2_with fail
    refine (HBITS.out _ ha0).mono ?_
    rintro e w1 ⟨rfl, hb1⟩
    have hba1 := hba.kept hb1
    have e2 := hba1.cell
    clear e1
    go_wp2_with fail
    refine (HBITS.out _ (ha0.below hb1)).mono ?_
    rintro e w2 ⟨rfl, hb2⟩
    have hb12 := hb1.trans (hb2.mono hb1.size)
    clear e2 hb1 hba1 hb2
    go_wp2_with fail
    refine (of_any 1 w2 (by omega)).mono ?_
    rintro e w3 ⟨r1, rfl, hr1, hb3⟩
    obtain ⟨so1, sc1, rfl, _, _, _, _⟩ := hr1.open
    have hb13 := hb12.trans (hb3.mono hb12.size)
    obtain ⟨w4, hw4⟩ : ∃ w4, w4 = w3.alloc (.cells #[.slice so1 (limbs 1).length sc1] 25) := ⟨_, rfl⟩
    have hb4 : Below w3.heap.size w3 w4 := by rw [hw4]; exact (Below.refl _ w3).alloc (Nat.le_refl _) _
    have hbo : Box w4 w3.heap.size (.slice so1 (limbs 1).length sc1) := by rw [hw4]; exact ⟨by go_simp, by go_simp, by simp⟩
    have hr4 := hr1.below hb4
    have hba3 := hba.kept hb13
    have hbr3 := hbr.kept hb13
    have ha3 := ha0.below hb13
    have hlt3 := hbr3.lt
    have HW4 := Lib.hid hw4; clear hw4 hr1
    generalize (limbs 1).length = l1 at *
    go_upto_region 6 with fail
    rw [← HW4.out]
    go_wp2_with fail
    refine (Tryd.bits_Len (k : Int) w4 (by omega) (by omega)).mono ?_
    rintro e w' ⟨rfl, rfl⟩
    rw [HBK.out]
    go_wp2_with fail
    go_loopg [7] (blen k) (fun gg iv wr => ∃ (so : Option Addr) (sl sc : Nat), iv = .int .i64 ((gg : Int) - 1) ∧ gg ≤ blen k ∧ Box wr w3.heap.size (.slice so sl sc) ∧ NatIs wr (.agg #[.slice so sl sc]) (a ^ (k / 2 ^ gg)) ∧ Below w3.heap.size w3 wr)
    case atStart => exact ⟨_, _, _, rfl, Nat.le_refl _, hbo, by rw [HK0.out, Nat.pow_zero]; exact hr4, hb4⟩
    case round =>
      obtain ⟨so, sl, sc, rfl, hgk, hbx, hno, hbw⟩ := hrel
      have hbxlt := hbx.lt
      have e5 := hbx.cell
      have f5 := hbx.free
      have hbaw := hba3.below hbw (by omega)
      have hbrw := hbr3.below hbw (by omega)
      have hB := hbel.trans (hb13.mono hbel.size)
      by_cases hg0 : gk = 0
      · subst hg0
        rw [Nat.pow_zero, Nat.div_one] at hno
        have hbits := bits_any _ (a ^ k) wr hno (by have := HSZ.out k (Nat.le_refl _); omega)
        have hbs2 : blen (a ^ k) ≤ 32000 := blen_bound (HSZ.out k (Nat.le_refl _))
        have HP' := HP.out
        have HP2' := HP2.out
        generalize blen (a ^ k) = m at *
        have HB := Lib.hid hbits
        have HPa := Lib.hid HP'
        have HPb := Lib.hid HP2'
        clear hbits HP' HP2'
        go_wp2_with fail
        refine HB.out.mono ?_
        rintro e w5 ⟨rfl, hb5⟩
        have hbx5 := hbx.kept hb5
        have hbr5 := hbrw.kept hb5
        have e6 := hbx5.cell
        have e7 := hbr5.cell
        have f7 := hbr5.free
        have hno5 := hno.below hb5
        have hB5 : Below w.heap.size w w5 := hB.trans ((hbw.trans (hb5.mono (by have := hbx.lt; omega))).mono (hB.size))
        clear e5 f5
        by_cases hm : 10000 < m
        · have hm2 : (m : Int) > 10000 := by omega
          go_wp2
          refine ret_nat_tmp rfl rfl rfl (cell_set e7) rfl (HPb.out _ (hB5.setCell (p := ⟨w.heap.size + 1, 0, none⟩) (by simp) _) hm)
        · have hm2 : ¬ (m : Int) > 10000 := by omega
          go_wp2
          refine ret_nat_tmp rfl rfl rfl (cell_set e7) rfl (HPa.out _ _ (hB5.setCell (p := ⟨w.heap.size + 1, 0, none⟩) (by simp) _) (hno5.set _ _ (fun n e => by rw [e7] at e; cases e)) hm)
      · obtain ⟨j, rfl⟩ : ∃ j, gk = j + 1 := ⟨gk - 1, by omega⟩
        have ej : ((j + 1 : Nat) : Int) - 1 = (j : Int) := by omega
        rw [ej]
        have hps := pow_step a k j
        have hle1 : k / 2 ^ (j + 1) ≤ k := Nat.div_le_self _ _
        have hle2 : k / 2 ^ j ≤ k := Nat.div_le_self _ _
        have hz1 := HSZ.out _ hle1
        have hz2 := HSZ.out _ hle2
        have hsh := fun (W : World) (t : TypeId) => run_shrI (P := Tryd.prog) W t k j (by omega)
        have hand := and_oneI' (k := k) (j := j) (by omega)
        obtain ⟨x, hx⟩ : ∃ x, x = a ^ (k / 2 ^ (j + 1)) := ⟨_, rfl⟩
        obtain ⟨y, hy⟩ : ∃ y, y = a ^ (k / 2 ^ j) := ⟨_, rfl⟩
        rw [← hx] at hps hz1 hno
        rw [← hy] at hps hz2
        have hpar : k / 2 ^ j % 2 = 0 ∨ k / 2 ^ j % 2 = 1 := by omega
        have HY := Lib.hid hy
        have hj13 : j < 13 := by omega
        have hj0 : (0 : Int) ≤ (j : Int) := by omega
        clear hx hy ej hle1 hle2 hg0
        rcases hpar with hp | hp
        · rw [hp] at hps hand
          rw [Nat.pow_zero, Nat.mul_one] at hps
          have HPS := Lib.hid hps
          clear hps hp
          go_wp2_with fail
          refine (mul_any _ _ x x wr hno hno (by omega) (by omega)).mono ?_
          rintro e w5 ⟨rm, rfl, hnm, hb5⟩
          obtain ⟨mo, mc, rfl, _, _, _, _⟩ := hnm.open
          have hbx5 := hbx.kept hb5
          have e6 := hbx5.cell
          have f6 := hbx5.free
          have hbw5 := hbw.trans (hb5.mono (Nat.le_of_lt hbxlt))
          have hnm6 := hnm.set ⟨w3.heap.size, 0, none⟩ (.slice mo (limbs (x * x)).length mc) (fun n e => by rw [e6] at e; cases e)
          rw [← HPS.out] at hnm6 ⊢
          clear e5 f5
          go_wp2_with fail
          go_roundg j
          case measure => omega
          case rel => exact ⟨_, _, _, rfl, by omega, hbx5.set _, by rw [← HY.out]; exact hnm6, hbw5.setCell (Nat.le_refl _) _⟩
        · rw [hp] at hps hand
          rw [Nat.pow_one] at hps
          have HPS := Lib.hid hps
          clear hps hp
          go_wp2_with fail
          refine (mul_any _ _ x x wr hno hno (by omega) (by omega)).mono ?_
          rintro e w5 ⟨rm, rfl, hnm, hb5⟩
          obtain ⟨mo, mc, rfl, _, _, _, _⟩ := hnm.open
          have hbx5 := hbx.kept hb5
          have e6 := hbx5.cell
          have f6 := hbx5.free
          have hbw5 := hbw.trans (hb5.mono (Nat.le_of_lt hbxlt))
          have hba5 := hbaw.kept hb5
          clear e5 f5
          obtain ⟨w6, hw6⟩ : ∃ w6, w6 = w5.setCell ⟨w3.heap.size, 0, none⟩ (.slice mo (limbs (x * x)).length mc) := ⟨_, rfl⟩
          have hnm6 : NatIs w6 (.agg #[.slice mo (limbs (x * x)).length mc]) (x * x) := by rw [hw6]; exact hnm.set _ _ (fun n e => by rw [e6] at e; cases e)
          have hbx6 : Box w6 w3.heap.size (.slice mo (limbs (x * x)).length mc) := by rw [hw6]; exact hbx5.set _
          have hba6 : Box w6 w.heap.size (.slice ao (limbs a).length ca) := by rw [hw6]; exact hba5.setOther (by omega) 0 _
          have hbw6 : Below w3.heap.size w3 w6 := by rw [hw6]; exact hbw5.setCell (Nat.le_refl _) _
          have ha6 := ha3.below hbw6
          have hbxlt6 := hbx6.lt
          have hlx2 : (limbs (x * x)).length ≤ 100000000 := by
            have h1 := val_lt (limbs x) (limbs_lt x)
            rw [val_limbs] at h1
            refine Nat.le_trans (limbs_length_le (k := (limbs x).length + (limbs x).length) ?_) (by omega)
            rw [Nat.pow_add]
            rcases Nat.eq_zero_or_pos x with h0 | h0
            · rw [h0, Nat.zero_mul]; exact Nat.mul_pos (Nat.pow_pos (by decide)) (Nat.pow_pos (by decide))
            · exact Nat.mul_lt_mul'' h1 h1
          have HW6 := Lib.hid hw6
          clear hw6
          go_upto_region 10 with fail
          rw [← HW6.out]
          clear e6 f6
          have e8 := hbx6.cell
          have e9 := hba6.cell
          go_wp2_with fail
          refine (mul_any _ _ (x * x) a w6 hnm6 ha6 hlx2 (by omega)).mono ?_
          rintro e w7 ⟨rn, rfl, hnn, hb7⟩
          obtain ⟨no, nc, rfl, _, _, _, _⟩ := hnn.open
          have hbx7 := hbx6.kept hb7
          have e10 := hbx7.cell
          have f10 := hbx7.free
          have hbw7 := hbw6.trans (hb7.mono (Nat.le_of_lt hbxlt6))
          have hnn8 := hnn.set ⟨w3.heap.size, 0, none⟩ (.slice no (limbs (x * x * a)).length nc) (fun n e => by rw [e10] at e; cases e)
          rw [← HPS.out] at hnn8 ⊢
          clear e8 e9
          go_wp2_with fail
          go_roundg j
          case measure => omega
          case rel => exact ⟨_, _, _, rfl, by omega, hbx7.set _, by rw [← HY.out]; exact hnn8, hbw7.setCell (Nat.le_refl _) _⟩

theorem pow_any (va : Value) (a : Nat) (k : Int) (w : World) (ha : NatIs w va a) (hla : (limbs a).length ≤ 100000) :
    Calls Tryd.prog 27 #[va, .int .i64 k] w (PowPost w a k) := by
  by_cases h1 : k < 0
  · exact pow_neg va a k w ha h1
  · by_cases h2 : 5000 < k
    · exact pow_big va a k w ha h2
    · obtain ⟨n, rfl⟩ : ∃ n : Nat, k = (n : Int) := ⟨k.toNat, by omega⟩
      by_cases h3 : 1 < blen a ∧ 10000 ≤ (blen a - 1) * n
      · exact pow_lim va a n w ha hla (by omega) h3.1 h3.2
      · exact pow_ok va a n w ha hla (by omega) (by omega)
end Go.Proofs.YtegneoaoodddoaaDoor
