/-
  NatTells: the walk.
-/
import Derived.Test.YtegneoaoodddoaaDoorLawN
import Derived.Test.YtegneoaoodddoaaDoorLawL
namespace Go.Proofs.YtegneoaoodddoaaDoor
open Go.RowKit
set_option linter.unusedVariables false
set_option linter.unusedSimpArgs false
attribute [local go_sem] field_nat

theorem two_strs (w : World) (l m : List UInt8) : Strs (w.alloc (.cells #[.string ⟨l.toArray⟩, .string ⟨m.toArray⟩] 9)) (.slice (some ⟨w.heap.size, 0, none⟩) 2 2) [l, m] := by
  refine ⟨_, 2, rfl, by simp, by unfold maxLen; omega, .inr ⟨w.heap.size, 0, rfl, by simp, fun i hi => ?_⟩⟩
  match i, hi with
  | 0, _ => go_simp
  | 1, _ => go_simp
theorem rlimbs_add {a b m n : Nat} (ha : (rlimbs a).length ≤ m) (hb : (rlimbs b).length ≤ n) : (rlimbs (a + b)).length ≤ m + n + 1 := by
  have h1 : a < 10000 ^ (m + n) := Nat.lt_of_lt_of_le (lt_pow_rlimbs a) (Nat.pow_le_pow_right (by decide) (by omega))
  have h2 : b < 10000 ^ (m + n) := Nat.lt_of_lt_of_le (lt_pow_rlimbs b) (Nat.pow_le_pow_right (by decide) (by omega))
  refine rlimbs_length_le ?_
  rw [Nat.pow_succ]
  omega
theorem rlimbs_mul {a b m n : Nat} (ha : (rlimbs a).length ≤ m) (hb : (rlimbs b).length ≤ n) : (rlimbs (a * b)).length ≤ m + n := by
  have h1 := lt_pow_rlimbs a
  have h2 := lt_pow_rlimbs b
  refine Nat.le_trans (rlimbs_length_le (k := (rlimbs a).length + (rlimbs b).length) ?_) (by omega)
  rw [Nat.pow_add]
  rcases Nat.eq_zero_or_pos b with h0 | h0
  · subst h0; rw [Nat.mul_zero]; exact Nat.mul_pos (Nat.pow_pos (by decide)) (Nat.pow_pos (by decide))
  · exact Nat.lt_of_lt_of_le (Nat.mul_lt_mul_of_pos_right h1 h0) (Nat.mul_le_mul_left _ (Nat.le_of_lt h2))
theorem rlimbs_gcd {a b m n : Nat} (ha : (rlimbs a).length ≤ m) (hb : (rlimbs b).length ≤ n) : (rlimbs (Nat.gcd a b)).length ≤ m + n := by
  rcases Nat.eq_zero_or_pos a with h0 | h0
  · subst h0; rw [Nat.gcd_zero_left]; omega
  · have := rlimbs_length_mono (Nat.gcd_le_left b h0); omega
theorem rows2_two {base : Nat} {W : World} {va vb : Value} {A B : Nat} (h : Rows2 base W va vb [A, B]) :
    ∃ ga ca gb cb a0 a1 x0 x1, va = .slice (some ⟨ga, 0, none⟩) 2 ca ∧ vb = .slice (some ⟨gb, 0, none⟩) 2 cb ∧ W.cell? ⟨ga, 0, none⟩ = some a0 ∧ W.cell? ⟨ga, 1, none⟩ = some a1 ∧ W.cell? ⟨gb, 0, none⟩ = some x0 ∧ W.cell? ⟨gb, 1, none⟩ = some x1 ∧
      NatIs W (.agg #[a0]) A ∧ NatIs W (.agg #[a1]) B ∧ RIs W x0 A ∧ RIs W x1 B := by
  obtain ⟨sa, oa, la⟩ := h.a
  obtain ⟨sb, ob, lb⟩ := h.b
  have l1 := la.1
  have l2 := lb.1
  match sa, sb, l1, l2 with
  | [a0, a1], [x0, x1], _, _ =>
    rcases oa.shape with ⟨_, e⟩ | ⟨ga, ca, rfl, _, _, _, _, hc, _⟩
    · cases e
    rcases ob.shape with ⟨_, e⟩ | ⟨gb, cb, rfl, _, _, _, _, hd, _⟩
    · cases e
    exact ⟨ga, ca, gb, cb, a0, a1, x0, x1, rfl, rfl, hc 0 (by simp), hc 1 (by simp), hd 0 (by simp), hd 1 (by simp), la.2 0 a0 rfl, la.2 1 a1 rfl, lb.2 0 x0 rfl, lb.2 1 x1 rfl⟩

set_option maxRecDepth 100000 in
set_option maxHeartbeats 4000000 in
theorem natTells_main (l m : List UInt8) (h1 : l.length ≤ 250) (h2 : m.length ≤ 250) (w : World) :
    Calls Tryd.prog 9 #[.string ⟨l.toArray⟩, .string ⟨m.toArray⟩] w fun e w' => e = .returned (.bool true) ∧ Below w.heap.size w w' := by
  go_enter Tryd.func9, Tryd.ntmps9
  go_wp2_with fail
  refine (alive_any _).mono ?_
  rintro e w1 ⟨rfl, hb⟩
  have hbf := hb
  clear hb
  go_upto_region 3 with fail
  have hst := two_strs w1 l m
  have hal : Below w1.heap.size w1 (w1.alloc (.cells #[.string ⟨l.toArray⟩, .string ⟨m.toArray⟩] 9)) := (Below.refl _ _).alloc (Nat.le_refl _) _
  have hnats := nats_any _ [l, m] _ hst (by simp) (by intro x hx; simp at hx; rcases hx with rfl | rfl <;> omega)
  have HNATS := Lib.hid hnats
  clear hst hnats
  go_wp2_with fail
  refine HNATS.out.mono ?_
  rintro e w5 ⟨va, vb, rfl, hrows, hb⟩
  replace hb := hal.trans (hb.mono hal.size)
  have hrows' : Rows2 (w1.heap.size + 1) w5 va vb [pval l, pval m] := by simpa using hrows
  obtain ⟨ga, ca, gb, cb, a0, a1, x0, x1, rfl, rfl, c1, c2, c3, c4, na, nb, nx, ny⟩ := rows2_two hrows'
  clear hrows hrows' HNATS hal
  replace hbf := hbf.trans (hb.mono hbf.size)
  clear hb
  have hlA := rpval_limbs l
  have hlB := rpval_limbs m
  obtain ⟨A, hA⟩ : ∃ A, A = pval l := ⟨_, rfl⟩
  obtain ⟨B, hB⟩ : ∃ A, A = pval m := ⟨_, rfl⟩
  rw [← hA] at na nx hlA
  rw [← hB] at nb ny hlB
  clear hA hB
  obtain ⟨ao, ac, e0, _, _, _, _⟩ := na.open
  obtain ⟨bo, bc, e1, _, _, _, _⟩ := nb.open
  obtain rfl : a0 = .slice ao (limbs A).length ac := by simpa using e0
  obtain rfl : a1 = .slice bo (limbs B).length bc := by simpa using e1
  obtain ⟨xo, xc, rfl, _, _, _, _⟩ := nx.open
  obtain ⟨yo, yc, rfl, _, _, _, _⟩ := ny.open
  clear e0 e1
  have hA2 := limbs_of_rlimbs hlA
  have hB2 := limbs_of_rlimbs hlB
  have hxz : (rlimbs A).length = 0 ↔ A = 0 := rlen_zero
  have hyz : (rlimbs B).length = 0 ↔ B = 0 := rlen_zero
  have HRA : Hid (∀ z, z = A → (rlimbs z).length ≤ 1200) := Lib.hid (fun z e => e ▸ hlA)
  have HRB : Hid (∀ z, z = B → (rlimbs z).length ≤ 1200) := Lib.hid (fun z e => e ▸ hlB)
  have HLA : Hid (∀ z, z = A → (limbs z).length ≤ 1200) := Lib.hid (fun z e => e ▸ hA2)
  have HLB : Hid (∀ z, z = B → (limbs z).length ≤ 1200) := Lib.hid (fun z e => e ▸ hB2)
  generalize (limbs A).length = al at *
  generalize (limbs B).length = bl at *
  generalize (rlimbs A).length = xl at *
  generalize (rlimbs B).length = yl at *
  go_upto_region 6 with fail
  go_cut [8, 9, 10, 11] (fun p8 p9 x10 x11 wx => ∃ pa pb, p8 = .pointer (some ⟨pa, 0, none⟩) ∧ p9 = .pointer (some ⟨pb, 0, none⟩) ∧ x10 = .slice xo xl xc ∧ x11 = .slice yo yl yc ∧ Box wx pa (.slice ao al ac) ∧ Box wx pb (.slice bo bl bc) ∧ Below w5.heap.size w5 wx)
  case first =>
    clear na nb nx ny hxz hyz
    have HMK : Hid (∀ w', Below w5.heap.size w5 w' → w'.cell? ⟨ga, 0, none⟩ = some (.slice ao al ac) ∧ w'.cell? ⟨ga, 1, none⟩ = some (.slice bo bl bc) ∧ w'.cell? ⟨gb, 0, none⟩ = some (.slice xo xl xc) ∧ w'.cell? ⟨gb, 1, none⟩ = some (.slice yo yl yc) ∧ Below w5.heap.size w5 w') := Lib.hid (fun w' hb => ⟨(hb.cell (p := ⟨ga, 0, none⟩) (World.block_lt_of_cell? w5 ⟨ga, 0, none⟩ c1)).trans c1, (hb.cell (p := ⟨ga, 1, none⟩) (World.block_lt_of_cell? w5 ⟨ga, 1, none⟩ c2)).trans c2, (hb.cell (p := ⟨gb, 0, none⟩) (World.block_lt_of_cell? w5 ⟨gb, 0, none⟩ c3)).trans c3, (hb.cell (p := ⟨gb, 1, none⟩) (World.block_lt_of_cell? w5 ⟨gb, 1, none⟩ c4)).trans c4, hb⟩)
    have HBL : Hid (∀ w', (w'.cell? ⟨ga, 0, none⟩ = some (.slice ao al ac) ∧ w'.cell? ⟨ga, 1, none⟩ = some (.slice bo bl bc) ∧ w'.cell? ⟨gb, 0, none⟩ = some (.slice xo xl xc) ∧ w'.cell? ⟨gb, 1, none⟩ = some (.slice yo yl yc) ∧ Below w5.heap.size w5 w') → Below w5.heap.size w5 w') := Lib.hid (fun w' h => h.2.2.2.2)
    clear c1 c2 c3 c4
    go_wp2_with fail
    go_region_held3 (fun w' => w'.cell? ⟨ga, 0, none⟩ = some (.slice ao al ac) ∧ w'.cell? ⟨ga, 1, none⟩ = some (.slice bo bl bc) ∧ w'.cell? ⟨gb, 0, none⟩ = some (.slice xo xl xc) ∧ w'.cell? ⟨gb, 1, none⟩ = some (.slice yo yl yc) ∧ Below w5.heap.size w5 w')
      (first | assumption | exact HMK.out _ (Below.refl _ _).drew | exact heldS HMK.out HBL.out ((Below.refl _ _).alloc (Nat.le_refl _) _) (by assumption) | exact HMK.out _ ((((Below.refl _ _).alloc (Nat.le_refl _) _).alloc (by simp) _).drew) | exact HMK.out _ (((Below.refl _ _).alloc (Nat.le_refl _) _).drew))
      (fail)
    all_goals
      go_wp2
      go_meet
      case rel => exact ⟨_, _, rfl, rfl, rfl, rfl, box_of (by go_simp) (by go_simp), box_of (by go_simp) (by go_simp), by first | exact (((Below.refl _ _).alloc (Nat.le_refl _) _).alloc (by simp) _).drew | exact ((Below.refl _ _).alloc (Nat.le_refl _) _).alloc (by simp) _⟩
  case rest =>
    obtain ⟨pa, pb, rfl, rfl, rfl, rfl, hba, hbb, hb⟩ := hcut
    clear c1 c2 c3 c4
    replace nx := nx.below hb
    replace ny := ny.below hb
    replace na := na.below hb
    replace nb := nb.below hb
    replace hbf := hbf.trans (hb.mono hbf.size)
    clear hb
    obtain ⟨ci, hci⟩ : ∃ c, c = cmpI A B := ⟨_, rfl⟩
    have hcc : (ci != ci) = false := by simp
    have HCI := Lib.hid hci.symm
    obtain ⟨n, hn⟩ : ∃ n, n = blen A := ⟨_, rfl⟩
    have HN := Lib.hid hn.symm
    have hn9 : n ≤ 48000 := by rw [hn]; exact Nat.le_trans (blen_bound (HLA.out A rfl)) (by omega)
    have hn64 : n ≤ 64 ↔ A < 18446744073709551616 := by rw [hn]; exact blen_le_iff
    obtain ⟨T, hT⟩ : ∃ T, T = str (dec A) := ⟨_, rfl⟩
    have HT := Lib.hid hT.symm
    have HTL : Hid ((dec A).length = T.length) := Lib.hid (by rw [hT]; simp [str])
    have hge1 : B ≤ A → 0 ≤ ci := fun h => by rw [hci]; unfold cmpI; rw [if_neg (by omega)]; split <;> omega
    have hge2 : ¬ B ≤ A → ci < 0 := fun h => by rw [hci]; unfold cmpI; rw [if_pos (by omega)]; omega
    have hs1 : (rlimbs (A + B)).length ≤ 100000 := Nat.le_trans (rlimbs_add (HRA.out A rfl) (HRB.out B rfl)) (by omega)
    have hs2 : (rlimbs (A * B)).length ≤ 100000 := Nat.le_trans (rlimbs_mul (HRA.out A rfl) (HRB.out B rfl)) (by omega)
    have hs3 : (rlimbs (Nat.gcd A B)).length ≤ 100000 := Nat.le_trans (rlimbs_gcd (HRA.out A rfl) (HRB.out B rfl)) (by omega)
    have hs4 : (rlimbs (A - B)).length ≤ 100000 := Nat.le_trans (rlimbs_length_mono (Nat.sub_le _ _)) (by have := HRA.out A rfl; omega)
    have hs5 : (rlimbs (A / B)).length ≤ 100000 := Nat.le_trans (rlimbs_length_mono (Nat.div_le_self _ _)) (by have := HRA.out A rfl; omega)
    have hs6 : (rlimbs (A % B)).length ≤ 100000 := Nat.le_trans (rlimbs_length_mono (Nat.mod_le _ _)) (by have := HRA.out A rfl; omega)
    have hs0 : (rlimbs A).length ≤ 100000 := by have := HRA.out A rfl; omega
    have ha1 : (limbs A).length ≤ 1200 := HLA.out A rfl
    have hb1 : (limbs B).length ≤ 1200 := HLB.out B rfl
    have hr1 : (rlimbs A).length ≤ 1200 := HRA.out A rfl
    have hr2 : (rlimbs B).length ≤ 1200 := HRB.out B rfl
    clear hci hn hT HRA HRB HLA HLB
    by_cases hge : B ≤ A
    case neg =>
      have hz : ¬ B = 0 := by omega
      have HLE : Hid (decide (B ≤ A) = false) := Lib.hid (decide_eq_false hge)
      have hci0 := hge2 hge
      have HGE := Lib.hid hge
      clear hge hge1 hge2
      have HZ : Hid (¬ B = 0) := Lib.hid hz
      have HD : Hid (decide (B ≠ 0) = true) := Lib.hid (by simp [hz])
      have hyl : 0 < yl := Nat.pos_of_ne_zero (fun h => hz (hyz.1 h))
      clear hz hyz
      have ea := hba.cell
      have eb := hbb.cell
      go_wp2_with fail
      refine (sub_any _ _ A B _ na nb (by omega)).mono ?_
      rintro e w21 ⟨rv, rfl, hn, hb⟩
      clear ea eb
      replace hba := hba.kept hb
      replace na := na.below hb
      replace hbb := hbb.kept hb
      replace nb := nb.below hb
      replace nx := nx.below hb
      replace ny := ny.below hb
      replace hbf := hbf.trans (hb.mono hbf.size)
      clear hb
      rw [HLE.out]
      obtain ⟨sv, rfl, ⟨vo, vl, vc, rfl⟩, hbv, hb, nv⟩ := box_nat hn
      obtain ⟨w22, hwE⟩ : ∃ w3, w3 = w21.alloc (.cells #[Value.slice vo vl vc] 25) := ⟨_, rfl⟩
      rw [← hwE] at hbv hb nv
      obtain ⟨pv, hpE⟩ : ∃ p, p = w21.heap.size := ⟨_, rfl⟩
      have HW := Lib.hid hwE; clear hwE hn
      go_upto_region 8 with fail
      rw [← HW.out]
      rw [← hpE] at hbv ⊢
      clear hpE HW
      replace hba := hba.kept hb
      replace na := na.below hb
      replace hbb := hbb.kept hb
      replace nb := nb.below hb
      replace nx := nx.below hb
      replace ny := ny.below hb
      replace hbf := hbf.trans (hb.mono hbf.size)
      clear hb
      have ea := hba.cell
      have eb := hbb.cell
      go_wp2_with fail
      refine (divmod_any _ _ A B _ na nb (by omega) (by omega)).mono ?_
      rintro e w23 ⟨q, s, rfl, hq, hs, hb⟩
      clear ea eb
      replace hba := hba.kept hb
      replace na := na.below hb
      replace hbb := hbb.kept hb
      replace nb := nb.below hb
      replace hbv := hbv.kept hb
      replace nv := nv.below hb
      replace nx := nx.below hb
      replace ny := ny.below hb
      replace hbf := hbf.trans (hb.mono hbf.size)
      clear hb
      rw [HD.out]
      rw [if_neg HZ.out] at hs
      obtain ⟨sv, tv, rfl, rfl, ⟨qo, ql, qc, rfl⟩, ⟨ro, rl, rc, rfl⟩, hbq, hbr, hb, nq, nr⟩ := box_nat2 hq hs
      obtain ⟨w24, hwE⟩ : ∃ w3, w3 = (w23.alloc (.cells #[Value.slice qo ql qc] 25)).alloc (.cells #[Value.slice ro rl rc] 25) := ⟨_, rfl⟩
      rw [← hwE] at hbq hbr hb nq nr
      obtain ⟨pq, hpE⟩ : ∃ p, p = w23.heap.size := ⟨_, rfl⟩
      obtain ⟨pr, hqE⟩ : ∃ p, p = w23.heap.size + 1 := ⟨_, rfl⟩
      have HW := Lib.hid hwE; clear hwE hq hs
      go_upto_region 9 with fail
      rw [← HW.out]
      rw [← hqE] at hbr ⊢
      rw [← hpE] at hbq ⊢
      clear hpE hqE HW
      replace hba := hba.kept hb
      replace na := na.below hb
      replace hbb := hbb.kept hb
      replace nb := nb.below hb
      replace hbv := hbv.kept hb
      replace nv := nv.below hb
      replace nx := nx.below hb
      replace ny := ny.below hb
      replace hbf := hbf.trans (hb.mono hbf.size)
      clear hb
      have ea := hba.cell
      have eb := hbb.cell
      go_wp2_with fail
      refine (cmp_any _ _ A B _ na nb).mono ?_
      rintro e w25 ⟨rfl, hb⟩
      clear ea eb
      replace hba := hba.kept hb
      replace na := na.below hb
      replace hbb := hbb.kept hb
      replace nb := nb.below hb
      replace hbv := hbv.kept hb
      replace nv := nv.below hb
      replace hbq := hbq.kept hb
      replace nq := nq.below hb
      replace hbr := hbr.kept hb
      replace nr := nr.below hb
      replace nx := nx.below hb
      replace ny := ny.below hb
      replace hbf := hbf.trans (hb.mono hbf.size)
      clear hb
      rw [HCI.out]
      go_wp2_with fail
      refine (rcmp_any _ _ A B _ nx ny).mono ?_
      rintro e w26 ⟨rfl, hb⟩
      replace hba := hba.kept hb
      replace na := na.below hb
      replace hbb := hbb.kept hb
      replace nb := nb.below hb
      replace hbv := hbv.kept hb
      replace nv := nv.below hb
      replace hbq := hbq.kept hb
      replace nq := nq.below hb
      replace hbr := hbr.kept hb
      replace nr := nr.below hb
      replace nx := nx.below hb
      replace ny := ny.below hb
      replace hbf := hbf.trans (hb.mono hbf.size)
      clear hb
      rw [HCI.out]
      have ea := hba.cell
      have eb := hbb.cell
      go_wp2_with fail
      refine (add_any _ _ A B _ na nb (by omega) (by omega)).mono ?_
      rintro e w27 ⟨r1, rfl, hq1, hb⟩
      clear ea eb
      replace hba := hba.kept hb
      replace na := na.below hb
      replace hbb := hbb.kept hb
      replace nb := nb.below hb
      replace hbv := hbv.kept hb
      replace nv := nv.below hb
      replace hbq := hbq.kept hb
      replace nq := nq.below hb
      replace hbr := hbr.kept hb
      replace nr := nr.below hb
      replace nx := nx.below hb
      replace ny := ny.below hb
      replace hbf := hbf.trans (hb.mono hbf.size)
      clear hb
      go_wp2_with fail
      refine (radd_any _ _ A B _ nx ny (by omega) (by omega)).mono ?_
      rintro e w28 ⟨r2, rfl, hq2, hb⟩
      replace hba := hba.kept hb
      replace na := na.below hb
      replace hbb := hbb.kept hb
      replace nb := nb.below hb
      replace hbv := hbv.kept hb
      replace nv := nv.below hb
      replace hbq := hbq.kept hb
      replace nq := nq.below hb
      replace hbr := hbr.kept hb
      replace nr := nr.below hb
      replace nx := nx.below hb
      replace ny := ny.below hb
      replace hq1 := hq1.below hb
      replace hbf := hbf.trans (hb.mono hbf.size)
      clear hb
      go_wp2_with fail
      refine (same_any _ _ (A + B) _ hq1 hq2 hs1).mono ?_
      rintro e w29 ⟨rfl, hb⟩
      replace hba := hba.kept hb
      replace na := na.below hb
      replace hbb := hbb.kept hb
      replace nb := nb.below hb
      replace hbv := hbv.kept hb
      replace nv := nv.below hb
      replace hbq := hbq.kept hb
      replace nq := nq.below hb
      replace hbr := hbr.kept hb
      replace nr := nr.below hb
      replace nx := nx.below hb
      replace ny := ny.below hb
      replace hq1 := hq1.below hb
      replace hbf := hbf.trans (hb.mono hbf.size)
      clear hb
      clear hq1 hq2
      have ea := hba.cell
      have eb := hbb.cell
      go_wp2_with fail
      refine (mul_any _ _ A B _ na nb (by omega) (by omega)).mono ?_
      rintro e w30 ⟨r1, rfl, hq1, hb⟩
      clear ea eb
      replace hba := hba.kept hb
      replace na := na.below hb
      replace hbb := hbb.kept hb
      replace nb := nb.below hb
      replace hbv := hbv.kept hb
      replace nv := nv.below hb
      replace hbq := hbq.kept hb
      replace nq := nq.below hb
      replace hbr := hbr.kept hb
      replace nr := nr.below hb
      replace nx := nx.below hb
      replace ny := ny.below hb
      replace hbf := hbf.trans (hb.mono hbf.size)
      clear hb
      go_wp2_with fail
      refine (rmul_any _ _ A B _ nx ny (by omega) (by omega)).mono ?_
      rintro e w31 ⟨r2, rfl, hq2, hb⟩
      replace hba := hba.kept hb
      replace na := na.below hb
      replace hbb := hbb.kept hb
      replace nb := nb.below hb
      replace hbv := hbv.kept hb
      replace nv := nv.below hb
      replace hbq := hbq.kept hb
      replace nq := nq.below hb
      replace hbr := hbr.kept hb
      replace nr := nr.below hb
      replace nx := nx.below hb
      replace ny := ny.below hb
      replace hq1 := hq1.below hb
      replace hbf := hbf.trans (hb.mono hbf.size)
      clear hb
      go_wp2_with fail
      refine (same_any _ _ (A * B) _ hq1 hq2 hs2).mono ?_
      rintro e w32 ⟨rfl, hb⟩
      replace hba := hba.kept hb
      replace na := na.below hb
      replace hbb := hbb.kept hb
      replace nb := nb.below hb
      replace hbv := hbv.kept hb
      replace nv := nv.below hb
      replace hbq := hbq.kept hb
      replace nq := nq.below hb
      replace hbr := hbr.kept hb
      replace nr := nr.below hb
      replace nx := nx.below hb
      replace ny := ny.below hb
      replace hq1 := hq1.below hb
      replace hbf := hbf.trans (hb.mono hbf.size)
      clear hb
      clear hq1 hq2
      have ea := hba.cell
      have eb := hbb.cell
      go_wp2_with fail
      refine (gcd_any _ _ A B _ na nb (by omega) (by omega)).mono ?_
      rintro e w33 ⟨r1, rfl, hq1, hb⟩
      clear ea eb
      replace hba := hba.kept hb
      replace na := na.below hb
      replace hbb := hbb.kept hb
      replace nb := nb.below hb
      replace hbv := hbv.kept hb
      replace nv := nv.below hb
      replace hbq := hbq.kept hb
      replace nq := nq.below hb
      replace hbr := hbr.kept hb
      replace nr := nr.below hb
      replace nx := nx.below hb
      replace ny := ny.below hb
      replace hbf := hbf.trans (hb.mono hbf.size)
      clear hb
      go_wp2_with fail
      refine (rgcd_any _ _ A B _ nx ny (by omega) (by omega)).mono ?_
      rintro e w34 ⟨r2, rfl, hq2, hb⟩
      replace hba := hba.kept hb
      replace na := na.below hb
      replace hbb := hbb.kept hb
      replace nb := nb.below hb
      replace hbv := hbv.kept hb
      replace nv := nv.below hb
      replace hbq := hbq.kept hb
      replace nq := nq.below hb
      replace hbr := hbr.kept hb
      replace nr := nr.below hb
      replace nx := nx.below hb
      replace ny := ny.below hb
      replace hq1 := hq1.below hb
      replace hbf := hbf.trans (hb.mono hbf.size)
      clear hb
      go_wp2_with fail
      refine (same_any _ _ (Nat.gcd A B) _ hq1 hq2 hs3).mono ?_
      rintro e w35 ⟨rfl, hb⟩
      replace hba := hba.kept hb
      replace na := na.below hb
      replace hbb := hbb.kept hb
      replace nb := nb.below hb
      replace hbv := hbv.kept hb
      replace nv := nv.below hb
      replace hbq := hbq.kept hb
      replace nq := nq.below hb
      replace hbr := hbr.kept hb
      replace nr := nr.below hb
      replace nx := nx.below hb
      replace ny := ny.below hb
      replace hq1 := hq1.below hb
      replace hbf := hbf.trans (hb.mono hbf.size)
      clear hb
      clear hq1 hq2
      go_wp2_with fail
      refine (rcmp_any _ _ A B _ nx ny).mono ?_
      rintro e w36 ⟨rfl, hb⟩
      replace hba := hba.kept hb
      replace na := na.below hb
      replace hbb := hbb.kept hb
      replace nb := nb.below hb
      replace hbv := hbv.kept hb
      replace nv := nv.below hb
      replace hbq := hbq.kept hb
      replace nq := nq.below hb
      replace hbr := hbr.kept hb
      replace nr := nr.below hb
      replace nx := nx.below hb
      replace ny := ny.below hb
      replace hbf := hbf.trans (hb.mono hbf.size)
      clear hb
      rw [HCI.out]
      go_upto_region 11 with fail
      have ev := hbv.cell
      have HMK : Hid (∀ w', Below w36.heap.size w36 w' → w'.cell? ⟨pv, 0, none⟩ = some (Value.slice vo vl vc) ∧ Below w36.heap.size w36 w') := Lib.hid (fun w' hb => ⟨(hb.cell (p := ⟨pv, 0, none⟩) (World.block_lt_of_cell? w36 ⟨pv, 0, none⟩ ev)).trans ev, hb⟩)
      have HBL : Hid (∀ w', (w'.cell? ⟨pv, 0, none⟩ = some (Value.slice vo vl vc) ∧ Below w36.heap.size w36 w') → Below w36.heap.size w36 w') := Lib.hid (fun w' h => h.2)
      clear ev
      go_wp2_with fail
      refine wp_region_seq (S := fun w' => w'.cell? ⟨pv, 0, none⟩ = some (Value.slice vo vl vc) ∧ Below w36.heap.size w36 w') [(true, 0), (true, 1), (true, 2), (true, 3), (true, 4), (false, 5), (false, 6), (true, 7), (true, 8), (true, 9), (true, 10), (true, 11), (true, 12), (true, 13), (false, 14), (true, 15), (true, 16), (true, 17)] (by kernel_rfl) (by kernel_rfl) (by kernel_rfl) (by kernel_rfl) (by kernel_rfl) (fun d _ _ _ _ h => by cases d <;> exact h) ?_ (fun hHeld => ?_)
      · first | assumption | exact HMK.out _ (Below.refl _ _).drew
      simp only [pickOps, List.append_eq, List.cons_append, List.nil_append, List.getElem?_toArray, List.getElem?_cons_succ, List.getElem?_cons_zero]
      repeat (first | (refine seq_take (v := ?_) (by rfl) ?_ ?_; rotate_left; (· intro w hSw; (try dsimp only at hSw); go_simp; all_goals with_reducible rfl); (try simp only [Act.put, List.setIfInBounds_toArray, List.set_cons_zero, List.set_cons_succ])) | (refine seq_leave (by rfl) ?_; (try simp only [Act.put, List.setIfInBounds_toArray, List.set_cons_zero, List.set_cons_succ])))
      (refine seq_pass (by rfl) (by assumption) ?_; (try simp only [Act.put, List.setIfInBounds_toArray, List.set_cons_zero, List.set_cons_succ]))
      (refine seq_pass (by rfl) (by assumption) ?_; (try simp only [Act.put, List.setIfInBounds_toArray, List.set_cons_zero, List.set_cons_succ]))
      repeat (first | (refine seq_take (v := ?_) (by rfl) ?_ ?_; rotate_left; (· intro w hSw; (try dsimp only at hSw); go_simp; all_goals with_reducible rfl); (try simp only [Act.put, List.setIfInBounds_toArray, List.set_cons_zero, List.set_cons_succ])) | (refine seq_leave (by rfl) ?_; (try simp only [Act.put, List.setIfInBounds_toArray, List.set_cons_zero, List.set_cons_succ])))
      (refine seq_step (by rfl) (fun K hK => ?_); go_simp; (go_at_call 12; (with_reducible refine (zero_is _ (A - B) _ (nv.below (HBL.out _ (by assumption))) (by have := HGE.out; omega)).mono ?_); rintro e w' ⟨rfl, hb'⟩; have hS := heldS HMK.out HBL.out hb' (by assumption)); (first | refine hK.out _ _ ?_ (fun hHeld => ?_) | (go_wp2_with fail; refine hK.out _ _ ?_ (fun hHeld => ?_))); (· first | assumption | exact HMK.out _ (Below.refl _ _).drew); clear hK K; (try simp only [Act.put, List.setIfInBounds_toArray, List.set_cons_zero, List.set_cons_succ]))
      repeat (first | (refine seq_take (v := ?_) (by rfl) ?_ ?_; rotate_left; (· intro w hSw; (try dsimp only at hSw); go_simp; all_goals with_reducible rfl); (try simp only [Act.put, List.setIfInBounds_toArray, List.set_cons_zero, List.set_cons_succ])) | (refine seq_leave (by rfl) ?_; (try simp only [Act.put, List.setIfInBounds_toArray, List.set_cons_zero, List.set_cons_succ])))
      refine seq_end ?_
      have hb := hHeld.2
      clear HMK HBL hHeld
      replace hba := hba.kept hb
      replace na := na.below hb
      replace hbb := hbb.kept hb
      replace nb := nb.below hb
      replace hbv := hbv.kept hb
      replace nv := nv.below hb
      replace hbq := hbq.kept hb
      replace nq := nq.below hb
      replace hbr := hbr.kept hb
      replace nr := nr.below hb
      replace nx := nx.below hb
      replace ny := ny.below hb
      replace hbf := hbf.trans (hb.mono hbf.size)
      clear hb
      go_wp2_with fail
      refine (rdivmod_any _ _ A B _ nx ny (by omega) (by omega) (by have := HZ.out; omega)).mono ?_
      rintro e w37 ⟨u1, u2, rfl, hq1, hq2, hb⟩
      replace hba := hba.kept hb
      replace na := na.below hb
      replace hbb := hbb.kept hb
      replace nb := nb.below hb
      replace hbv := hbv.kept hb
      replace nv := nv.below hb
      replace hbq := hbq.kept hb
      replace nq := nq.below hb
      replace hbr := hbr.kept hb
      replace nr := nr.below hb
      replace nx := nx.below hb
      replace ny := ny.below hb
      replace hbf := hbf.trans (hb.mono hbf.size)
      clear hb
      have eq := hbq.cell
      go_wp2_with fail
      refine (same_any _ _ (A / B) _ nq hq1 hs5).mono ?_
      rintro e w38 ⟨rfl, hb⟩
      clear eq
      replace hba := hba.kept hb
      replace na := na.below hb
      replace hbb := hbb.kept hb
      replace nb := nb.below hb
      replace hbv := hbv.kept hb
      replace nv := nv.below hb
      replace hbq := hbq.kept hb
      replace nq := nq.below hb
      replace hbr := hbr.kept hb
      replace nr := nr.below hb
      replace nx := nx.below hb
      replace ny := ny.below hb
      replace hq1 := hq1.below hb
      replace hq2 := hq2.below hb
      replace hbf := hbf.trans (hb.mono hbf.size)
      clear hb
      have er := hbr.cell
      go_wp2_with fail
      refine (same_any _ _ (A % B) _ nr hq2 hs6).mono ?_
      rintro e w39 ⟨rfl, hb⟩
      clear er
      replace hba := hba.kept hb
      replace na := na.below hb
      replace hbb := hbb.kept hb
      replace nb := nb.below hb
      replace hbv := hbv.kept hb
      replace nv := nv.below hb
      replace hbq := hbq.kept hb
      replace nq := nq.below hb
      replace hbr := hbr.kept hb
      replace nr := nr.below hb
      replace nx := nx.below hb
      replace ny := ny.below hb
      replace hq1 := hq1.below hb
      replace hq2 := hq2.below hb
      replace hbf := hbf.trans (hb.mono hbf.size)
      clear hb
      have ea := hba.cell
      go_wp2_with fail
      refine (small_any _ A _ na (by omega)).mono ?_
      rintro e w40 ⟨rfl, hb⟩
      clear ea
      replace hba := hba.kept hb
      replace na := na.below hb
      replace hbb := hbb.kept hb
      replace nb := nb.below hb
      replace hbv := hbv.kept hb
      replace nv := nv.below hb
      replace hbq := hbq.kept hb
      replace nq := nq.below hb
      replace hbr := hbr.kept hb
      replace nr := nr.below hb
      replace nx := nx.below hb
      replace ny := ny.below hb
      replace hbf := hbf.trans (hb.mono hbf.size)
      clear hb
      by_cases hA0 : A = 0
      case pos =>
        have h64 : A < 18446744073709551616 := by omega
        have hsv : smallV A = A := by unfold smallV; rw [if_pos h64]
        have hsb : smallB A = true := decide_eq_true h64
        have hn6 : (n : Int) ≤ 64 := by have := hn64.2 h64; omega
        rw [hsv, hsb]
        obtain rfl : xl = 0 := hxz.2 hA0
        have HA0 := Lib.hid hA0
        clear hsv hsb hA0 hxz hn64
        have H64 := Lib.hid h64; clear h64
        have ea := hba.cell
        go_wp2_with fail
        refine (bits_any _ A _ na (by omega)).mono ?_
        rintro e w41 ⟨rfl, hb⟩
        clear ea
        replace hba := hba.kept hb
        replace na := na.below hb
        replace hbb := hbb.kept hb
        replace nb := nb.below hb
        replace hbv := hbv.kept hb
        replace nv := nv.below hb
        replace hbq := hbq.kept hb
        replace nq := nq.below hb
        replace hbr := hbr.kept hb
        replace nr := nr.below hb
        replace nx := nx.below hb
        replace ny := ny.below hb
        replace hbf := hbf.trans (hb.mono hbf.size)
        clear hb
        rw [HN.out]
        go_wp2_with fail
        refine (rbits_any _ A _ nx (by omega) (by rw [HN.out]; omega)).mono ?_
        rintro e w42 ⟨rfl, hb⟩
        replace hba := hba.kept hb
        replace na := na.below hb
        replace hbb := hbb.kept hb
        replace nb := nb.below hb
        replace hbv := hbv.kept hb
        replace nv := nv.below hb
        replace hbq := hbq.kept hb
        replace nq := nq.below hb
        replace hbr := hbr.kept hb
        replace nr := nr.below hb
        replace nx := nx.below hb
        replace ny := ny.below hb
        replace hbf := hbf.trans (hb.mono hbf.size)
        clear hb
        rw [HN.out]
        have ea := hba.cell
        go_wp2_with fail
        refine (digits_any _ A _ na (by omega)).mono ?_
        rintro e w43 ⟨rfl, hb⟩
        clear ea
        replace hba := hba.kept hb
        replace na := na.below hb
        replace hbb := hbb.kept hb
        replace nb := nb.below hb
        replace hbv := hbv.kept hb
        replace nv := nv.below hb
        replace hbq := hbq.kept hb
        replace nq := nq.below hb
        replace hbr := hbr.kept hb
        replace nr := nr.below hb
        replace nx := nx.below hb
        replace ny := ny.below hb
        replace hbf := hbf.trans (hb.mono hbf.size)
        clear hb
        rw [HTL.out]
        go_wp2_with fail
        refine (rtext_any _ A _ nx (by omega)).mono ?_
        rintro e w44 ⟨rfl, hb⟩
        replace hba := hba.kept hb
        replace na := na.below hb
        replace hbb := hbb.kept hb
        replace nb := nb.below hb
        replace hbv := hbv.kept hb
        replace nv := nv.below hb
        replace hbq := hbq.kept hb
        replace nq := nq.below hb
        replace hbr := hbr.kept hb
        replace nr := nr.below hb
        replace nx := nx.below hb
        replace ny := ny.below hb
        replace hbf := hbf.trans (hb.mono hbf.size)
        clear hb
        rw [HT.out]
        have ea := hba.cell
        go_wp2_with fail
        refine (zero_is _ A _ na HA0.out).mono ?_
        rintro e w45 ⟨rfl, hb⟩
        clear ea
        replace hba := hba.kept hb
        replace na := na.below hb
        replace hbb := hbb.kept hb
        replace nb := nb.below hb
        replace hbv := hbv.kept hb
        replace nv := nv.below hb
        replace hbq := hbq.kept hb
        replace nq := nq.below hb
        replace hbr := hbr.kept hb
        replace nr := nr.below hb
        replace nx := nx.below hb
        replace ny := ny.below hb
        replace hbf := hbf.trans (hb.mono hbf.size)
        clear hb
        go_wp2_with fail
        refine (rbits_any _ A _ nx (by omega) (by rw [HN.out]; omega)).mono ?_
        rintro e w46 ⟨rfl, hb⟩
        replace hba := hba.kept hb
        replace na := na.below hb
        replace hbb := hbb.kept hb
        replace nb := nb.below hb
        replace hbv := hbv.kept hb
        replace nv := nv.below hb
        replace hbq := hbq.kept hb
        replace nq := nq.below hb
        replace hbr := hbr.kept hb
        replace nr := nr.below hb
        replace nx := nx.below hb
        replace ny := ny.below hb
        replace hbf := hbf.trans (hb.mono hbf.size)
        clear hb
        rw [HN.out]
        go_wp2_with fail
        refine (of_any A _ H64.out).mono ?_
        rintro e w47 ⟨r1, rfl, hq1, hb⟩
        replace hba := hba.kept hb
        replace na := na.below hb
        replace hbb := hbb.kept hb
        replace nb := nb.below hb
        replace hbv := hbv.kept hb
        replace nv := nv.below hb
        replace hbq := hbq.kept hb
        replace nq := nq.below hb
        replace hbr := hbr.kept hb
        replace nr := nr.below hb
        replace nx := nx.below hb
        replace ny := ny.below hb
        replace hbf := hbf.trans (hb.mono hbf.size)
        clear hb
        go_wp2_with fail
        refine (same_any _ _ A _ hq1 nx hs0).mono ?_
        rintro e w48 ⟨rfl, hb⟩
        replace hba := hba.kept hb
        replace na := na.below hb
        replace hbb := hbb.kept hb
        replace nb := nb.below hb
        replace hbv := hbv.kept hb
        replace nv := nv.below hb
        replace hbq := hbq.kept hb
        replace nq := nq.below hb
        replace hbr := hbr.kept hb
        replace nr := nr.below hb
        replace nx := nx.below hb
        replace ny := ny.below hb
        replace hbf := hbf.trans (hb.mono hbf.size)
        clear hb
        go_wp2
        go_ret
        exact ⟨rfl, hbf⟩
      case neg =>
        by_cases h64 : A < 18446744073709551616
        case pos =>
          have h64 : A < 18446744073709551616 := by omega
          have hsv : smallV A = A := by unfold smallV; rw [if_pos h64]
          have hsb : smallB A = true := decide_eq_true h64
          have hn6 : (n : Int) ≤ 64 := by have := hn64.2 h64; omega
          rw [hsv, hsb]
          have hxl : ((xl : Int) == 0) = false := by rw [beq_eq_false_iff_ne]; intro h; exact hA0 (hxz.1 (by omega))
          have HA0 : Hid (A ≠ 0) := Lib.hid hA0
          clear hsv hsb hA0 hxz hn64
          have H64 := Lib.hid h64; clear h64
          have ea := hba.cell
          go_wp2_with fail
          refine (bits_any _ A _ na (by omega)).mono ?_
          rintro e w41 ⟨rfl, hb⟩
          clear ea
          replace hba := hba.kept hb
          replace na := na.below hb
          replace hbb := hbb.kept hb
          replace nb := nb.below hb
          replace hbv := hbv.kept hb
          replace nv := nv.below hb
          replace hbq := hbq.kept hb
          replace nq := nq.below hb
          replace hbr := hbr.kept hb
          replace nr := nr.below hb
          replace nx := nx.below hb
          replace ny := ny.below hb
          replace hbf := hbf.trans (hb.mono hbf.size)
          clear hb
          rw [HN.out]
          go_wp2_with fail
          refine (rbits_any _ A _ nx (by omega) (by rw [HN.out]; omega)).mono ?_
          rintro e w42 ⟨rfl, hb⟩
          replace hba := hba.kept hb
          replace na := na.below hb
          replace hbb := hbb.kept hb
          replace nb := nb.below hb
          replace hbv := hbv.kept hb
          replace nv := nv.below hb
          replace hbq := hbq.kept hb
          replace nq := nq.below hb
          replace hbr := hbr.kept hb
          replace nr := nr.below hb
          replace nx := nx.below hb
          replace ny := ny.below hb
          replace hbf := hbf.trans (hb.mono hbf.size)
          clear hb
          rw [HN.out]
          have ea := hba.cell
          go_wp2_with fail
          refine (digits_any _ A _ na (by omega)).mono ?_
          rintro e w43 ⟨rfl, hb⟩
          clear ea
          replace hba := hba.kept hb
          replace na := na.below hb
          replace hbb := hbb.kept hb
          replace nb := nb.below hb
          replace hbv := hbv.kept hb
          replace nv := nv.below hb
          replace hbq := hbq.kept hb
          replace nq := nq.below hb
          replace hbr := hbr.kept hb
          replace nr := nr.below hb
          replace nx := nx.below hb
          replace ny := ny.below hb
          replace hbf := hbf.trans (hb.mono hbf.size)
          clear hb
          rw [HTL.out]
          go_wp2_with fail
          refine (rtext_any _ A _ nx (by omega)).mono ?_
          rintro e w44 ⟨rfl, hb⟩
          replace hba := hba.kept hb
          replace na := na.below hb
          replace hbb := hbb.kept hb
          replace nb := nb.below hb
          replace hbv := hbv.kept hb
          replace nv := nv.below hb
          replace hbq := hbq.kept hb
          replace nq := nq.below hb
          replace hbr := hbr.kept hb
          replace nr := nr.below hb
          replace nx := nx.below hb
          replace ny := ny.below hb
          replace hbf := hbf.trans (hb.mono hbf.size)
          clear hb
          rw [HT.out]
          have ea := hba.cell
          go_wp2_with fail
          refine (zero_no _ A _ na HA0.out).mono ?_
          rintro e w45 ⟨rfl, hb⟩
          clear ea
          replace hba := hba.kept hb
          replace na := na.below hb
          replace hbb := hbb.kept hb
          replace nb := nb.below hb
          replace hbv := hbv.kept hb
          replace nv := nv.below hb
          replace hbq := hbq.kept hb
          replace nq := nq.below hb
          replace hbr := hbr.kept hb
          replace nr := nr.below hb
          replace nx := nx.below hb
          replace ny := ny.below hb
          replace hbf := hbf.trans (hb.mono hbf.size)
          clear hb
          go_wp2_with fail
          refine (rbits_any _ A _ nx (by omega) (by rw [HN.out]; omega)).mono ?_
          rintro e w46 ⟨rfl, hb⟩
          replace hba := hba.kept hb
          replace na := na.below hb
          replace hbb := hbb.kept hb
          replace nb := nb.below hb
          replace hbv := hbv.kept hb
          replace nv := nv.below hb
          replace hbq := hbq.kept hb
          replace nq := nq.below hb
          replace hbr := hbr.kept hb
          replace nr := nr.below hb
          replace nx := nx.below hb
          replace ny := ny.below hb
          replace hbf := hbf.trans (hb.mono hbf.size)
          clear hb
          rw [HN.out]
          go_wp2_with fail
          refine (of_any A _ H64.out).mono ?_
          rintro e w47 ⟨r1, rfl, hq1, hb⟩
          replace hba := hba.kept hb
          replace na := na.below hb
          replace hbb := hbb.kept hb
          replace nb := nb.below hb
          replace hbv := hbv.kept hb
          replace nv := nv.below hb
          replace hbq := hbq.kept hb
          replace nq := nq.below hb
          replace hbr := hbr.kept hb
          replace nr := nr.below hb
          replace nx := nx.below hb
          replace ny := ny.below hb
          replace hbf := hbf.trans (hb.mono hbf.size)
          clear hb
          go_wp2_with fail
          refine (same_any _ _ A _ hq1 nx hs0).mono ?_
          rintro e w48 ⟨rfl, hb⟩
          replace hba := hba.kept hb
          replace na := na.below hb
          replace hbb := hbb.kept hb
          replace nb := nb.below hb
          replace hbv := hbv.kept hb
          replace nv := nv.below hb
          replace hbq := hbq.kept hb
          replace nq := nq.below hb
          replace hbr := hbr.kept hb
          replace nr := nr.below hb
          replace nx := nx.below hb
          replace ny := ny.below hb
          replace hbf := hbf.trans (hb.mono hbf.size)
          clear hb
          go_wp2
          go_ret
          exact ⟨rfl, hbf⟩
        case neg =>
          have hsv : smallV A = 0 := by unfold smallV; rw [if_neg h64]
          have hsb : smallB A = false := decide_eq_false h64
          have hn6 : ¬ (n : Int) ≤ 64 := fun h => h64 (hn64.1 (by omega))
          rw [hsv, hsb]
          have hxl : ((xl : Int) == 0) = false := by rw [beq_eq_false_iff_ne]; intro h; exact hA0 (hxz.1 (by omega))
          have HA0 : Hid (A ≠ 0) := Lib.hid hA0
          clear hsv hsb hA0 hxz hn64
          have ea := hba.cell
          go_wp2_with fail
          refine (bits_any _ A _ na (by omega)).mono ?_
          rintro e w41 ⟨rfl, hb⟩
          clear ea
          replace hba := hba.kept hb
          replace na := na.below hb
          replace hbb := hbb.kept hb
          replace nb := nb.below hb
          replace hbv := hbv.kept hb
          replace nv := nv.below hb
          replace hbq := hbq.kept hb
          replace nq := nq.below hb
          replace hbr := hbr.kept hb
          replace nr := nr.below hb
          replace nx := nx.below hb
          replace ny := ny.below hb
          replace hbf := hbf.trans (hb.mono hbf.size)
          clear hb
          rw [HN.out]
          go_wp2_with fail
          refine (rbits_any _ A _ nx (by omega) (by rw [HN.out]; omega)).mono ?_
          rintro e w42 ⟨rfl, hb⟩
          replace hba := hba.kept hb
          replace na := na.below hb
          replace hbb := hbb.kept hb
          replace nb := nb.below hb
          replace hbv := hbv.kept hb
          replace nv := nv.below hb
          replace hbq := hbq.kept hb
          replace nq := nq.below hb
          replace hbr := hbr.kept hb
          replace nr := nr.below hb
          replace nx := nx.below hb
          replace ny := ny.below hb
          replace hbf := hbf.trans (hb.mono hbf.size)
          clear hb
          rw [HN.out]
          have ea := hba.cell
          go_wp2_with fail
          refine (digits_any _ A _ na (by omega)).mono ?_
          rintro e w43 ⟨rfl, hb⟩
          clear ea
          replace hba := hba.kept hb
          replace na := na.below hb
          replace hbb := hbb.kept hb
          replace nb := nb.below hb
          replace hbv := hbv.kept hb
          replace nv := nv.below hb
          replace hbq := hbq.kept hb
          replace nq := nq.below hb
          replace hbr := hbr.kept hb
          replace nr := nr.below hb
          replace nx := nx.below hb
          replace ny := ny.below hb
          replace hbf := hbf.trans (hb.mono hbf.size)
          clear hb
          rw [HTL.out]
          go_wp2_with fail
          refine (rtext_any _ A _ nx (by omega)).mono ?_
          rintro e w44 ⟨rfl, hb⟩
          replace hba := hba.kept hb
          replace na := na.below hb
          replace hbb := hbb.kept hb
          replace nb := nb.below hb
          replace hbv := hbv.kept hb
          replace nv := nv.below hb
          replace hbq := hbq.kept hb
          replace nq := nq.below hb
          replace hbr := hbr.kept hb
          replace nr := nr.below hb
          replace nx := nx.below hb
          replace ny := ny.below hb
          replace hbf := hbf.trans (hb.mono hbf.size)
          clear hb
          rw [HT.out]
          have ea := hba.cell
          go_wp2_with fail
          refine (zero_no _ A _ na HA0.out).mono ?_
          rintro e w45 ⟨rfl, hb⟩
          clear ea
          replace hba := hba.kept hb
          replace na := na.below hb
          replace hbb := hbb.kept hb
          replace nb := nb.below hb
          replace hbv := hbv.kept hb
          replace nv := nv.below hb
          replace hbq := hbq.kept hb
          replace nq := nq.below hb
          replace hbr := hbr.kept hb
          replace nr := nr.below hb
          replace nx := nx.below hb
          replace ny := ny.below hb
          replace hbf := hbf.trans (hb.mono hbf.size)
          clear hb
          go_wp2_with fail
          refine (rbits_any _ A _ nx (by omega) (by rw [HN.out]; omega)).mono ?_
          rintro e w46 ⟨rfl, hb⟩
          replace hba := hba.kept hb
          replace na := na.below hb
          replace hbb := hbb.kept hb
          replace nb := nb.below hb
          replace hbv := hbv.kept hb
          replace nv := nv.below hb
          replace hbq := hbq.kept hb
          replace nq := nq.below hb
          replace hbr := hbr.kept hb
          replace nr := nr.below hb
          replace nx := nx.below hb
          replace ny := ny.below hb
          replace hbf := hbf.trans (hb.mono hbf.size)
          clear hb
          rw [HN.out]
          have HN6 : Hid (decide ((n : Int) ≤ 64) = false) := Lib.hid (decide_eq_false (by omega))
          go_wp2
          go_ret
          exact ⟨ret_one (congrArg Value.bool (by rw [HN6.out]; rfl)), hbf⟩

    case pos =>
      by_cases hz : B = 0
      case pos =>
        have HLE : Hid (decide (B ≤ A) = true) := Lib.hid (decide_eq_true hge)
        have hci0 := hge1 hge
        have HGE := Lib.hid hge
        clear hge hge1 hge2
        have HZ := Lib.hid hz
        have HD : Hid (decide (B ≠ 0) = false) := Lib.hid (by simp [hz])
        obtain rfl : yl = 0 := hyz.2 hz
        clear hz hyz
        have ea := hba.cell
        have eb := hbb.cell
        go_wp2_with fail
        refine (sub_any _ _ A B _ na nb (by omega)).mono ?_
        rintro e w21 ⟨rv, rfl, hn, hb⟩
        clear ea eb
        replace hba := hba.kept hb
        replace na := na.below hb
        replace hbb := hbb.kept hb
        replace nb := nb.below hb
        replace nx := nx.below hb
        replace ny := ny.below hb
        replace hbf := hbf.trans (hb.mono hbf.size)
        clear hb
        rw [HLE.out]
        obtain ⟨sv, rfl, ⟨vo, vl, vc, rfl⟩, hbv, hb, nv⟩ := box_nat hn
        obtain ⟨w22, hwE⟩ : ∃ w3, w3 = w21.alloc (.cells #[Value.slice vo vl vc] 25) := ⟨_, rfl⟩
        rw [← hwE] at hbv hb nv
        obtain ⟨pv, hpE⟩ : ∃ p, p = w21.heap.size := ⟨_, rfl⟩
        have HW := Lib.hid hwE; clear hwE hn
        go_upto_region 8 with fail
        rw [← HW.out]
        rw [← hpE] at hbv ⊢
        clear hpE HW
        replace hba := hba.kept hb
        replace na := na.below hb
        replace hbb := hbb.kept hb
        replace nb := nb.below hb
        replace nx := nx.below hb
        replace ny := ny.below hb
        replace hbf := hbf.trans (hb.mono hbf.size)
        clear hb
        have ea := hba.cell
        have eb := hbb.cell
        go_wp2_with fail
        refine (divmod_any _ _ A B _ na nb (by omega) (by omega)).mono ?_
        rintro e w23 ⟨q, s, rfl, hq, hs, hb⟩
        clear ea eb
        replace hba := hba.kept hb
        replace na := na.below hb
        replace hbb := hbb.kept hb
        replace nb := nb.below hb
        replace hbv := hbv.kept hb
        replace nv := nv.below hb
        replace nx := nx.below hb
        replace ny := ny.below hb
        replace hbf := hbf.trans (hb.mono hbf.size)
        clear hb
        rw [HD.out]
        rw [if_pos HZ.out] at hs
        obtain ⟨sv, tv, rfl, rfl, ⟨qo, ql, qc, rfl⟩, ⟨ro, rl, rc, rfl⟩, hbq, hbr, hb, nq, nr⟩ := box_nat2 hq hs
        obtain ⟨w24, hwE⟩ : ∃ w3, w3 = (w23.alloc (.cells #[Value.slice qo ql qc] 25)).alloc (.cells #[Value.slice ro rl rc] 25) := ⟨_, rfl⟩
        rw [← hwE] at hbq hbr hb nq nr
        obtain ⟨pq, hpE⟩ : ∃ p, p = w23.heap.size := ⟨_, rfl⟩
        obtain ⟨pr, hqE⟩ : ∃ p, p = w23.heap.size + 1 := ⟨_, rfl⟩
        have HW := Lib.hid hwE; clear hwE hq hs
        go_upto_region 9 with fail
        rw [← HW.out]
        rw [← hqE] at hbr ⊢
        rw [← hpE] at hbq ⊢
        clear hpE hqE HW
        replace hba := hba.kept hb
        replace na := na.below hb
        replace hbb := hbb.kept hb
        replace nb := nb.below hb
        replace hbv := hbv.kept hb
        replace nv := nv.below hb
        replace nx := nx.below hb
        replace ny := ny.below hb
        replace hbf := hbf.trans (hb.mono hbf.size)
        clear hb
        have ea := hba.cell
        have eb := hbb.cell
        go_wp2_with fail
        refine (cmp_any _ _ A B _ na nb).mono ?_
        rintro e w25 ⟨rfl, hb⟩
        clear ea eb
        replace hba := hba.kept hb
        replace na := na.below hb
        replace hbb := hbb.kept hb
        replace nb := nb.below hb
        replace hbv := hbv.kept hb
        replace nv := nv.below hb
        replace hbq := hbq.kept hb
        replace nq := nq.below hb
        replace hbr := hbr.kept hb
        replace nr := nr.below hb
        replace nx := nx.below hb
        replace ny := ny.below hb
        replace hbf := hbf.trans (hb.mono hbf.size)
        clear hb
        rw [HCI.out]
        go_wp2_with fail
        refine (rcmp_any _ _ A B _ nx ny).mono ?_
        rintro e w26 ⟨rfl, hb⟩
        replace hba := hba.kept hb
        replace na := na.below hb
        replace hbb := hbb.kept hb
        replace nb := nb.below hb
        replace hbv := hbv.kept hb
        replace nv := nv.below hb
        replace hbq := hbq.kept hb
        replace nq := nq.below hb
        replace hbr := hbr.kept hb
        replace nr := nr.below hb
        replace nx := nx.below hb
        replace ny := ny.below hb
        replace hbf := hbf.trans (hb.mono hbf.size)
        clear hb
        rw [HCI.out]
        have ea := hba.cell
        have eb := hbb.cell
        go_wp2_with fail
        refine (add_any _ _ A B _ na nb (by omega) (by omega)).mono ?_
        rintro e w27 ⟨r1, rfl, hq1, hb⟩
        clear ea eb
        replace hba := hba.kept hb
        replace na := na.below hb
        replace hbb := hbb.kept hb
        replace nb := nb.below hb
        replace hbv := hbv.kept hb
        replace nv := nv.below hb
        replace hbq := hbq.kept hb
        replace nq := nq.below hb
        replace hbr := hbr.kept hb
        replace nr := nr.below hb
        replace nx := nx.below hb
        replace ny := ny.below hb
        replace hbf := hbf.trans (hb.mono hbf.size)
        clear hb
        go_wp2_with fail
        refine (radd_any _ _ A B _ nx ny (by omega) (by omega)).mono ?_
        rintro e w28 ⟨r2, rfl, hq2, hb⟩
        replace hba := hba.kept hb
        replace na := na.below hb
        replace hbb := hbb.kept hb
        replace nb := nb.below hb
        replace hbv := hbv.kept hb
        replace nv := nv.below hb
        replace hbq := hbq.kept hb
        replace nq := nq.below hb
        replace hbr := hbr.kept hb
        replace nr := nr.below hb
        replace nx := nx.below hb
        replace ny := ny.below hb
        replace hq1 := hq1.below hb
        replace hbf := hbf.trans (hb.mono hbf.size)
        clear hb
        go_wp2_with fail
        refine (same_any _ _ (A + B) _ hq1 hq2 hs1).mono ?_
        rintro e w29 ⟨rfl, hb⟩
        replace hba := hba.kept hb
        replace na := na.below hb
        replace hbb := hbb.kept hb
        replace nb := nb.below hb
        replace hbv := hbv.kept hb
        replace nv := nv.below hb
        replace hbq := hbq.kept hb
        replace nq := nq.below hb
        replace hbr := hbr.kept hb
        replace nr := nr.below hb
        replace nx := nx.below hb
        replace ny := ny.below hb
        replace hq1 := hq1.below hb
        replace hbf := hbf.trans (hb.mono hbf.size)
        clear hb
        clear hq1 hq2
        have ea := hba.cell
        have eb := hbb.cell
        go_wp2_with fail
        refine (mul_any _ _ A B _ na nb (by omega) (by omega)).mono ?_
        rintro e w30 ⟨r1, rfl, hq1, hb⟩
        clear ea eb
        replace hba := hba.kept hb
        replace na := na.below hb
        replace hbb := hbb.kept hb
        replace nb := nb.below hb
        replace hbv := hbv.kept hb
        replace nv := nv.below hb
        replace hbq := hbq.kept hb
        replace nq := nq.below hb
        replace hbr := hbr.kept hb
        replace nr := nr.below hb
        replace nx := nx.below hb
        replace ny := ny.below hb
        replace hbf := hbf.trans (hb.mono hbf.size)
        clear hb
        go_wp2_with fail
        refine (rmul_any _ _ A B _ nx ny (by omega) (by omega)).mono ?_
        rintro e w31 ⟨r2, rfl, hq2, hb⟩
        replace hba := hba.kept hb
        replace na := na.below hb
        replace hbb := hbb.kept hb
        replace nb := nb.below hb
        replace hbv := hbv.kept hb
        replace nv := nv.below hb
        replace hbq := hbq.kept hb
        replace nq := nq.below hb
        replace hbr := hbr.kept hb
        replace nr := nr.below hb
        replace nx := nx.below hb
        replace ny := ny.below hb
        replace hq1 := hq1.below hb
        replace hbf := hbf.trans (hb.mono hbf.size)
        clear hb
        go_wp2_with fail
        refine (same_any _ _ (A * B) _ hq1 hq2 hs2).mono ?_
        rintro e w32 ⟨rfl, hb⟩
        replace hba := hba.kept hb
        replace na := na.below hb
        replace hbb := hbb.kept hb
        replace nb := nb.below hb
        replace hbv := hbv.kept hb
        replace nv := nv.below hb
        replace hbq := hbq.kept hb
        replace nq := nq.below hb
        replace hbr := hbr.kept hb
        replace nr := nr.below hb
        replace nx := nx.below hb
        replace ny := ny.below hb
        replace hq1 := hq1.below hb
        replace hbf := hbf.trans (hb.mono hbf.size)
        clear hb
        clear hq1 hq2
        have ea := hba.cell
        have eb := hbb.cell
        go_wp2_with fail
        refine (gcd_any _ _ A B _ na nb (by omega) (by omega)).mono ?_
        rintro e w33 ⟨r1, rfl, hq1, hb⟩
        clear ea eb
        replace hba := hba.kept hb
        replace na := na.below hb
        replace hbb := hbb.kept hb
        replace nb := nb.below hb
        replace hbv := hbv.kept hb
        replace nv := nv.below hb
        replace hbq := hbq.kept hb
        replace nq := nq.below hb
        replace hbr := hbr.kept hb
        replace nr := nr.below hb
        replace nx := nx.below hb
        replace ny := ny.below hb
        replace hbf := hbf.trans (hb.mono hbf.size)
        clear hb
        go_wp2_with fail
        refine (rgcd_any _ _ A B _ nx ny (by omega) (by omega)).mono ?_
        rintro e w34 ⟨r2, rfl, hq2, hb⟩
        replace hba := hba.kept hb
        replace na := na.below hb
        replace hbb := hbb.kept hb
        replace nb := nb.below hb
        replace hbv := hbv.kept hb
        replace nv := nv.below hb
        replace hbq := hbq.kept hb
        replace nq := nq.below hb
        replace hbr := hbr.kept hb
        replace nr := nr.below hb
        replace nx := nx.below hb
        replace ny := ny.below hb
        replace hq1 := hq1.below hb
        replace hbf := hbf.trans (hb.mono hbf.size)
        clear hb
        go_wp2_with fail
        refine (same_any _ _ (Nat.gcd A B) _ hq1 hq2 hs3).mono ?_
        rintro e w35 ⟨rfl, hb⟩
        replace hba := hba.kept hb
        replace na := na.below hb
        replace hbb := hbb.kept hb
        replace nb := nb.below hb
        replace hbv := hbv.kept hb
        replace nv := nv.below hb
        replace hbq := hbq.kept hb
        replace nq := nq.below hb
        replace hbr := hbr.kept hb
        replace nr := nr.below hb
        replace nx := nx.below hb
        replace ny := ny.below hb
        replace hq1 := hq1.below hb
        replace hbf := hbf.trans (hb.mono hbf.size)
        clear hb
        clear hq1 hq2
        go_wp2_with fail
        refine (rcmp_any _ _ A B _ nx ny).mono ?_
        rintro e w36 ⟨rfl, hb⟩
        replace hba := hba.kept hb
        replace na := na.below hb
        replace hbb := hbb.kept hb
        replace nb := nb.below hb
        replace hbv := hbv.kept hb
        replace nv := nv.below hb
        replace hbq := hbq.kept hb
        replace nq := nq.below hb
        replace hbr := hbr.kept hb
        replace nr := nr.below hb
        replace nx := nx.below hb
        replace ny := ny.below hb
        replace hbf := hbf.trans (hb.mono hbf.size)
        clear hb
        rw [HCI.out]
        go_upto_region 11 with fail
        have ev := hbv.cell
        have HMK : Hid (∀ w', Below w36.heap.size w36 w' → w'.cell? ⟨pv, 0, none⟩ = some (Value.slice vo vl vc) ∧ Below w36.heap.size w36 w') := Lib.hid (fun w' hb => ⟨(hb.cell (p := ⟨pv, 0, none⟩) (World.block_lt_of_cell? w36 ⟨pv, 0, none⟩ ev)).trans ev, hb⟩)
        have HBL : Hid (∀ w', (w'.cell? ⟨pv, 0, none⟩ = some (Value.slice vo vl vc) ∧ Below w36.heap.size w36 w') → Below w36.heap.size w36 w') := Lib.hid (fun w' h => h.2)
        clear ev
        go_wp2_with fail
        refine wp_region_seq (S := fun w' => w'.cell? ⟨pv, 0, none⟩ = some (Value.slice vo vl vc) ∧ Below w36.heap.size w36 w') [(true, 0), (true, 1), (true, 2), (true, 3), (true, 4), (false, 5), (false, 6), (true, 7), (true, 8), (true, 9), (true, 10), (true, 11), (true, 12), (true, 13), (false, 14), (true, 15), (true, 16), (true, 17)] (by kernel_rfl) (by kernel_rfl) (by kernel_rfl) (by kernel_rfl) (by kernel_rfl) (fun d _ _ _ _ h => by cases d <;> exact h) ?_ (fun hHeld => ?_)
        · first | assumption | exact HMK.out _ (Below.refl _ _).drew
        simp only [pickOps, List.append_eq, List.cons_append, List.nil_append, List.getElem?_toArray, List.getElem?_cons_succ, List.getElem?_cons_zero]
        repeat (first | (refine seq_take (v := ?_) (by rfl) ?_ ?_; rotate_left; (· intro w hSw; (try dsimp only at hSw); go_simp; all_goals with_reducible rfl); (try simp only [Act.put, List.setIfInBounds_toArray, List.set_cons_zero, List.set_cons_succ])) | (refine seq_leave (by rfl) ?_; (try simp only [Act.put, List.setIfInBounds_toArray, List.set_cons_zero, List.set_cons_succ])))
        (refine seq_step (by rfl) (fun K hK => ?_); go_simp; (go_at_call 40; (with_reducible refine (rsub_any _ _ A B _ (nx.below (HBL.out _ (by assumption))) (ny.below (HBL.out _ (by assumption))) (by omega) HGE.out).mono ?_); rintro e w' ⟨r1, rfl, hq1, hb'⟩; have hS := heldS HMK.out HBL.out hb' (by assumption)); (first | refine hK.out _ _ ?_ (fun hHeld => ?_) | (go_wp2_with fail; refine hK.out _ _ ?_ (fun hHeld => ?_))); (· first | assumption | exact HMK.out _ (Below.refl _ _).drew); clear hK K; (try simp only [Act.put, List.setIfInBounds_toArray, List.set_cons_zero, List.set_cons_succ]))
        (refine seq_step (by rfl) (fun K hK => ?_); go_simp; (go_at_call 20; (with_reducible refine (same_any _ _ (A - B) _ (nv.below (HBL.out _ (by assumption))) hq1 hs4).mono ?_); rintro e w' ⟨rfl, hb'⟩; have hS := heldS HMK.out HBL.out hb' (by assumption)); (first | refine hK.out _ _ ?_ (fun hHeld => ?_) | (go_wp2_with fail; refine hK.out _ _ ?_ (fun hHeld => ?_))); (· first | assumption | exact HMK.out _ (Below.refl _ _).drew); clear hK K; (try simp only [Act.put, List.setIfInBounds_toArray, List.set_cons_zero, List.set_cons_succ]))
        repeat (first | (refine seq_take (v := ?_) (by rfl) ?_ ?_; rotate_left; (· intro w hSw; (try dsimp only at hSw); go_simp; all_goals with_reducible rfl); (try simp only [Act.put, List.setIfInBounds_toArray, List.set_cons_zero, List.set_cons_succ])) | (refine seq_leave (by rfl) ?_; (try simp only [Act.put, List.setIfInBounds_toArray, List.set_cons_zero, List.set_cons_succ])))
        (refine seq_pass (by rfl) (by assumption) ?_; (try simp only [Act.put, List.setIfInBounds_toArray, List.set_cons_zero, List.set_cons_succ]))
        repeat (first | (refine seq_take (v := ?_) (by rfl) ?_ ?_; rotate_left; (· intro w hSw; (try dsimp only at hSw); go_simp; all_goals with_reducible rfl); (try simp only [Act.put, List.setIfInBounds_toArray, List.set_cons_zero, List.set_cons_succ])) | (refine seq_leave (by rfl) ?_; (try simp only [Act.put, List.setIfInBounds_toArray, List.set_cons_zero, List.set_cons_succ])))
        refine seq_end ?_
        have hb := hHeld.2
        clear HMK HBL hHeld
        replace hba := hba.kept hb
        replace na := na.below hb
        replace hbb := hbb.kept hb
        replace nb := nb.below hb
        replace hbv := hbv.kept hb
        replace nv := nv.below hb
        replace hbq := hbq.kept hb
        replace nq := nq.below hb
        replace hbr := hbr.kept hb
        replace nr := nr.below hb
        replace nx := nx.below hb
        replace ny := ny.below hb
        replace hbf := hbf.trans (hb.mono hbf.size)
        clear hb
        have eq := hbq.cell
        go_wp2_with fail
        refine (zero_is _ (A / B) _ nq (by rw [HZ.out, Nat.div_zero])).mono ?_
        rintro e w37 ⟨rfl, hb⟩
        clear eq
        replace hba := hba.kept hb
        replace na := na.below hb
        replace hbb := hbb.kept hb
        replace nb := nb.below hb
        replace hbv := hbv.kept hb
        replace nv := nv.below hb
        replace hbq := hbq.kept hb
        replace nq := nq.below hb
        replace hbr := hbr.kept hb
        replace nr := nr.below hb
        replace nx := nx.below hb
        replace ny := ny.below hb
        replace hbf := hbf.trans (hb.mono hbf.size)
        clear hb
        have er := hbr.cell
        go_wp2_with fail
        refine (zero_yes _ _ nr).mono ?_
        rintro e w38 ⟨rfl, hb⟩
        clear er
        replace hba := hba.kept hb
        replace na := na.below hb
        replace hbb := hbb.kept hb
        replace nb := nb.below hb
        replace hbv := hbv.kept hb
        replace nv := nv.below hb
        replace hbq := hbq.kept hb
        replace nq := nq.below hb
        replace hbr := hbr.kept hb
        replace nr := nr.below hb
        replace nx := nx.below hb
        replace ny := ny.below hb
        replace hbf := hbf.trans (hb.mono hbf.size)
        clear hb
        have ea := hba.cell
        go_wp2_with fail
        refine (small_any _ A _ na (by omega)).mono ?_
        rintro e w39 ⟨rfl, hb⟩
        clear ea
        replace hba := hba.kept hb
        replace na := na.below hb
        replace hbb := hbb.kept hb
        replace nb := nb.below hb
        replace hbv := hbv.kept hb
        replace nv := nv.below hb
        replace hbq := hbq.kept hb
        replace nq := nq.below hb
        replace hbr := hbr.kept hb
        replace nr := nr.below hb
        replace nx := nx.below hb
        replace ny := ny.below hb
        replace hbf := hbf.trans (hb.mono hbf.size)
        clear hb
        by_cases hA0 : A = 0
        case pos =>
          have h64 : A < 18446744073709551616 := by omega
          have hsv : smallV A = A := by unfold smallV; rw [if_pos h64]
          have hsb : smallB A = true := decide_eq_true h64
          have hn6 : (n : Int) ≤ 64 := by have := hn64.2 h64; omega
          rw [hsv, hsb]
          obtain rfl : xl = 0 := hxz.2 hA0
          have HA0 := Lib.hid hA0
          clear hsv hsb hA0 hxz hn64
          have H64 := Lib.hid h64; clear h64
          have ea := hba.cell
          go_wp2_with fail
          refine (bits_any _ A _ na (by omega)).mono ?_
          rintro e w40 ⟨rfl, hb⟩
          clear ea
          replace hba := hba.kept hb
          replace na := na.below hb
          replace hbb := hbb.kept hb
          replace nb := nb.below hb
          replace hbv := hbv.kept hb
          replace nv := nv.below hb
          replace hbq := hbq.kept hb
          replace nq := nq.below hb
          replace hbr := hbr.kept hb
          replace nr := nr.below hb
          replace nx := nx.below hb
          replace ny := ny.below hb
          replace hbf := hbf.trans (hb.mono hbf.size)
          clear hb
          rw [HN.out]
          go_wp2_with fail
          refine (rbits_any _ A _ nx (by omega) (by rw [HN.out]; omega)).mono ?_
          rintro e w41 ⟨rfl, hb⟩
          replace hba := hba.kept hb
          replace na := na.below hb
          replace hbb := hbb.kept hb
          replace nb := nb.below hb
          replace hbv := hbv.kept hb
          replace nv := nv.below hb
          replace hbq := hbq.kept hb
          replace nq := nq.below hb
          replace hbr := hbr.kept hb
          replace nr := nr.below hb
          replace nx := nx.below hb
          replace ny := ny.below hb
          replace hbf := hbf.trans (hb.mono hbf.size)
          clear hb
          rw [HN.out]
          have ea := hba.cell
          go_wp2_with fail
          refine (digits_any _ A _ na (by omega)).mono ?_
          rintro e w42 ⟨rfl, hb⟩
          clear ea
          replace hba := hba.kept hb
          replace na := na.below hb
          replace hbb := hbb.kept hb
          replace nb := nb.below hb
          replace hbv := hbv.kept hb
          replace nv := nv.below hb
          replace hbq := hbq.kept hb
          replace nq := nq.below hb
          replace hbr := hbr.kept hb
          replace nr := nr.below hb
          replace nx := nx.below hb
          replace ny := ny.below hb
          replace hbf := hbf.trans (hb.mono hbf.size)
          clear hb
          rw [HTL.out]
          go_wp2_with fail
          refine (rtext_any _ A _ nx (by omega)).mono ?_
          rintro e w43 ⟨rfl, hb⟩
          replace hba := hba.kept hb
          replace na := na.below hb
          replace hbb := hbb.kept hb
          replace nb := nb.below hb
          replace hbv := hbv.kept hb
          replace nv := nv.below hb
          replace hbq := hbq.kept hb
          replace nq := nq.below hb
          replace hbr := hbr.kept hb
          replace nr := nr.below hb
          replace nx := nx.below hb
          replace ny := ny.below hb
          replace hbf := hbf.trans (hb.mono hbf.size)
          clear hb
          rw [HT.out]
          have ea := hba.cell
          go_wp2_with fail
          refine (zero_is _ A _ na HA0.out).mono ?_
          rintro e w44 ⟨rfl, hb⟩
          clear ea
          replace hba := hba.kept hb
          replace na := na.below hb
          replace hbb := hbb.kept hb
          replace nb := nb.below hb
          replace hbv := hbv.kept hb
          replace nv := nv.below hb
          replace hbq := hbq.kept hb
          replace nq := nq.below hb
          replace hbr := hbr.kept hb
          replace nr := nr.below hb
          replace nx := nx.below hb
          replace ny := ny.below hb
          replace hbf := hbf.trans (hb.mono hbf.size)
          clear hb
          go_wp2_with fail
          refine (rbits_any _ A _ nx (by omega) (by rw [HN.out]; omega)).mono ?_
          rintro e w45 ⟨rfl, hb⟩
          replace hba := hba.kept hb
          replace na := na.below hb
          replace hbb := hbb.kept hb
          replace nb := nb.below hb
          replace hbv := hbv.kept hb
          replace nv := nv.below hb
          replace hbq := hbq.kept hb
          replace nq := nq.below hb
          replace hbr := hbr.kept hb
          replace nr := nr.below hb
          replace nx := nx.below hb
          replace ny := ny.below hb
          replace hbf := hbf.trans (hb.mono hbf.size)
          clear hb
          rw [HN.out]
          go_wp2_with fail
          refine (of_any A _ H64.out).mono ?_
          rintro e w46 ⟨r1, rfl, hq1, hb⟩
          replace hba := hba.kept hb
          replace na := na.below hb
          replace hbb := hbb.kept hb
          replace nb := nb.below hb
          replace hbv := hbv.kept hb
          replace nv := nv.below hb
          replace hbq := hbq.kept hb
          replace nq := nq.below hb
          replace hbr := hbr.kept hb
          replace nr := nr.below hb
          replace nx := nx.below hb
          replace ny := ny.below hb
          replace hbf := hbf.trans (hb.mono hbf.size)
          clear hb
          go_wp2_with fail
          refine (same_any _ _ A _ hq1 nx hs0).mono ?_
          rintro e w47 ⟨rfl, hb⟩
          replace hba := hba.kept hb
          replace na := na.below hb
          replace hbb := hbb.kept hb
          replace nb := nb.below hb
          replace hbv := hbv.kept hb
          replace nv := nv.below hb
          replace hbq := hbq.kept hb
          replace nq := nq.below hb
          replace hbr := hbr.kept hb
          replace nr := nr.below hb
          replace nx := nx.below hb
          replace ny := ny.below hb
          replace hbf := hbf.trans (hb.mono hbf.size)
          clear hb
          go_wp2
          go_ret
          exact ⟨rfl, hbf⟩
        case neg =>
          by_cases h64 : A < 18446744073709551616
          case pos =>
            have h64 : A < 18446744073709551616 := by omega
            have hsv : smallV A = A := by unfold smallV; rw [if_pos h64]
            have hsb : smallB A = true := decide_eq_true h64
            have hn6 : (n : Int) ≤ 64 := by have := hn64.2 h64; omega
            rw [hsv, hsb]
            have hxl : ((xl : Int) == 0) = false := by rw [beq_eq_false_iff_ne]; intro h; exact hA0 (hxz.1 (by omega))
            have HA0 : Hid (A ≠ 0) := Lib.hid hA0
            clear hsv hsb hA0 hxz hn64
            have H64 := Lib.hid h64; clear h64
            have ea := hba.cell
            go_wp2_with fail
            refine (bits_any _ A _ na (by omega)).mono ?_
            rintro e w40 ⟨rfl, hb⟩
            clear ea
            replace hba := hba.kept hb
            replace na := na.below hb
            replace hbb := hbb.kept hb
            replace nb := nb.below hb
            replace hbv := hbv.kept hb
            replace nv := nv.below hb
            replace hbq := hbq.kept hb
            replace nq := nq.below hb
            replace hbr := hbr.kept hb
            replace nr := nr.below hb
            replace nx := nx.below hb
            replace ny := ny.below hb
            replace hbf := hbf.trans (hb.mono hbf.size)
            clear hb
            rw [HN.out]
            go_wp2_with fail
            refine (rbits_any _ A _ nx (by omega) (by rw [HN.out]; omega)).mono ?_
            rintro e w41 ⟨rfl, hb⟩
            replace hba := hba.kept hb
            replace na := na.below hb
            replace hbb := hbb.kept hb
            replace nb := nb.below hb
            replace hbv := hbv.kept hb
            replace nv := nv.below hb
            replace hbq := hbq.kept hb
            replace nq := nq.below hb
            replace hbr := hbr.kept hb
            replace nr := nr.below hb
            replace nx := nx.below hb
            replace ny := ny.below hb
            replace hbf := hbf.trans (hb.mono hbf.size)
            clear hb
            rw [HN.out]
            have ea := hba.cell
            go_wp2_with fail
            refine (digits_any _ A _ na (by omega)).mono ?_
            rintro e w42 ⟨rfl, hb⟩
            clear ea
            replace hba := hba.kept hb
            replace na := na.below hb
            replace hbb := hbb.kept hb
            replace nb := nb.below hb
            replace hbv := hbv.kept hb
            replace nv := nv.below hb
            replace hbq := hbq.kept hb
            replace nq := nq.below hb
            replace hbr := hbr.kept hb
            replace nr := nr.below hb
            replace nx := nx.below hb
            replace ny := ny.below hb
            replace hbf := hbf.trans (hb.mono hbf.size)
            clear hb
            rw [HTL.out]
            go_wp2_with fail
            refine (rtext_any _ A _ nx (by omega)).mono ?_
            rintro e w43 ⟨rfl, hb⟩
            replace hba := hba.kept hb
            replace na := na.below hb
            replace hbb := hbb.kept hb
            replace nb := nb.below hb
            replace hbv := hbv.kept hb
            replace nv := nv.below hb
            replace hbq := hbq.kept hb
            replace nq := nq.below hb
            replace hbr := hbr.kept hb
            replace nr := nr.below hb
            replace nx := nx.below hb
            replace ny := ny.below hb
            replace hbf := hbf.trans (hb.mono hbf.size)
            clear hb
            rw [HT.out]
            have ea := hba.cell
            go_wp2_with fail
            refine (zero_no _ A _ na HA0.out).mono ?_
            rintro e w44 ⟨rfl, hb⟩
            clear ea
            replace hba := hba.kept hb
            replace na := na.below hb
            replace hbb := hbb.kept hb
            replace nb := nb.below hb
            replace hbv := hbv.kept hb
            replace nv := nv.below hb
            replace hbq := hbq.kept hb
            replace nq := nq.below hb
            replace hbr := hbr.kept hb
            replace nr := nr.below hb
            replace nx := nx.below hb
            replace ny := ny.below hb
            replace hbf := hbf.trans (hb.mono hbf.size)
            clear hb
            go_wp2_with fail
            refine (rbits_any _ A _ nx (by omega) (by rw [HN.out]; omega)).mono ?_
            rintro e w45 ⟨rfl, hb⟩
            replace hba := hba.kept hb
            replace na := na.below hb
            replace hbb := hbb.kept hb
            replace nb := nb.below hb
            replace hbv := hbv.kept hb
            replace nv := nv.below hb
            replace hbq := hbq.kept hb
            replace nq := nq.below hb
            replace hbr := hbr.kept hb
            replace nr := nr.below hb
            replace nx := nx.below hb
            replace ny := ny.below hb
            replace hbf := hbf.trans (hb.mono hbf.size)
            clear hb
            rw [HN.out]
            go_wp2_with fail
            refine (of_any A _ H64.out).mono ?_
            rintro e w46 ⟨r1, rfl, hq1, hb⟩
            replace hba := hba.kept hb
            replace na := na.below hb
            replace hbb := hbb.kept hb
            replace nb := nb.below hb
            replace hbv := hbv.kept hb
            replace nv := nv.below hb
            replace hbq := hbq.kept hb
            replace nq := nq.below hb
            replace hbr := hbr.kept hb
            replace nr := nr.below hb
            replace nx := nx.below hb
            replace ny := ny.below hb
            replace hbf := hbf.trans (hb.mono hbf.size)
            clear hb
            go_wp2_with fail
            refine (same_any _ _ A _ hq1 nx hs0).mono ?_
            rintro e w47 ⟨rfl, hb⟩
            replace hba := hba.kept hb
            replace na := na.below hb
            replace hbb := hbb.kept hb
            replace nb := nb.below hb
            replace hbv := hbv.kept hb
            replace nv := nv.below hb
            replace hbq := hbq.kept hb
            replace nq := nq.below hb
            replace hbr := hbr.kept hb
            replace nr := nr.below hb
            replace nx := nx.below hb
            replace ny := ny.below hb
            replace hbf := hbf.trans (hb.mono hbf.size)
            clear hb
            go_wp2
            go_ret
            exact ⟨rfl, hbf⟩
          case neg =>
            have hsv : smallV A = 0 := by unfold smallV; rw [if_neg h64]
            have hsb : smallB A = false := decide_eq_false h64
            have hn6 : ¬ (n : Int) ≤ 64 := fun h => h64 (hn64.1 (by omega))
            rw [hsv, hsb]
            have hxl : ((xl : Int) == 0) = false := by rw [beq_eq_false_iff_ne]; intro h; exact hA0 (hxz.1 (by omega))
            have HA0 : Hid (A ≠ 0) := Lib.hid hA0
            clear hsv hsb hA0 hxz hn64
            have ea := hba.cell
            go_wp2_with fail
            refine (bits_any _ A _ na (by omega)).mono ?_
            rintro e w40 ⟨rfl, hb⟩
            clear ea
            replace hba := hba.kept hb
            replace na := na.below hb
            replace hbb := hbb.kept hb
            replace nb := nb.below hb
            replace hbv := hbv.kept hb
            replace nv := nv.below hb
            replace hbq := hbq.kept hb
            replace nq := nq.below hb
            replace hbr := hbr.kept hb
            replace nr := nr.below hb
            replace nx := nx.below hb
            replace ny := ny.below hb
            replace hbf := hbf.trans (hb.mono hbf.size)
            clear hb
            rw [HN.out]
            go_wp2_with fail
            refine (rbits_any _ A _ nx (by omega) (by rw [HN.out]; omega)).mono ?_
            rintro e w41 ⟨rfl, hb⟩
            replace hba := hba.kept hb
            replace na := na.below hb
            replace hbb := hbb.kept hb
            replace nb := nb.below hb
            replace hbv := hbv.kept hb
            replace nv := nv.below hb
            replace hbq := hbq.kept hb
            replace nq := nq.below hb
            replace hbr := hbr.kept hb
            replace nr := nr.below hb
            replace nx := nx.below hb
            replace ny := ny.below hb
            replace hbf := hbf.trans (hb.mono hbf.size)
            clear hb
            rw [HN.out]
            have ea := hba.cell
            go_wp2_with fail
            refine (digits_any _ A _ na (by omega)).mono ?_
            rintro e w42 ⟨rfl, hb⟩
            clear ea
            replace hba := hba.kept hb
            replace na := na.below hb
            replace hbb := hbb.kept hb
            replace nb := nb.below hb
            replace hbv := hbv.kept hb
            replace nv := nv.below hb
            replace hbq := hbq.kept hb
            replace nq := nq.below hb
            replace hbr := hbr.kept hb
            replace nr := nr.below hb
            replace nx := nx.below hb
            replace ny := ny.below hb
            replace hbf := hbf.trans (hb.mono hbf.size)
            clear hb
            rw [HTL.out]
            go_wp2_with fail
            refine (rtext_any _ A _ nx (by omega)).mono ?_
            rintro e w43 ⟨rfl, hb⟩
            replace hba := hba.kept hb
            replace na := na.below hb
            replace hbb := hbb.kept hb
            replace nb := nb.below hb
            replace hbv := hbv.kept hb
            replace nv := nv.below hb
            replace hbq := hbq.kept hb
            replace nq := nq.below hb
            replace hbr := hbr.kept hb
            replace nr := nr.below hb
            replace nx := nx.below hb
            replace ny := ny.below hb
            replace hbf := hbf.trans (hb.mono hbf.size)
            clear hb
            rw [HT.out]
            have ea := hba.cell
            go_wp2_with fail
            refine (zero_no _ A _ na HA0.out).mono ?_
            rintro e w44 ⟨rfl, hb⟩
            clear ea
            replace hba := hba.kept hb
            replace na := na.below hb
            replace hbb := hbb.kept hb
            replace nb := nb.below hb
            replace hbv := hbv.kept hb
            replace nv := nv.below hb
            replace hbq := hbq.kept hb
            replace nq := nq.below hb
            replace hbr := hbr.kept hb
            replace nr := nr.below hb
            replace nx := nx.below hb
            replace ny := ny.below hb
            replace hbf := hbf.trans (hb.mono hbf.size)
            clear hb
            go_wp2_with fail
            refine (rbits_any _ A _ nx (by omega) (by rw [HN.out]; omega)).mono ?_
            rintro e w45 ⟨rfl, hb⟩
            replace hba := hba.kept hb
            replace na := na.below hb
            replace hbb := hbb.kept hb
            replace nb := nb.below hb
            replace hbv := hbv.kept hb
            replace nv := nv.below hb
            replace hbq := hbq.kept hb
            replace nq := nq.below hb
            replace hbr := hbr.kept hb
            replace nr := nr.below hb
            replace nx := nx.below hb
            replace ny := ny.below hb
            replace hbf := hbf.trans (hb.mono hbf.size)
            clear hb
            rw [HN.out]
            have HN6 : Hid (decide ((n : Int) ≤ 64) = false) := Lib.hid (decide_eq_false (by omega))
            go_wp2
            go_ret
            exact ⟨ret_one (congrArg Value.bool (by rw [HN6.out]; rfl)), hbf⟩

      case neg =>
        have HLE : Hid (decide (B ≤ A) = true) := Lib.hid (decide_eq_true hge)
        have hci0 := hge1 hge
        have HGE := Lib.hid hge
        clear hge hge1 hge2
        have HZ : Hid (¬ B = 0) := Lib.hid hz
        have HD : Hid (decide (B ≠ 0) = true) := Lib.hid (by simp [hz])
        have hyl : 0 < yl := Nat.pos_of_ne_zero (fun h => hz (hyz.1 h))
        clear hz hyz
        have ea := hba.cell
        have eb := hbb.cell
        go_wp2_with fail
        refine (sub_any _ _ A B _ na nb (by omega)).mono ?_
        rintro e w21 ⟨rv, rfl, hn, hb⟩
        clear ea eb
        replace hba := hba.kept hb
        replace na := na.below hb
        replace hbb := hbb.kept hb
        replace nb := nb.below hb
        replace nx := nx.below hb
        replace ny := ny.below hb
        replace hbf := hbf.trans (hb.mono hbf.size)
        clear hb
        rw [HLE.out]
        obtain ⟨sv, rfl, ⟨vo, vl, vc, rfl⟩, hbv, hb, nv⟩ := box_nat hn
        obtain ⟨w22, hwE⟩ : ∃ w3, w3 = w21.alloc (.cells #[Value.slice vo vl vc] 25) := ⟨_, rfl⟩
        rw [← hwE] at hbv hb nv
        obtain ⟨pv, hpE⟩ : ∃ p, p = w21.heap.size := ⟨_, rfl⟩
        have HW := Lib.hid hwE; clear hwE hn
        go_upto_region 8 with fail
        rw [← HW.out]
        rw [← hpE] at hbv ⊢
        clear hpE HW
        replace hba := hba.kept hb
        replace na := na.below hb
        replace hbb := hbb.kept hb
        replace nb := nb.below hb
        replace nx := nx.below hb
        replace ny := ny.below hb
        replace hbf := hbf.trans (hb.mono hbf.size)
        clear hb
        have ea := hba.cell
        have eb := hbb.cell
        go_wp2_with fail
        refine (divmod_any _ _ A B _ na nb (by omega) (by omega)).mono ?_
        rintro e w23 ⟨q, s, rfl, hq, hs, hb⟩
        clear ea eb
        replace hba := hba.kept hb
        replace na := na.below hb
        replace hbb := hbb.kept hb
        replace nb := nb.below hb
        replace hbv := hbv.kept hb
        replace nv := nv.below hb
        replace nx := nx.below hb
        replace ny := ny.below hb
        replace hbf := hbf.trans (hb.mono hbf.size)
        clear hb
        rw [HD.out]
        rw [if_neg HZ.out] at hs
        obtain ⟨sv, tv, rfl, rfl, ⟨qo, ql, qc, rfl⟩, ⟨ro, rl, rc, rfl⟩, hbq, hbr, hb, nq, nr⟩ := box_nat2 hq hs
        obtain ⟨w24, hwE⟩ : ∃ w3, w3 = (w23.alloc (.cells #[Value.slice qo ql qc] 25)).alloc (.cells #[Value.slice ro rl rc] 25) := ⟨_, rfl⟩
        rw [← hwE] at hbq hbr hb nq nr
        obtain ⟨pq, hpE⟩ : ∃ p, p = w23.heap.size := ⟨_, rfl⟩
        obtain ⟨pr, hqE⟩ : ∃ p, p = w23.heap.size + 1 := ⟨_, rfl⟩
        have HW := Lib.hid hwE; clear hwE hq hs
        go_upto_region 9 with fail
        rw [← HW.out]
        rw [← hqE] at hbr ⊢
        rw [← hpE] at hbq ⊢
        clear hpE hqE HW
        replace hba := hba.kept hb
        replace na := na.below hb
        replace hbb := hbb.kept hb
        replace nb := nb.below hb
        replace hbv := hbv.kept hb
        replace nv := nv.below hb
        replace nx := nx.below hb
        replace ny := ny.below hb
        replace hbf := hbf.trans (hb.mono hbf.size)
        clear hb
        have ea := hba.cell
        have eb := hbb.cell
        go_wp2_with fail
        refine (cmp_any _ _ A B _ na nb).mono ?_
        rintro e w25 ⟨rfl, hb⟩
        clear ea eb
        replace hba := hba.kept hb
        replace na := na.below hb
        replace hbb := hbb.kept hb
        replace nb := nb.below hb
        replace hbv := hbv.kept hb
        replace nv := nv.below hb
        replace hbq := hbq.kept hb
        replace nq := nq.below hb
        replace hbr := hbr.kept hb
        replace nr := nr.below hb
        replace nx := nx.below hb
        replace ny := ny.below hb
        replace hbf := hbf.trans (hb.mono hbf.size)
        clear hb
        rw [HCI.out]
        go_wp2_with fail
        refine (rcmp_any _ _ A B _ nx ny).mono ?_
        rintro e w26 ⟨rfl, hb⟩
        replace hba := hba.kept hb
        replace na := na.below hb
        replace hbb := hbb.kept hb
        replace nb := nb.below hb
        replace hbv := hbv.kept hb
        replace nv := nv.below hb
        replace hbq := hbq.kept hb
        replace nq := nq.below hb
        replace hbr := hbr.kept hb
        replace nr := nr.below hb
        replace nx := nx.below hb
        replace ny := ny.below hb
        replace hbf := hbf.trans (hb.mono hbf.size)
        clear hb
        rw [HCI.out]
        have ea := hba.cell
        have eb := hbb.cell
        go_wp2_with fail
        refine (add_any _ _ A B _ na nb (by omega) (by omega)).mono ?_
        rintro e w27 ⟨r1, rfl, hq1, hb⟩
        clear ea eb
        replace hba := hba.kept hb
        replace na := na.below hb
        replace hbb := hbb.kept hb
        replace nb := nb.below hb
        replace hbv := hbv.kept hb
        replace nv := nv.below hb
        replace hbq := hbq.kept hb
        replace nq := nq.below hb
        replace hbr := hbr.kept hb
        replace nr := nr.below hb
        replace nx := nx.below hb
        replace ny := ny.below hb
        replace hbf := hbf.trans (hb.mono hbf.size)
        clear hb
        go_wp2_with fail
        refine (radd_any _ _ A B _ nx ny (by omega) (by omega)).mono ?_
        rintro e w28 ⟨r2, rfl, hq2, hb⟩
        replace hba := hba.kept hb
        replace na := na.below hb
        replace hbb := hbb.kept hb
        replace nb := nb.below hb
        replace hbv := hbv.kept hb
        replace nv := nv.below hb
        replace hbq := hbq.kept hb
        replace nq := nq.below hb
        replace hbr := hbr.kept hb
        replace nr := nr.below hb
        replace nx := nx.below hb
        replace ny := ny.below hb
        replace hq1 := hq1.below hb
        replace hbf := hbf.trans (hb.mono hbf.size)
        clear hb
        go_wp2_with fail
        refine (same_any _ _ (A + B) _ hq1 hq2 hs1).mono ?_
        rintro e w29 ⟨rfl, hb⟩
        replace hba := hba.kept hb
        replace na := na.below hb
        replace hbb := hbb.kept hb
        replace nb := nb.below hb
        replace hbv := hbv.kept hb
        replace nv := nv.below hb
        replace hbq := hbq.kept hb
        replace nq := nq.below hb
        replace hbr := hbr.kept hb
        replace nr := nr.below hb
        replace nx := nx.below hb
        replace ny := ny.below hb
        replace hq1 := hq1.below hb
        replace hbf := hbf.trans (hb.mono hbf.size)
        clear hb
        clear hq1 hq2
        have ea := hba.cell
        have eb := hbb.cell
        go_wp2_with fail
        refine (mul_any _ _ A B _ na nb (by omega) (by omega)).mono ?_
        rintro e w30 ⟨r1, rfl, hq1, hb⟩
        clear ea eb
        replace hba := hba.kept hb
        replace na := na.below hb
        replace hbb := hbb.kept hb
        replace nb := nb.below hb
        replace hbv := hbv.kept hb
        replace nv := nv.below hb
        replace hbq := hbq.kept hb
        replace nq := nq.below hb
        replace hbr := hbr.kept hb
        replace nr := nr.below hb
        replace nx := nx.below hb
        replace ny := ny.below hb
        replace hbf := hbf.trans (hb.mono hbf.size)
        clear hb
        go_wp2_with fail
        refine (rmul_any _ _ A B _ nx ny (by omega) (by omega)).mono ?_
        rintro e w31 ⟨r2, rfl, hq2, hb⟩
        replace hba := hba.kept hb
        replace na := na.below hb
        replace hbb := hbb.kept hb
        replace nb := nb.below hb
        replace hbv := hbv.kept hb
        replace nv := nv.below hb
        replace hbq := hbq.kept hb
        replace nq := nq.below hb
        replace hbr := hbr.kept hb
        replace nr := nr.below hb
        replace nx := nx.below hb
        replace ny := ny.below hb
        replace hq1 := hq1.below hb
        replace hbf := hbf.trans (hb.mono hbf.size)
        clear hb
        go_wp2_with fail
        refine (same_any _ _ (A * B) _ hq1 hq2 hs2).mono ?_
        rintro e w32 ⟨rfl, hb⟩
        replace hba := hba.kept hb
        replace na := na.below hb
        replace hbb := hbb.kept hb
        replace nb := nb.below hb
        replace hbv := hbv.kept hb
        replace nv := nv.below hb
        replace hbq := hbq.kept hb
        replace nq := nq.below hb
        replace hbr := hbr.kept hb
        replace nr := nr.below hb
        replace nx := nx.below hb
        replace ny := ny.below hb
        replace hq1 := hq1.below hb
        replace hbf := hbf.trans (hb.mono hbf.size)
        clear hb
        clear hq1 hq2
        have ea := hba.cell
        have eb := hbb.cell
        go_wp2_with fail
        refine (gcd_any _ _ A B _ na nb (by omega) (by omega)).mono ?_
        rintro e w33 ⟨r1, rfl, hq1, hb⟩
        clear ea eb
        replace hba := hba.kept hb
        replace na := na.below hb
        replace hbb := hbb.kept hb
        replace nb := nb.below hb
        replace hbv := hbv.kept hb
        replace nv := nv.below hb
        replace hbq := hbq.kept hb
        replace nq := nq.below hb
        replace hbr := hbr.kept hb
        replace nr := nr.below hb
        replace nx := nx.below hb
        replace ny := ny.below hb
        replace hbf := hbf.trans (hb.mono hbf.size)
        clear hb
        go_wp2_with fail
        refine (rgcd_any _ _ A B _ nx ny (by omega) (by omega)).mono ?_
        rintro e w34 ⟨r2, rfl, hq2, hb⟩
        replace hba := hba.kept hb
        replace na := na.below hb
        replace hbb := hbb.kept hb
        replace nb := nb.below hb
        replace hbv := hbv.kept hb
        replace nv := nv.below hb
        replace hbq := hbq.kept hb
        replace nq := nq.below hb
        replace hbr := hbr.kept hb
        replace nr := nr.below hb
        replace nx := nx.below hb
        replace ny := ny.below hb
        replace hq1 := hq1.below hb
        replace hbf := hbf.trans (hb.mono hbf.size)
        clear hb
        go_wp2_with fail
        refine (same_any _ _ (Nat.gcd A B) _ hq1 hq2 hs3).mono ?_
        rintro e w35 ⟨rfl, hb⟩
        replace hba := hba.kept hb
        replace na := na.below hb
        replace hbb := hbb.kept hb
        replace nb := nb.below hb
        replace hbv := hbv.kept hb
        replace nv := nv.below hb
        replace hbq := hbq.kept hb
        replace nq := nq.below hb
        replace hbr := hbr.kept hb
        replace nr := nr.below hb
        replace nx := nx.below hb
        replace ny := ny.below hb
        replace hq1 := hq1.below hb
        replace hbf := hbf.trans (hb.mono hbf.size)
        clear hb
        clear hq1 hq2
        go_wp2_with fail
        refine (rcmp_any _ _ A B _ nx ny).mono ?_
        rintro e w36 ⟨rfl, hb⟩
        replace hba := hba.kept hb
        replace na := na.below hb
        replace hbb := hbb.kept hb
        replace nb := nb.below hb
        replace hbv := hbv.kept hb
        replace nv := nv.below hb
        replace hbq := hbq.kept hb
        replace nq := nq.below hb
        replace hbr := hbr.kept hb
        replace nr := nr.below hb
        replace nx := nx.below hb
        replace ny := ny.below hb
        replace hbf := hbf.trans (hb.mono hbf.size)
        clear hb
        rw [HCI.out]
        go_upto_region 11 with fail
        have ev := hbv.cell
        have HMK : Hid (∀ w', Below w36.heap.size w36 w' → w'.cell? ⟨pv, 0, none⟩ = some (Value.slice vo vl vc) ∧ Below w36.heap.size w36 w') := Lib.hid (fun w' hb => ⟨(hb.cell (p := ⟨pv, 0, none⟩) (World.block_lt_of_cell? w36 ⟨pv, 0, none⟩ ev)).trans ev, hb⟩)
        have HBL : Hid (∀ w', (w'.cell? ⟨pv, 0, none⟩ = some (Value.slice vo vl vc) ∧ Below w36.heap.size w36 w') → Below w36.heap.size w36 w') := Lib.hid (fun w' h => h.2)
        clear ev
        go_wp2_with fail
        refine wp_region_seq (S := fun w' => w'.cell? ⟨pv, 0, none⟩ = some (Value.slice vo vl vc) ∧ Below w36.heap.size w36 w') [(true, 0), (true, 1), (true, 2), (true, 3), (true, 4), (false, 5), (false, 6), (true, 7), (true, 8), (true, 9), (true, 10), (true, 11), (true, 12), (true, 13), (false, 14), (true, 15), (true, 16), (true, 17)] (by kernel_rfl) (by kernel_rfl) (by kernel_rfl) (by kernel_rfl) (by kernel_rfl) (fun d _ _ _ _ h => by cases d <;> exact h) ?_ (fun hHeld => ?_)
        · first | assumption | exact HMK.out _ (Below.refl _ _).drew
        simp only [pickOps, List.append_eq, List.cons_append, List.nil_append, List.getElem?_toArray, List.getElem?_cons_succ, List.getElem?_cons_zero]
        repeat (first | (refine seq_take (v := ?_) (by rfl) ?_ ?_; rotate_left; (· intro w hSw; (try dsimp only at hSw); go_simp; all_goals with_reducible rfl); (try simp only [Act.put, List.setIfInBounds_toArray, List.set_cons_zero, List.set_cons_succ])) | (refine seq_leave (by rfl) ?_; (try simp only [Act.put, List.setIfInBounds_toArray, List.set_cons_zero, List.set_cons_succ])))
        (refine seq_step (by rfl) (fun K hK => ?_); go_simp; (go_at_call 40; (with_reducible refine (rsub_any _ _ A B _ (nx.below (HBL.out _ (by assumption))) (ny.below (HBL.out _ (by assumption))) (by omega) HGE.out).mono ?_); rintro e w' ⟨r1, rfl, hq1, hb'⟩; have hS := heldS HMK.out HBL.out hb' (by assumption)); (first | refine hK.out _ _ ?_ (fun hHeld => ?_) | (go_wp2_with fail; refine hK.out _ _ ?_ (fun hHeld => ?_))); (· first | assumption | exact HMK.out _ (Below.refl _ _).drew); clear hK K; (try simp only [Act.put, List.setIfInBounds_toArray, List.set_cons_zero, List.set_cons_succ]))
        (refine seq_step (by rfl) (fun K hK => ?_); go_simp; (go_at_call 20; (with_reducible refine (same_any _ _ (A - B) _ (nv.below (HBL.out _ (by assumption))) hq1 hs4).mono ?_); rintro e w' ⟨rfl, hb'⟩; have hS := heldS HMK.out HBL.out hb' (by assumption)); (first | refine hK.out _ _ ?_ (fun hHeld => ?_) | (go_wp2_with fail; refine hK.out _ _ ?_ (fun hHeld => ?_))); (· first | assumption | exact HMK.out _ (Below.refl _ _).drew); clear hK K; (try simp only [Act.put, List.setIfInBounds_toArray, List.set_cons_zero, List.set_cons_succ]))
        repeat (first | (refine seq_take (v := ?_) (by rfl) ?_ ?_; rotate_left; (· intro w hSw; (try dsimp only at hSw); go_simp; all_goals with_reducible rfl); (try simp only [Act.put, List.setIfInBounds_toArray, List.set_cons_zero, List.set_cons_succ])) | (refine seq_leave (by rfl) ?_; (try simp only [Act.put, List.setIfInBounds_toArray, List.set_cons_zero, List.set_cons_succ])))
        (refine seq_pass (by rfl) (by assumption) ?_; (try simp only [Act.put, List.setIfInBounds_toArray, List.set_cons_zero, List.set_cons_succ]))
        repeat (first | (refine seq_take (v := ?_) (by rfl) ?_ ?_; rotate_left; (· intro w hSw; (try dsimp only at hSw); go_simp; all_goals with_reducible rfl); (try simp only [Act.put, List.setIfInBounds_toArray, List.set_cons_zero, List.set_cons_succ])) | (refine seq_leave (by rfl) ?_; (try simp only [Act.put, List.setIfInBounds_toArray, List.set_cons_zero, List.set_cons_succ])))
        refine seq_end ?_
        have hb := hHeld.2
        clear HMK HBL hHeld
        replace hba := hba.kept hb
        replace na := na.below hb
        replace hbb := hbb.kept hb
        replace nb := nb.below hb
        replace hbv := hbv.kept hb
        replace nv := nv.below hb
        replace hbq := hbq.kept hb
        replace nq := nq.below hb
        replace hbr := hbr.kept hb
        replace nr := nr.below hb
        replace nx := nx.below hb
        replace ny := ny.below hb
        replace hbf := hbf.trans (hb.mono hbf.size)
        clear hb
        go_wp2_with fail
        refine (rdivmod_any _ _ A B _ nx ny (by omega) (by omega) (by have := HZ.out; omega)).mono ?_
        rintro e w37 ⟨u1, u2, rfl, hq1, hq2, hb⟩
        replace hba := hba.kept hb
        replace na := na.below hb
        replace hbb := hbb.kept hb
        replace nb := nb.below hb
        replace hbv := hbv.kept hb
        replace nv := nv.below hb
        replace hbq := hbq.kept hb
        replace nq := nq.below hb
        replace hbr := hbr.kept hb
        replace nr := nr.below hb
        replace nx := nx.below hb
        replace ny := ny.below hb
        replace hbf := hbf.trans (hb.mono hbf.size)
        clear hb
        have eq := hbq.cell
        go_wp2_with fail
        refine (same_any _ _ (A / B) _ nq hq1 hs5).mono ?_
        rintro e w38 ⟨rfl, hb⟩
        clear eq
        replace hba := hba.kept hb
        replace na := na.below hb
        replace hbb := hbb.kept hb
        replace nb := nb.below hb
        replace hbv := hbv.kept hb
        replace nv := nv.below hb
        replace hbq := hbq.kept hb
        replace nq := nq.below hb
        replace hbr := hbr.kept hb
        replace nr := nr.below hb
        replace nx := nx.below hb
        replace ny := ny.below hb
        replace hq1 := hq1.below hb
        replace hq2 := hq2.below hb
        replace hbf := hbf.trans (hb.mono hbf.size)
        clear hb
        have er := hbr.cell
        go_wp2_with fail
        refine (same_any _ _ (A % B) _ nr hq2 hs6).mono ?_
        rintro e w39 ⟨rfl, hb⟩
        clear er
        replace hba := hba.kept hb
        replace na := na.below hb
        replace hbb := hbb.kept hb
        replace nb := nb.below hb
        replace hbv := hbv.kept hb
        replace nv := nv.below hb
        replace hbq := hbq.kept hb
        replace nq := nq.below hb
        replace hbr := hbr.kept hb
        replace nr := nr.below hb
        replace nx := nx.below hb
        replace ny := ny.below hb
        replace hq1 := hq1.below hb
        replace hq2 := hq2.below hb
        replace hbf := hbf.trans (hb.mono hbf.size)
        clear hb
        have ea := hba.cell
        go_wp2_with fail
        refine (small_any _ A _ na (by omega)).mono ?_
        rintro e w40 ⟨rfl, hb⟩
        clear ea
        replace hba := hba.kept hb
        replace na := na.below hb
        replace hbb := hbb.kept hb
        replace nb := nb.below hb
        replace hbv := hbv.kept hb
        replace nv := nv.below hb
        replace hbq := hbq.kept hb
        replace nq := nq.below hb
        replace hbr := hbr.kept hb
        replace nr := nr.below hb
        replace nx := nx.below hb
        replace ny := ny.below hb
        replace hbf := hbf.trans (hb.mono hbf.size)
        clear hb
        by_cases hA0 : A = 0
        case pos =>
          have h64 : A < 18446744073709551616 := by omega
          have hsv : smallV A = A := by unfold smallV; rw [if_pos h64]
          have hsb : smallB A = true := decide_eq_true h64
          have hn6 : (n : Int) ≤ 64 := by have := hn64.2 h64; omega
          rw [hsv, hsb]
          obtain rfl : xl = 0 := hxz.2 hA0
          have HA0 := Lib.hid hA0
          clear hsv hsb hA0 hxz hn64
          have H64 := Lib.hid h64; clear h64
          have ea := hba.cell
          go_wp2_with fail
          refine (bits_any _ A _ na (by omega)).mono ?_
          rintro e w41 ⟨rfl, hb⟩
          clear ea
          replace hba := hba.kept hb
          replace na := na.below hb
          replace hbb := hbb.kept hb
          replace nb := nb.below hb
          replace hbv := hbv.kept hb
          replace nv := nv.below hb
          replace hbq := hbq.kept hb
          replace nq := nq.below hb
          replace hbr := hbr.kept hb
          replace nr := nr.below hb
          replace nx := nx.below hb
          replace ny := ny.below hb
          replace hbf := hbf.trans (hb.mono hbf.size)
          clear hb
          rw [HN.out]
          go_wp2_with fail
          refine (rbits_any _ A _ nx (by omega) (by rw [HN.out]; omega)).mono ?_
          rintro e w42 ⟨rfl, hb⟩
          replace hba := hba.kept hb
          replace na := na.below hb
          replace hbb := hbb.kept hb
          replace nb := nb.below hb
          replace hbv := hbv.kept hb
          replace nv := nv.below hb
          replace hbq := hbq.kept hb
          replace nq := nq.below hb
          replace hbr := hbr.kept hb
          replace nr := nr.below hb
          replace nx := nx.below hb
          replace ny := ny.below hb
          replace hbf := hbf.trans (hb.mono hbf.size)
          clear hb
          rw [HN.out]
          have ea := hba.cell
          go_wp2_with fail
          refine (digits_any _ A _ na (by omega)).mono ?_
          rintro e w43 ⟨rfl, hb⟩
          clear ea
          replace hba := hba.kept hb
          replace na := na.below hb
          replace hbb := hbb.kept hb
          replace nb := nb.below hb
          replace hbv := hbv.kept hb
          replace nv := nv.below hb
          replace hbq := hbq.kept hb
          replace nq := nq.below hb
          replace hbr := hbr.kept hb
          replace nr := nr.below hb
          replace nx := nx.below hb
          replace ny := ny.below hb
          replace hbf := hbf.trans (hb.mono hbf.size)
          clear hb
          rw [HTL.out]
          go_wp2_with fail
          refine (rtext_any _ A _ nx (by omega)).mono ?_
          rintro e w44 ⟨rfl, hb⟩
          replace hba := hba.kept hb
          replace na := na.below hb
          replace hbb := hbb.kept hb
          replace nb := nb.below hb
          replace hbv := hbv.kept hb
          replace nv := nv.below hb
          replace hbq := hbq.kept hb
          replace nq := nq.below hb
          replace hbr := hbr.kept hb
          replace nr := nr.below hb
          replace nx := nx.below hb
          replace ny := ny.below hb
          replace hbf := hbf.trans (hb.mono hbf.size)
          clear hb
          rw [HT.out]
          have ea := hba.cell
          go_wp2_with fail
          refine (zero_is _ A _ na HA0.out).mono ?_
          rintro e w45 ⟨rfl, hb⟩
          clear ea
          replace hba := hba.kept hb
          replace na := na.below hb
          replace hbb := hbb.kept hb
          replace nb := nb.below hb
          replace hbv := hbv.kept hb
          replace nv := nv.below hb
          replace hbq := hbq.kept hb
          replace nq := nq.below hb
          replace hbr := hbr.kept hb
          replace nr := nr.below hb
          replace nx := nx.below hb
          replace ny := ny.below hb
          replace hbf := hbf.trans (hb.mono hbf.size)
          clear hb
          go_wp2_with fail
          refine (rbits_any _ A _ nx (by omega) (by rw [HN.out]; omega)).mono ?_
          rintro e w46 ⟨rfl, hb⟩
          replace hba := hba.kept hb
          replace na := na.below hb
          replace hbb := hbb.kept hb
          replace nb := nb.below hb
          replace hbv := hbv.kept hb
          replace nv := nv.below hb
          replace hbq := hbq.kept hb
          replace nq := nq.below hb
          replace hbr := hbr.kept hb
          replace nr := nr.below hb
          replace nx := nx.below hb
          replace ny := ny.below hb
          replace hbf := hbf.trans (hb.mono hbf.size)
          clear hb
          rw [HN.out]
          go_wp2_with fail
          refine (of_any A _ H64.out).mono ?_
          rintro e w47 ⟨r1, rfl, hq1, hb⟩
          replace hba := hba.kept hb
          replace na := na.below hb
          replace hbb := hbb.kept hb
          replace nb := nb.below hb
          replace hbv := hbv.kept hb
          replace nv := nv.below hb
          replace hbq := hbq.kept hb
          replace nq := nq.below hb
          replace hbr := hbr.kept hb
          replace nr := nr.below hb
          replace nx := nx.below hb
          replace ny := ny.below hb
          replace hbf := hbf.trans (hb.mono hbf.size)
          clear hb
          go_wp2_with fail
          refine (same_any _ _ A _ hq1 nx hs0).mono ?_
          rintro e w48 ⟨rfl, hb⟩
          replace hba := hba.kept hb
          replace na := na.below hb
          replace hbb := hbb.kept hb
          replace nb := nb.below hb
          replace hbv := hbv.kept hb
          replace nv := nv.below hb
          replace hbq := hbq.kept hb
          replace nq := nq.below hb
          replace hbr := hbr.kept hb
          replace nr := nr.below hb
          replace nx := nx.below hb
          replace ny := ny.below hb
          replace hbf := hbf.trans (hb.mono hbf.size)
          clear hb
          go_wp2
          go_ret
          exact ⟨rfl, hbf⟩
        case neg =>
          by_cases h64 : A < 18446744073709551616
          case pos =>
            have h64 : A < 18446744073709551616 := by omega
            have hsv : smallV A = A := by unfold smallV; rw [if_pos h64]
            have hsb : smallB A = true := decide_eq_true h64
            have hn6 : (n : Int) ≤ 64 := by have := hn64.2 h64; omega
            rw [hsv, hsb]
            have hxl : ((xl : Int) == 0) = false := by rw [beq_eq_false_iff_ne]; intro h; exact hA0 (hxz.1 (by omega))
            have HA0 : Hid (A ≠ 0) := Lib.hid hA0
            clear hsv hsb hA0 hxz hn64
            have H64 := Lib.hid h64; clear h64
            have ea := hba.cell
            go_wp2_with fail
            refine (bits_any _ A _ na (by omega)).mono ?_
            rintro e w41 ⟨rfl, hb⟩
            clear ea
            replace hba := hba.kept hb
            replace na := na.below hb
            replace hbb := hbb.kept hb
            replace nb := nb.below hb
            replace hbv := hbv.kept hb
            replace nv := nv.below hb
            replace hbq := hbq.kept hb
            replace nq := nq.below hb
            replace hbr := hbr.kept hb
            replace nr := nr.below hb
            replace nx := nx.below hb
            replace ny := ny.below hb
            replace hbf := hbf.trans (hb.mono hbf.size)
            clear hb
            rw [HN.out]
            go_wp2_with fail
            refine (rbits_any _ A _ nx (by omega) (by rw [HN.out]; omega)).mono ?_
            rintro e w42 ⟨rfl, hb⟩
            replace hba := hba.kept hb
            replace na := na.below hb
            replace hbb := hbb.kept hb
            replace nb := nb.below hb
            replace hbv := hbv.kept hb
            replace nv := nv.below hb
            replace hbq := hbq.kept hb
            replace nq := nq.below hb
            replace hbr := hbr.kept hb
            replace nr := nr.below hb
            replace nx := nx.below hb
            replace ny := ny.below hb
            replace hbf := hbf.trans (hb.mono hbf.size)
            clear hb
            rw [HN.out]
            have ea := hba.cell
            go_wp2_with fail
            refine (digits_any _ A _ na (by omega)).mono ?_
            rintro e w43 ⟨rfl, hb⟩
            clear ea
            replace hba := hba.kept hb
            replace na := na.below hb
            replace hbb := hbb.kept hb
            replace nb := nb.below hb
            replace hbv := hbv.kept hb
            replace nv := nv.below hb
            replace hbq := hbq.kept hb
            replace nq := nq.below hb
            replace hbr := hbr.kept hb
            replace nr := nr.below hb
            replace nx := nx.below hb
            replace ny := ny.below hb
            replace hbf := hbf.trans (hb.mono hbf.size)
            clear hb
            rw [HTL.out]
            go_wp2_with fail
            refine (rtext_any _ A _ nx (by omega)).mono ?_
            rintro e w44 ⟨rfl, hb⟩
            replace hba := hba.kept hb
            replace na := na.below hb
            replace hbb := hbb.kept hb
            replace nb := nb.below hb
            replace hbv := hbv.kept hb
            replace nv := nv.below hb
            replace hbq := hbq.kept hb
            replace nq := nq.below hb
            replace hbr := hbr.kept hb
            replace nr := nr.below hb
            replace nx := nx.below hb
            replace ny := ny.below hb
            replace hbf := hbf.trans (hb.mono hbf.size)
            clear hb
            rw [HT.out]
            have ea := hba.cell
            go_wp2_with fail
            refine (zero_no _ A _ na HA0.out).mono ?_
            rintro e w45 ⟨rfl, hb⟩
            clear ea
            replace hba := hba.kept hb
            replace na := na.below hb
            replace hbb := hbb.kept hb
            replace nb := nb.below hb
            replace hbv := hbv.kept hb
            replace nv := nv.below hb
            replace hbq := hbq.kept hb
            replace nq := nq.below hb
            replace hbr := hbr.kept hb
            replace nr := nr.below hb
            replace nx := nx.below hb
            replace ny := ny.below hb
            replace hbf := hbf.trans (hb.mono hbf.size)
            clear hb
            go_wp2_with fail
            refine (rbits_any _ A _ nx (by omega) (by rw [HN.out]; omega)).mono ?_
            rintro e w46 ⟨rfl, hb⟩
            replace hba := hba.kept hb
            replace na := na.below hb
            replace hbb := hbb.kept hb
            replace nb := nb.below hb
            replace hbv := hbv.kept hb
            replace nv := nv.below hb
            replace hbq := hbq.kept hb
            replace nq := nq.below hb
            replace hbr := hbr.kept hb
            replace nr := nr.below hb
            replace nx := nx.below hb
            replace ny := ny.below hb
            replace hbf := hbf.trans (hb.mono hbf.size)
            clear hb
            rw [HN.out]
            go_wp2_with fail
            refine (of_any A _ H64.out).mono ?_
            rintro e w47 ⟨r1, rfl, hq1, hb⟩
            replace hba := hba.kept hb
            replace na := na.below hb
            replace hbb := hbb.kept hb
            replace nb := nb.below hb
            replace hbv := hbv.kept hb
            replace nv := nv.below hb
            replace hbq := hbq.kept hb
            replace nq := nq.below hb
            replace hbr := hbr.kept hb
            replace nr := nr.below hb
            replace nx := nx.below hb
            replace ny := ny.below hb
            replace hbf := hbf.trans (hb.mono hbf.size)
            clear hb
            go_wp2_with fail
            refine (same_any _ _ A _ hq1 nx hs0).mono ?_
            rintro e w48 ⟨rfl, hb⟩
            replace hba := hba.kept hb
            replace na := na.below hb
            replace hbb := hbb.kept hb
            replace nb := nb.below hb
            replace hbv := hbv.kept hb
            replace nv := nv.below hb
            replace hbq := hbq.kept hb
            replace nq := nq.below hb
            replace hbr := hbr.kept hb
            replace nr := nr.below hb
            replace nx := nx.below hb
            replace ny := ny.below hb
            replace hbf := hbf.trans (hb.mono hbf.size)
            clear hb
            go_wp2
            go_ret
            exact ⟨rfl, hbf⟩
          case neg =>
            have hsv : smallV A = 0 := by unfold smallV; rw [if_neg h64]
            have hsb : smallB A = false := decide_eq_false h64
            have hn6 : ¬ (n : Int) ≤ 64 := fun h => h64 (hn64.1 (by omega))
            rw [hsv, hsb]
            have hxl : ((xl : Int) == 0) = false := by rw [beq_eq_false_iff_ne]; intro h; exact hA0 (hxz.1 (by omega))
            have HA0 : Hid (A ≠ 0) := Lib.hid hA0
            clear hsv hsb hA0 hxz hn64
            have ea := hba.cell
            go_wp2_with fail
            refine (bits_any _ A _ na (by omega)).mono ?_
            rintro e w41 ⟨rfl, hb⟩
            clear ea
            replace hba := hba.kept hb
            replace na := na.below hb
            replace hbb := hbb.kept hb
            replace nb := nb.below hb
            replace hbv := hbv.kept hb
            replace nv := nv.below hb
            replace hbq := hbq.kept hb
            replace nq := nq.below hb
            replace hbr := hbr.kept hb
            replace nr := nr.below hb
            replace nx := nx.below hb
            replace ny := ny.below hb
            replace hbf := hbf.trans (hb.mono hbf.size)
            clear hb
            rw [HN.out]
            go_wp2_with fail
            refine (rbits_any _ A _ nx (by omega) (by rw [HN.out]; omega)).mono ?_
            rintro e w42 ⟨rfl, hb⟩
            replace hba := hba.kept hb
            replace na := na.below hb
            replace hbb := hbb.kept hb
            replace nb := nb.below hb
            replace hbv := hbv.kept hb
            replace nv := nv.below hb
            replace hbq := hbq.kept hb
            replace nq := nq.below hb
            replace hbr := hbr.kept hb
            replace nr := nr.below hb
            replace nx := nx.below hb
            replace ny := ny.below hb
            replace hbf := hbf.trans (hb.mono hbf.size)
            clear hb
            rw [HN.out]
            have ea := hba.cell
            go_wp2_with fail
            refine (digits_any _ A _ na (by omega)).mono ?_
            rintro e w43 ⟨rfl, hb⟩
            clear ea
            replace hba := hba.kept hb
            replace na := na.below hb
            replace hbb := hbb.kept hb
            replace nb := nb.below hb
            replace hbv := hbv.kept hb
            replace nv := nv.below hb
            replace hbq := hbq.kept hb
            replace nq := nq.below hb
            replace hbr := hbr.kept hb
            replace nr := nr.below hb
            replace nx := nx.below hb
            replace ny := ny.below hb
            replace hbf := hbf.trans (hb.mono hbf.size)
            clear hb
            rw [HTL.out]
            go_wp2_with fail
            refine (rtext_any _ A _ nx (by omega)).mono ?_
            rintro e w44 ⟨rfl, hb⟩
            replace hba := hba.kept hb
            replace na := na.below hb
            replace hbb := hbb.kept hb
            replace nb := nb.below hb
            replace hbv := hbv.kept hb
            replace nv := nv.below hb
            replace hbq := hbq.kept hb
            replace nq := nq.below hb
            replace hbr := hbr.kept hb
            replace nr := nr.below hb
            replace nx := nx.below hb
            replace ny := ny.below hb
            replace hbf := hbf.trans (hb.mono hbf.size)
            clear hb
            rw [HT.out]
            have ea := hba.cell
            go_wp2_with fail
            refine (zero_no _ A _ na HA0.out).mono ?_
            rintro e w45 ⟨rfl, hb⟩
            clear ea
            replace hba := hba.kept hb
            replace na := na.below hb
            replace hbb := hbb.kept hb
            replace nb := nb.below hb
            replace hbv := hbv.kept hb
            replace nv := nv.below hb
            replace hbq := hbq.kept hb
            replace nq := nq.below hb
            replace hbr := hbr.kept hb
            replace nr := nr.below hb
            replace nx := nx.below hb
            replace ny := ny.below hb
            replace hbf := hbf.trans (hb.mono hbf.size)
            clear hb
            go_wp2_with fail
            refine (rbits_any _ A _ nx (by omega) (by rw [HN.out]; omega)).mono ?_
            rintro e w46 ⟨rfl, hb⟩
            replace hba := hba.kept hb
            replace na := na.below hb
            replace hbb := hbb.kept hb
            replace nb := nb.below hb
            replace hbv := hbv.kept hb
            replace nv := nv.below hb
            replace hbq := hbq.kept hb
            replace nq := nq.below hb
            replace hbr := hbr.kept hb
            replace nr := nr.below hb
            replace nx := nx.below hb
            replace ny := ny.below hb
            replace hbf := hbf.trans (hb.mono hbf.size)
            clear hb
            rw [HN.out]
            have HN6 : Hid (decide ((n : Int) ≤ 64) = false) := Lib.hid (decide_eq_false (by omega))
            go_wp2
            go_ret
            exact ⟨ret_one (congrArg Value.bool (by rw [HN6.out]; rfl)), hbf⟩



set_option maxRecDepth 100000 in
set_option maxHeartbeats 1000000 in
theorem natTells_early (l m : List UInt8) (h : 250 < l.length ∨ 250 < m.length) (w : World) :
    Calls Tryd.prog 9 #[.string ⟨l.toArray⟩, .string ⟨m.toArray⟩] w fun e w' => e = .returned (.bool true) ∧ Below w.heap.size w w' := by
  by_cases h1 : 250 < l.length
  · clear h
    go_enter Tryd.func9, Tryd.ntmps9
    go_wp2_with (go_at_call 10; refine (alive_any _).mono ?_; rintro e w' ⟨rfl, hb⟩)
    go_ret
    exact ⟨rfl, hb⟩
  · have h2 : 250 < m.length := by omega
    clear h
    go_enter Tryd.func9, Tryd.ntmps9
    go_wp2_with (go_at_call 10; refine (alive_any _).mono ?_; rintro e w' ⟨rfl, hb⟩)
    go_ret
    exact ⟨rfl, hb⟩

set_option maxRecDepth 100000 in
theorem natTells_walk (a0 a1 : ByteArray) (w0 : a0.size ≤ maxLen) (w1 : a1.size ≤ maxLen) (w : World) :
    Calls Tryd.prog 9 #[.string a0, .string a1] w fun e w' => e = .returned (.bool true) ∧ Below w.heap.size w w' := by
  obtain ⟨l, rfl, _⟩ := bytes_of a0
  obtain ⟨m, rfl, _⟩ := bytes_of a1
  by_cases h : 250 < l.length ∨ 250 < m.length
  · exact natTells_early l m h w
  · exact natTells_main l m (by omega) (by omega) w

end Go.Proofs.YtegneoaoodddoaaDoor

