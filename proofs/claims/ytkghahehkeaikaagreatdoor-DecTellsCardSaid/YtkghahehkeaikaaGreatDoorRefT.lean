/-
  The document's Places and LitText.
-/
import Derived.Test.YtkghahehkeaikaaGreatDoorRefR
import Derived.Test.YtkghahehkeaikaaGreatDoorMathV
import Derived.Test.YtkghahehkeaikaaGreatDoorDecA
import Derived.Deep.DeepCutAuto
import Derived.WalkMore
import Derived.Laws.StructEq
namespace Go.Proofs.YtkghahehkeaikaaGreatDoor
open Go.RowKit
set_option linter.unusedVariables false
set_option linter.unusedSimpArgs false
attribute [local go_sem] field_nat

theorem rcmp_f (va vb : Value) (a : Nat) (z : Int) (w : World) (ha : RIs w va a) (hb : RIs w vb 1) (hz : Hid (z = cmpI a 1)) : Calls Tryz.prog 36 #[va, vb] w fun e w' => e = .returned (.int .i64 z) ∧ Below w.heap.size w w' := by
  rw [hz.out]; exact rcmp_any va vb a 1 w ha hb
theorem rl1 {n : Nat} (h : n < 10000) : (rlimbs n).length ≤ 1 := rlimbs_length_le (k := 1) (by omega)
theorem cnt_smallr {b n K : Nat} (hb : 1 < b) (hn : 0 < n) (h : (rlimbs n).length ≤ K) : cnt b n ≤ 14 * K := by
  have h1 := cnt_eq hb n hn
  have h2 : 2 ^ cnt b n ≤ b ^ cnt b n := Nat.pow_le_pow_left (by omega) _
  have h3 : b ^ cnt b n ≤ n := by
    have := Nat.mul_le_mul (Nat.le_refl (b ^ cnt b n)) (show 1 ≤ crest b n from h1.2.2)
    rw [Nat.mul_one, ← h1.1] at this; exact this
  have h4 := lt_pow_rlimbs n
  have h5 : 10000 ^ (rlimbs n).length ≤ 16384 ^ K := Nat.le_trans (Nat.pow_le_pow_left (by decide) _) (Nat.pow_le_pow_right (by decide) h)
  have h6 : 16384 ^ K = 2 ^ (14 * K) := by rw [Nat.pow_mul]
  have h7 : 2 ^ cnt b n < 2 ^ (14 * K) := by omega
  exact Nat.le_of_lt ((Nat.pow_lt_pow_iff_right (by decide)).1 h7)
theorem cmp_fin {u : Nat} {z : Int} (hz : z = cmpI u 1) : (z == 0) = decide (u = 1) := by
  rw [hz]
  unfold cmpI
  by_cases h1 : u < 1
  · rw [if_pos h1, decide_eq_false (by omega)]; rfl
  · rw [if_neg h1]
    by_cases h2 : 1 < u
    · rw [if_pos h2, decide_eq_false (by omega)]; rfl
    · rw [if_neg h2, decide_eq_true (by omega)]; rfl

set_option maxRecDepth 100000 in
set_option maxHeartbeats 4000000 in
/-- Places. -/
theorem rplaces_any (v : Value) (q : Rat) (p : Nat) (is : Bool) (w : World) (h : RQIs w v q) (hqb : (rlimbs q.den).length ≤ 4000) (hp : Hid (p = places q)) (hf : Hid (is = fin q)) : Calls Tryz.prog 12 #[v] w fun e w' => e = .returned (.tuple #[.int .i64 (p : Nat), .bool is]) ∧ Below w.heap.size w w' := by
  obtain ⟨qB, qxO, qxL, qxC, qyO, qyL, qyC, rfl, hS, hqx, hqy⟩ := h.form
  have HqS := Lib.hid hS; clear hS
  have hdl := hqb
  have hx9 : cnt 2 q.den ≤ 14 * 4000 := cnt_smallr (by decide) (den_pos q) hqb
  have hu0 := (cnt_eq (b := 2) (by decide) q.den (den_pos q)).2.2
  have hul : (rlimbs (crest 2 q.den)).length ≤ 4000 := Nat.le_trans (rlimbs_length_mono (crest_le 2 _ (by decide))) hqb
  have hy9 : cnt 5 (crest 2 q.den) ≤ 14 * 4000 := cnt_smallr (by decide) hu0 hul
  have hd0 := den_pos q
  obtain ⟨n, hn⟩ : ∃ n, n = q.den := ⟨_, rfl⟩
  rw [← hn] at hdl hx9 hu0 hul hy9 hd0 hqy
  obtain ⟨x, hx⟩ : ∃ x, x = cnt 2 n := ⟨_, rfl⟩
  obtain ⟨u, hu⟩ : ∃ u, u = crest 2 n := ⟨_, rfl⟩
  rw [← hx] at hx9
  rw [← hu] at hu0 hul hy9
  obtain ⟨y, hy⟩ : ∃ y, y = cnt 5 u := ⟨_, rfl⟩
  rw [← hy] at hy9
  have HPL : Hid (p = max x y) := Lib.hid (by rw [hp.out, hx, hy, hu, hn]; rfl)
  have HFI : Hid (is = decide (crest 5 u = 1)) := Lib.hid (by rw [hf.out, hu, hn]; rfl)
  have HX := Lib.hid hx
  have HU := Lib.hid hu
  have HY := Lib.hid hy
  clear hx hu hy hn
  obtain ⟨w0, hw0⟩ : ∃ w0, w0 = (w.alloc (.cells #[.bool qB, .slice qxO qxL qxC, .slice qyO qyL qyC] 34)) := ⟨_, rfl⟩
  have hbf : Below w.heap.size w w0 := by rw [hw0]; exact ((Below.refl _ w).alloc (Nat.le_refl _) _)
  obtain ⟨pq, hpq⟩ : ∃ p, p = w.heap.size := ⟨_, rfl⟩
  have hbq : Box3 w0 pq (Value.bool qB) (Value.slice qxO qxL qxC) (Value.slice qyO qyL qyC) := by rw [hw0, hpq]; exact ⟨by go_simp, by go_simp, by go_simp, by go_simp, by go_simp, by go_simp⟩
  have HP : Hid (w.heap.size ≤ pq) := Lib.hid (by omega)
  replace h := h.below hbf
  replace hqx := hqx.below hbf
  replace hqy := hqy.below hbf
  have HW := Lib.hid hw0; clear hw0
  go_enter Tryz.func12, Tryz.ntmps12
  go_upto_region 1 with fail
  rw [← HW.out, ← hpq]
  clear hpq HW
  have eq0 := hbq.c0
  have eq1 := hbq.c1
  have eq2 := hbq.c2
  (try go_step3)
  (try go_wp2_with fail)
  (try go_step3)
  (try go_wp2_with fail)
  clear eq0 eq1 eq2
  go_loopg [4, 5] (cnt 2 n) (fun gg dv kv wr => ∃ (m k : Nat) (mO : Option Addr) (mL mC : Nat), dv = .slice mO mL mC ∧ kv = .int .i64 (k : Int) ∧ gg = cnt 2 m ∧ k + cnt 2 m = x ∧ crest 2 m = u ∧ 0 < m ∧ m ≤ n ∧ Box3 wr pq (.bool qB) (.slice qxO qxL qxC) (.slice qyO qyL qyC) ∧ RIs wr (.slice mO mL mC) m ∧ Below w.heap.size w wr)
  case atStart => exact ⟨n, 0, _, _, _, rfl, rfl, rfl, by have h1 := HX.out; omega, HU.out.symm, hd0, Nat.le_refl _, hbq, hqy, hbf⟩
  clear hbq hqy hbf
  case round =>
    obtain ⟨m, k, mO, mL, mC, rfl, rfl, hg, hk, hcr, hm0, hmn, hbq, hm, hbf⟩ := hrel
    have hlm : (rlimbs m).length ≤ 4000 := Nat.le_trans (rlimbs_length_mono hmn) hdl
    have HG := Lib.hid hg
    have HK := Lib.hid hk
    have HCR := Lib.hid hcr
    clear hg hk hcr
    obtain ⟨w1, hwE⟩ : ∃ W, W = (wr.alloc (.cells #[.int .i64 2] 3)) := ⟨_, rfl⟩
    have hb : Below wr.heap.size wr w1 := by rw [hwE]; exact ((Below.refl _ wr).alloc (Nat.le_refl _) _)
    obtain ⟨lP, hpl⟩ : ∃ p, p = wr.heap.size := ⟨_, rfl⟩
    have hl : RIs w1 (.slice (some ⟨lP, 0, none⟩) 1 1) 2 := by rw [hwE, hpl]; exact (one_is wr (x := 2) (by omega) (by omega))
    have HW := Lib.hid hwE; clear hwE
    go_wp2_with fail
    rw [← HW.out, ← hpl]
    clear hpl HW
    replace hbq := hbq.kept hb
    replace hm := hm.below hb
    replace hbf := hbf.trans (hb.mono hbf.size)
    clear hb
    refine (rdivmod_any _ _ m 2 _ hm hl (by omega) (Nat.le_trans (rl1 (by decide)) (by decide)) (by decide)).mono ?_
    rintro e w2 ⟨q9, r9, rfl, hv, hs, hb⟩
    replace hbq := hbq.kept hb
    replace hm := hm.below hb
    replace hl := hl.below hb
    replace hbf := hbf.trans (hb.mono hbf.size)
    clear hb
    obtain ⟨vO, vL, vC, rfl⟩ := hv.form
    obtain ⟨sO, sL, sC, rfl⟩ := hs.form
    have hsl := hs.len
    by_cases hz : m % 2 = 0
    case pos =>
      have hc := cnt_more (b := 2) (n := m) (by decide) hm0 hz
      have HC1 := Lib.hid hc.1
      have HC2 := Lib.hid hc.2
      clear hc
      have hkb : k < 9223372036854775807 := by have h1 := HK.out; omega
      have hq0 : 0 < m / 2 := Nat.div_pos (Nat.le_of_dvd hm0 (Nat.dvd_of_mod_eq_zero hz)) (by decide)
      have hqn : m / 2 ≤ n := Nat.le_trans (Nat.div_le_self _ _) hmn
      obtain rfl : sL = 0 := by rw [hsl, hz, rlimbs_zero]; rfl
      clear hsl
      have eq0 := hbq.c0
      have eq1 := hbq.c1
      have eq2 := hbq.c2
      go_wp2_with fail
      go_roundg (gk - 1)
      case measure => have h1 := HG.out; have h2 := HC1.out; omega
      case rel => exact ⟨m / 2, k + 1, _, _, _, rfl, by go_num, by have h1 := HG.out; have h2 := HC1.out; omega, by have h1 := HK.out; have h2 := HC1.out; omega, HC2.out.symm.trans HCR.out, hq0, hqn, hbq, hv, hbf⟩
    case neg =>
      have hc := cnt_end (b := 2) (n := m) hz
      have hke : x = k := by rw [← HK.out, hc.1]; omega
      have hme : u = m := by rw [← HCR.out, hc.2]
      have hsp : 0 < sL := by rw [hsl]; exact List.length_pos_iff.2 (fun h => hz (rlimbs_eq_nil.1 h))
      have hsi : (0 : Int) < ((sL : Nat) : Int) := by omega
      clear hc hsl
      subst hke
      have HME := Lib.hid hme
      subst hme
      clear hv hs hl
      have eq0 := hbq.c0
      have eq1 := hbq.c1
      have eq2 := hbq.c2
      go_wp2_with fail
      (try go_step3)
      (try go_wp2_with fail)
      clear eq0 eq1 eq2
      obtain ⟨go, hgo⟩ : ∃ go, go = gk := ⟨_, rfl⟩
      subst hgo
      go_loopg [4, 6] (cnt 5 u) (fun gg dv kv wr => ∃ (m k : Nat) (mO : Option Addr) (mL mC : Nat), dv = .slice mO mL mC ∧ kv = .int .i64 (k : Int) ∧ gg = cnt 5 m ∧ k + cnt 5 m = y ∧ crest 5 m = crest 5 u ∧ 0 < m ∧ m ≤ u ∧ Box3 wr pq (.bool qB) (.slice qxO qxL qxC) (.slice qyO qyL qyC) ∧ RIs wr (.slice mO mL mC) m ∧ Below w.heap.size w wr)
      case atStart => exact ⟨u, 0, _, _, _, rfl, rfl, rfl, by have h1 := HY.out; omega, rfl, hu0, Nat.le_refl _, hbq, hm, hbf⟩
      clear hbq hm hbf
      case round =>
        obtain ⟨m, k, mO, mL, mC, rfl, rfl, hg, hk, hcr, hm0, hmn, hbq, hm, hbf⟩ := hrel
        have hlm : (rlimbs m).length ≤ 4000 := Nat.le_trans (rlimbs_length_mono hmn) hul
        have HG := Lib.hid hg
        have HK := Lib.hid hk
        have HCR := Lib.hid hcr
        clear hg hk hcr
        obtain ⟨w3, hwE⟩ : ∃ W, W = (wr.alloc (.cells #[.int .i64 5] 3)) := ⟨_, rfl⟩
        have hb : Below wr.heap.size wr w3 := by rw [hwE]; exact ((Below.refl _ wr).alloc (Nat.le_refl _) _)
        obtain ⟨lP, hpl⟩ : ∃ p, p = wr.heap.size := ⟨_, rfl⟩
        have hl : RIs w3 (.slice (some ⟨lP, 0, none⟩) 1 1) 5 := by rw [hwE, hpl]; exact (one_is wr (x := 5) (by omega) (by omega))
        have HW := Lib.hid hwE; clear hwE
        go_wp2_with fail
        rw [← HW.out, ← hpl]
        clear hpl HW
        replace hbq := hbq.kept hb
        replace hm := hm.below hb
        replace hbf := hbf.trans (hb.mono hbf.size)
        clear hb
        refine (rdivmod_any _ _ m 5 _ hm hl (by omega) (Nat.le_trans (rl1 (by decide)) (by decide)) (by decide)).mono ?_
        rintro e w4 ⟨q9, r9, rfl, hv, hs, hb⟩
        replace hbq := hbq.kept hb
        replace hm := hm.below hb
        replace hl := hl.below hb
        replace hbf := hbf.trans (hb.mono hbf.size)
        clear hb
        obtain ⟨vO, vL, vC, rfl⟩ := hv.form
        obtain ⟨sO, sL, sC, rfl⟩ := hs.form
        have hsl := hs.len
        by_cases hz : m % 5 = 0
        case pos =>
          have hc := cnt_more (b := 5) (n := m) (by decide) hm0 hz
          have HC1 := Lib.hid hc.1
          have HC2 := Lib.hid hc.2
          clear hc
          have hkb : k < 9223372036854775807 := by have h1 := HK.out; omega
          have hq0 : 0 < m / 5 := Nat.div_pos (Nat.le_of_dvd hm0 (Nat.dvd_of_mod_eq_zero hz)) (by decide)
          have hqn : m / 5 ≤ u := Nat.le_trans (Nat.div_le_self _ _) hmn
          obtain rfl : sL = 0 := by rw [hsl, hz, rlimbs_zero]; rfl
          clear hsl
          have eq0 := hbq.c0
          have eq1 := hbq.c1
          have eq2 := hbq.c2
          go_wp2_with fail
          go_roundg (gk - 1)
          case measure => have h1 := HG.out; have h2 := HC1.out; omega
          case rel => exact ⟨m / 5, k + 1, _, _, _, rfl, by go_num, by have h1 := HG.out; have h2 := HC1.out; omega, by have h1 := HK.out; have h2 := HC1.out; omega, HC2.out.symm.trans HCR.out, hq0, hqn, hbq, hv, hbf⟩
        case neg =>
          have hc := cnt_end (b := 5) (n := m) hz
          have hke : y = k := by rw [← HK.out, hc.1]; omega
          have hme : crest 5 u = m := by rw [← HCR.out, hc.2]
          have hsp : 0 < sL := by rw [hsl]; exact List.length_pos_iff.2 (fun h => hz (rlimbs_eq_nil.1 h))
          have hsi : (0 : Int) < ((sL : Nat) : Int) := by omega
          clear hc hsl
          obtain ⟨z, hz9⟩ : ∃ z, z = cmpI m 1 := ⟨_, rfl⟩
          have hzf : (z == 0) = is := by rw [cmp_fin hz9, HFI.out, hme]
          have HZ := Lib.hid hz9
          clear hz9 hme
          subst hke
          have hmx : max (x : Int) (y : Int) = ((p : Nat) : Int) := by rw [HPL.out]; omega
          clear hv hs hl
          obtain ⟨w5, hwE⟩ : ∃ W, W = (w4.alloc (.cells #[.int .i64 1] 3)) := ⟨_, rfl⟩
          have hb : Below w4.heap.size w4 w5 := by rw [hwE]; exact ((Below.refl _ w4).alloc (Nat.le_refl _) _)
          obtain ⟨iP, hpi⟩ : ∃ p, p = w4.heap.size := ⟨_, rfl⟩
          have hi : RIs w5 (.slice (some ⟨iP, 0, none⟩) 1 1) 1 := by rw [hwE, hpi]; exact (one_is w4 (x := 1) (by omega) (by omega))
          have HW := Lib.hid hwE; clear hwE
          go_wp2_with fail
          rw [← HW.out, ← hpi]
          clear hpi HW
          replace hbq := hbq.kept hb
          replace hm := hm.below hb
          replace hbf := hbf.trans (hb.mono hbf.size)
          clear hb
          refine (rcmp_f _ _ m z _ hm hi HZ).mono ?_
          rintro e w6 ⟨rfl, hb⟩
          replace hbq := hbq.kept hb
          replace hm := hm.below hb
          replace hi := hi.below hb
          replace hbf := hbf.trans (hb.mono hbf.size)
          clear hb
          go_wp2_with fail
          (try rw [Exit.noGoto_ret])
          go_ret2
          exact ⟨rfl, hbf⟩

theorem rtext_b (v : Value) (n : Nat) (s : List UInt8) (w : World) (h : RIs w v n) (hl : (rlimbs n).length ≤ 100000) (hs : Hid (s = str (dec n))) :
    Calls Tryz.prog 35 #[v] w fun e w' => e = .returned (.string ⟨s.toArray⟩) ∧ Below w.heap.size w w' := by
  rw [hs.out]; exact rtext_any v n w h hl
theorem str_len (n : Nat) : (str (dec n)).length = (dec n).length := by unfold str; simp
theorem rlimbs_ten (p : Nat) {K : Nat} (h : p < K) : (rlimbs (10 ^ p)).length ≤ K := rlimbs_pow10 (Nat.pow_lt_pow_right (by decide) h)
theorem rlimbs_mul10 {a m p K : Nat} (ha : a < 10 ^ m) (h : m + p ≤ K) : (rlimbs (a * 10 ^ p)).length ≤ K := by
  refine rlimbs_pow10 (Nat.lt_of_lt_of_le (Nat.mul_lt_mul_of_pos_right ha (Nat.pow_pos (by decide))) ?_)
  rw [← Nat.pow_add]
  exact Nat.pow_le_pow_right (by decide) h
theorem lt_dec {n k : Nat} (h : (dec n).length ≤ k) : n < 10 ^ k := by
  have h1 := dnum_lt (str (dec n)) (str_dec_digs n)
  rw [dnum_dec, str_len] at h1
  exact Nat.lt_of_lt_of_le h1 (Nat.pow_le_pow_right (by decide) h)

set_option maxRecDepth 100000 in
set_option maxHeartbeats 1000000 in
/-- LitText of none. -/
theorem rltext_no (v : Value) (q : Rat) (w : World) (h : RQIs w v q) (hk : LOk q) (hf : fin q = false) : Calls Tryz.prog 15 #[v] w fun e w' => e = .returned (.tuple #[.string ⟨#[]⟩, .int .i64 14]) ∧ Below w.heap.size w w' := by
  obtain ⟨qB, qxO, qxL, qxC, qyO, qyL, qyC, rfl, hS, hqx, hqy⟩ := h.form
  have HqS := Lib.hid hS; clear hS
  have hqr := hk.1.rden
  have HF : Hid (false = fin q) := Lib.hid hf.symm
  obtain ⟨p, hp⟩ : ∃ p, p = places q := ⟨_, rfl⟩
  have HPP := Lib.hid hp
  clear hp hf
  obtain ⟨w0, hw0⟩ : ∃ w0, w0 = (w.alloc (.cells #[.bool qB, .slice qxO qxL qxC, .slice qyO qyL qyC] 34)) := ⟨_, rfl⟩
  have hbf : Below w.heap.size w w0 := by rw [hw0]; exact ((Below.refl _ w).alloc (Nat.le_refl _) _)
  obtain ⟨pq, hpq⟩ : ∃ p, p = w.heap.size := ⟨_, rfl⟩
  have hbq : Box3 w0 pq (Value.bool qB) (Value.slice qxO qxL qxC) (Value.slice qyO qyL qyC) := by rw [hw0, hpq]; exact ⟨by go_simp, by go_simp, by go_simp, by go_simp, by go_simp, by go_simp⟩
  have HP : Hid (w.heap.size ≤ pq) := Lib.hid (by omega)
  replace h := h.below hbf
  replace hqx := hqx.below hbf
  replace hqy := hqy.below hbf
  have HW := Lib.hid hw0; clear hw0
  go_enter Tryz.func15, Tryz.ntmps15
  go_upto_region 1 with fail
  rw [← HW.out, ← hpq]
  clear hpq HW
  have eq0 := hbq.c0
  have eq1 := hbq.c1
  have eq2 := hbq.c2
  go_wp2_with fail
  refine (rplaces_any _ q p false _ h (Nat.le_trans hqr (by decide)) HPP HF).mono ?_
  rintro e w1 ⟨rfl, hb⟩
  clear eq0 eq1 eq2
  replace hbq := hbq.kept hb
  replace h := h.below hb
  replace hqx := hqx.below hb
  replace hqy := hqy.below hb
  replace hbf := hbf.trans (hb.mono hbf.size)
  clear hb
  have eq0 := hbq.c0
  have eq1 := hbq.c1
  have eq2 := hbq.c2
  go_wp2_with fail
  go_ret2
  exact ⟨rfl, hbf⟩

theorem lit_small {q : Rat} {p a K : Nat} (h : q.num.natAbs < 10 ^ a) (hp : a + p ≤ K) : litNum q p < 10 ^ K := by
  refine Nat.lt_of_le_of_lt (Nat.div_le_self _ _) (Nat.lt_of_lt_of_le (Nat.mul_lt_mul_of_pos_right h (Nat.pow_pos (by decide))) ?_)
  rw [← Nat.pow_add]
  exact Nat.pow_le_pow_right (by decide) hp

set_option maxRecDepth 100000 in
set_option maxHeartbeats 4000000 in
/-- LitText. -/
theorem rltext_yes (v : Value) (q : Rat) (w : World) (h : RQIs w v q) (hk : LOk q) (hf : fin q = true) : Calls Tryz.prog 15 #[v] w fun e w' => e = .returned (.tuple #[.string ⟨(litText q).toArray⟩, .int .i64 0]) ∧ Below w.heap.size w w' := by
  obtain ⟨qB, qxO, qxL, qxC, qyO, qyL, qyC, rfl, hS, hqx, hqy⟩ := h.form
  have HqS := Lib.hid hS; clear hS
  have hqr := hk.1.rden
  have HF : Hid (true = fin q) := Lib.hid hf.symm
  obtain ⟨p, hp⟩ : ∃ p, p = places q := ⟨_, rfl⟩
  have hpl : p ≤ 1200 := by rw [hp]; exact hk.2.1
  have HTX : Hid (litText q = sgn qB ++ ptAt p (padTo p (str (dec (litNum q p))))) := Lib.hid (by rw [hp, HqS.out]; rfl)
  obtain ⟨K1, hK1⟩ : ∃ K, K = 1200 := ⟨_, rfl⟩
  obtain ⟨K2, hK2⟩ : ∃ K, K = 2500 := ⟨_, rfl⟩
  have hnn : q.num.natAbs < 10 ^ K1 := lt_dec (by rw [hK1]; exact hk.2.2.1)
  have HPP := Lib.hid hp
  clear hp hf
  obtain ⟨TN, hTN⟩ : ∃ s, s = str (dec q.num.natAbs) := ⟨_, rfl⟩
  obtain ⟨TD, hTD⟩ : ∃ s, s = str (dec q.den) := ⟨_, rfl⟩
  have hl1 : TN.length ≤ 1200 := by rw [hTN, str_len]; exact hk.2.2.1
  have hl2 : TD.length ≤ 1200 := by rw [hTD, str_len]; exact hk.2.2.2
  have HTN := Lib.hid hTN
  have HTD := Lib.hid hTD
  clear hTN hTD
  have hrn := hk.1.rnum
  have hd0 := den_pos q
  obtain ⟨w0, hw0⟩ : ∃ w0, w0 = (w.alloc (.cells #[.bool qB, .slice qxO qxL qxC, .slice qyO qyL qyC] 34)) := ⟨_, rfl⟩
  have hbf : Below w.heap.size w w0 := by rw [hw0]; exact ((Below.refl _ w).alloc (Nat.le_refl _) _)
  obtain ⟨pq, hpq⟩ : ∃ p, p = w.heap.size := ⟨_, rfl⟩
  have hbq : Box3 w0 pq (Value.bool qB) (Value.slice qxO qxL qxC) (Value.slice qyO qyL qyC) := by rw [hw0, hpq]; exact ⟨by go_simp, by go_simp, by go_simp, by go_simp, by go_simp, by go_simp⟩
  have HP : Hid (w.heap.size ≤ pq) := Lib.hid (by omega)
  replace h := h.below hbf
  replace hqx := hqx.below hbf
  replace hqy := hqy.below hbf
  have HW := Lib.hid hw0; clear hw0
  go_enter Tryz.func15, Tryz.ntmps15
  go_upto_region 1 with fail
  rw [← HW.out, ← hpq]
  clear hpq HW
  have eq0 := hbq.c0
  have eq1 := hbq.c1
  have eq2 := hbq.c2
  go_wp2_with fail
  refine (rplaces_any _ q p true _ h (Nat.le_trans hqr (by decide)) HPP HF).mono ?_
  rintro e w1 ⟨rfl, hb⟩
  clear eq0 eq1 eq2
  replace hbq := hbq.kept hb
  replace h := h.below hb
  replace hqx := hqx.below hb
  replace hqy := hqy.below hb
  replace hbf := hbf.trans (hb.mono hbf.size)
  clear hb
  have eq0 := hbq.c0
  have eq1 := hbq.c1
  have eq2 := hbq.c2
  go_wp2_with fail
  refine (rtext_b _ q.num.natAbs TN _ hqx (by omega) HTN).mono ?_
  rintro e w2 ⟨rfl, hb⟩
  clear eq0 eq1 eq2
  replace hbq := hbq.kept hb
  replace h := h.below hb
  replace hqx := hqx.below hb
  replace hqy := hqy.below hb
  replace hbf := hbf.trans (hb.mono hbf.size)
  clear hb
  have eq0 := hbq.c0
  have eq1 := hbq.c1
  have eq2 := hbq.c2
  go_wp2_with fail
  refine (rtext_b _ q.den TD _ hqy (by omega) HTD).mono ?_
  rintro e w3 ⟨rfl, hb⟩
  clear eq0 eq1 eq2
  replace hbq := hbq.kept hb
  replace h := h.below hb
  replace hqx := hqx.below hb
  replace hqy := hqy.below hb
  replace hbf := hbf.trans (hb.mono hbf.size)
  clear hb
  obtain ⟨w4, hwE⟩ : ∃ W, W = (w3.alloc (.cells #[.int .i64 1] 3)) := ⟨_, rfl⟩
  have hb : Below w3.heap.size w3 w4 := by rw [hwE]; exact ((Below.refl _ w3).alloc (Nat.le_refl _) _)
  obtain ⟨oP, hpo⟩ : ∃ p, p = w3.heap.size := ⟨_, rfl⟩
  have ho : RIs w4 (.slice (some ⟨oP, 0, none⟩) 1 1) 1 := by rw [hwE, hpo]; exact (one_is w3 (x := 1) (by omega) (by omega))
  have eq0 := hbq.c0
  have eq1 := hbq.c1
  have eq2 := hbq.c2
  have HW := Lib.hid hwE; clear hwE
  go_upto_region 7 with fail
  rw [← HW.out, ← hpo]
  clear hpo HW
  clear eq0 eq1 eq2
  replace hbq := hbq.kept hb
  replace h := h.below hb
  replace hqx := hqx.below hb
  replace hqy := hqy.below hb
  replace hbf := hbf.trans (hb.mono hbf.size)
  clear hb
  have eq0 := hbq.c0
  have eq1 := hbq.c1
  have eq2 := hbq.c2
  go_wp2_with fail
  clear eq0 eq1 eq2
  go_loopg [6, 7] p (fun gg tv kv wr => ∃ (k : Nat) (tO : Option Addr) (tL tC : Nat), tv = .slice tO tL tC ∧ kv = .int .i64 (k : Int) ∧ k + gg = p ∧ RIs wr (.slice tO tL tC) (10 ^ k) ∧ Box3 wr pq (.bool qB) (.slice qxO qxL qxC) (.slice qyO qyL qyC) ∧ RIs wr (.slice qxO qxL qxC) q.num.natAbs ∧ RIs wr (.slice qyO qyL qyC) q.den ∧ Below w.heap.size w wr)
  case atStart => exact ⟨0, _, _, _, rfl, rfl, by omega, ho, hbq, hqx, hqy, hbf⟩
  clear hbq hqx hqy hbf ho h
  case round =>
    obtain ⟨k, tO, tL, tC, rfl, rfl, hkg, ht, hbq, hqx, hqy, hbf⟩ := hrel
    by_cases hkp : k < p
    case pos =>
      have hki : ((k : Nat) : Int) < ((p : Nat) : Int) := by omega
      obtain ⟨w5, hwE⟩ : ∃ W, W = (wr.alloc (.cells #[.int .i64 10] 3)) := ⟨_, rfl⟩
      have hb : Below wr.heap.size wr w5 := by rw [hwE]; exact ((Below.refl _ wr).alloc (Nat.le_refl _) _)
      obtain ⟨lP, hpl⟩ : ∃ p, p = wr.heap.size := ⟨_, rfl⟩
      have hl : RIs w5 (.slice (some ⟨lP, 0, none⟩) 1 1) 10 := by rw [hwE, hpl]; exact (one_is wr (x := 10) (by omega) (by omega))
      have HW := Lib.hid hwE; clear hwE
      go_wp2_with fail
      rw [← HW.out, ← hpl]
      clear hpl HW
      replace hbq := hbq.kept hb
      replace ht := ht.below hb
      replace hqx := hqx.below hb
      replace hqy := hqy.below hb
      replace hbf := hbf.trans (hb.mono hbf.size)
      clear hb
      refine (rmul_any _ _ (10 ^ k) 10 _ ht hl (Nat.le_trans (rlimbs_ten k (K := 1300) (by omega)) (by decide)) (Nat.le_trans (rl1 (by decide)) (by decide))).mono ?_
      rintro e w6 ⟨r9, rfl, hv, hb⟩
      replace hbq := hbq.kept hb
      replace ht := ht.below hb
      replace hqx := hqx.below hb
      replace hqy := hqy.below hb
      replace hl := hl.below hb
      replace hbf := hbf.trans (hb.mono hbf.size)
      clear hb
      obtain ⟨vO, vL, vC, rfl⟩ := hv.form
      rw [← Nat.pow_succ] at hv
      have eq0 := hbq.c0
      have eq1 := hbq.c1
      have eq2 := hbq.c2
      go_wp2_with fail
      go_roundg (gk - 1)
      case measure => omega
      case rel => exact ⟨k + 1, _, _, _, rfl, by go_num, by omega, hv, hbq, hqx, hqy, hbf⟩
    case neg =>
      obtain rfl : p = k := by omega
      have hki : ¬ ((p : Nat) : Int) < ((p : Nat) : Int) := by omega
      have hlw : (rlimbs (10 ^ p)).length ≤ 10000000 := Nat.le_trans (rlimbs_ten p (K := 1300) (by omega)) (by decide)
      have hlm : (rlimbs (q.num.natAbs * 10 ^ p)).length ≤ 2500 := rlimbs_mul10 hnn (by omega)
      have eq0 := hbq.c0
      have eq1 := hbq.c1
      have eq2 := hbq.c2
      go_wp2_with fail
      clear eq0 eq1 eq2
      refine wp_region_seq (S := fun w' => Box3 w' pq (Value.bool qB) (Value.slice qxO qxL qxC) (Value.slice qyO qyL qyC)) [(true, 0), (true, 1), (true, 2), (true, 4), (true, 5), (false, 3), (false, 6), (true, 7), (true, 8), (true, 9), (true, 10), (true, 11)] (by kernel_rfl) (by kernel_rfl) (by kernel_rfl) (by kernel_rfl) (by kernel_rfl) (fun d _ _ _ _ h => by cases d <;> exact h) hbq.drew (fun _ => ?_)
      simp only [pickOps, List.append_eq, List.cons_append, List.nil_append, List.getElem?_toArray, List.getElem?_cons_succ, List.getElem?_cons_zero]
      have hb : Below wr.heap.size wr wr.drew := (Below.refl _ _).drew
      generalize wr.drew = w5 at hb ⊢
      replace hbq := hbq.kept hb
      replace ht := ht.below hb
      replace hqx := hqx.below hb
      replace hqy := hqy.below hb
      replace hbf := hbf.trans (hb.mono hbf.size)
      clear hb
      repeat (first | (refine seq_take (v := ?_) (by rfl) ?_ ?_; rotate_left; (· intro w hSw; (try dsimp only at hSw); obtain ⟨eq0, eq1, eq2, _, _, _⟩ := hSw; go_simp; all_goals with_reducible rfl); (try simp only [Act.put, List.setIfInBounds_toArray, List.set_cons_zero, List.set_cons_succ])) | (refine seq_leave (by rfl) ?_; (try simp only [Act.put, List.setIfInBounds_toArray, List.set_cons_zero, List.set_cons_succ])))
      refine seq_step (by rfl) (fun K hK => ?_)
      go_simp
      go_at_call 31
      (with_reducible refine (rmul_any _ _ q.num.natAbs (10 ^ p) _ hqx ht (by omega) hlw).mono ?_)
      rintro e w6 ⟨r9, rfl, hm, hb⟩
      obtain ⟨mO, mL, mC, rfl⟩ := hm.form
      replace hbq := hbq.kept hb
      replace ht := ht.below hb
      replace hqx := hqx.below hb
      replace hqy := hqy.below hb
      replace hbf := hbf.trans (hb.mono hbf.size)
      clear hb
      first | refine hK.out _ _ hbq (fun _ => ?_) | (go_wp2_with fail; refine hK.out _ _ hbq (fun _ => ?_))
      clear hK K
      (try simp only [Act.put, List.setIfInBounds_toArray, List.set_cons_zero, List.set_cons_succ])
      refine seq_step (by rfl) (fun K hK => ?_)
      go_simp
      go_at_call 39
      (with_reducible refine (rdivmod_any _ _ (q.num.natAbs * 10 ^ p) q.den _ hm hqy (by omega) (by omega) hd0).mono ?_)
      rintro e w7 ⟨q9, r9, rfl, hv, hu, hb⟩
      obtain ⟨vO, vL, vC, rfl⟩ := hv.form
      obtain ⟨uO, uL, uC, rfl⟩ := hu.form
      replace hbq := hbq.kept hb
      replace ht := ht.below hb
      replace hqx := hqx.below hb
      replace hqy := hqy.below hb
      replace hm := hm.below hb
      replace hbf := hbf.trans (hb.mono hbf.size)
      clear hb
      first | refine hK.out _ _ hbq (fun _ => ?_) | (go_wp2_with fail; refine hK.out _ _ hbq (fun _ => ?_))
      clear hK K
      (try simp only [Act.put, List.setIfInBounds_toArray, List.set_cons_zero, List.set_cons_succ])
      repeat (first | (refine seq_take (v := ?_) (by rfl) ?_ ?_; rotate_left; (· intro w hSw; (try dsimp only at hSw); obtain ⟨eq0, eq1, eq2, _, _, _⟩ := hSw; go_simp; all_goals with_reducible rfl); (try simp only [Act.put, List.setIfInBounds_toArray, List.set_cons_zero, List.set_cons_succ])) | (refine seq_leave (by rfl) ?_; (try simp only [Act.put, List.setIfInBounds_toArray, List.set_cons_zero, List.set_cons_succ])))
      refine seq_end ?_
      have hv2 : RIs w7 (.slice vO vL vC) (litNum q p) := hv
      obtain ⟨v9, hv9⟩ : ∃ v, v = litNum q p := ⟨_, rfl⟩
      rw [← hv9] at hv2
      have hvl : v9 < 10 ^ K2 := by rw [hv9]; exact lit_small hnn (by omega)
      obtain ⟨s, hs⟩ : ∃ s, s = str (dec v9) := ⟨_, rfl⟩
      have HS := Lib.hid hs
      have hsl : s.length ≤ 2500 := by rw [hs, str_len]; exact Nat.le_trans (dec_le hvl (by omega)) (by omega)
      have hlv : (rlimbs v9).length ≤ 100000 := Nat.le_trans (rlimbs_pow10 hvl) (by omega)
      have HV := Lib.hid hv9
      clear hv9 hs hvl hv hu hm ht
      have eq0 := hbq.c0
      have eq1 := hbq.c1
      have eq2 := hbq.c2
      go_wp2_with fail
      refine (rtext_b _ v9 s _ hv2 hlv HS).mono ?_
      rintro e w8 ⟨rfl, hb⟩
      clear eq0 eq1 eq2
      replace hbq := hbq.kept hb
      replace hqx := hqx.below hb
      replace hqy := hqy.below hb
      replace hv2 := hv2.below hb
      replace hbf := hbf.trans (hb.mono hbf.size)
      clear hb
      clear hv2 hqx hqy
      obtain ⟨go, hgo⟩ : ∃ go, go = gk := ⟨_, rfl⟩
      subst hgo
      go_wp2_with fail
      go_loopg [10] (p + 1 - s.length) (fun gg tv wr => ∃ (j : Nat) (Y : List UInt8), tv = .string ⟨Y.toArray⟩ ∧ Hid (Y = List.replicate j 48 ++ s) ∧ j + gg = p + 1 - s.length ∧ w8 = wr)
      case atStart => exact ⟨0, s, rfl, Lib.hid (by simp), by omega, rfl⟩
      case round =>
        obtain ⟨j, Y, rfl, HY, hj, rfl⟩ := hrel
        have hYl : Y.length = j + s.length := by rw [HY.out, List.length_append, List.length_replicate]
        by_cases hYp : Y.length ≤ p
        case pos =>
          have hYi : ((Y.length : Nat) : Int) ≤ ((p : Nat) : Int) := by omega
          obtain ⟨Z, hZ⟩ : ∃ Z, Z = 48 :: Y := ⟨_, rfl⟩
          have hZ1 : (⟨#[48]⟩ ++ ⟨Y.toArray⟩ : ByteArray) = ⟨Z.toArray⟩ := by rw [hZ]; exact bytes_append [48] Y
          have HZ : Hid (Z = List.replicate (j + 1) 48 ++ s) := Lib.hid (by rw [hZ, HY.out]; rfl)
          clear hZ
          go_wp2_with fail
          go_roundg (gk - 1)
          case measure => omega
          case rel => exact ⟨j + 1, Z, rfl, HZ, by omega, rfl⟩
        case neg =>
          have hYi : ¬ ((Y.length : Nat) : Int) ≤ ((p : Nat) : Int) := by omega
          have HSP : Hid (Y = padTo p (str (dec (litNum q p)))) := Lib.hid (by rw [← HV.out, ← HS.out, HY.out, show j = p + 1 - s.length by omega]; rfl)
          have hS1 : p + 1 ≤ Y.length := by omega
          have hS2 : Y.length ≤ 5000 := by omega
          clear hYl
          by_cases hp0 : 0 < p
          case pos =>
            have hpi : (0 : Int) < ((p : Nat) : Int) := by omega
            obtain ⟨A, hA⟩ : ∃ A, A = Y.take (Y.length - p) := ⟨_, rfl⟩
            obtain ⟨B, hB⟩ : ∃ B, B = Y.drop (Y.length - p) := ⟨_, rfl⟩
            obtain ⟨k, hk9⟩ : ∃ k, k = Y.length - p := ⟨_, rfl⟩
            have hk1 : (Y.length : Int) - (p : Int) = (k : Int) := by omega
            have hk2 : ((k : Nat) : Int) ≤ ((Y.length : Nat) : Int) := by omega
            have hk3 : (0 : Int) ≤ ((k : Nat) : Int) := by omega
            have hkw : IntKind.i64.wrap ((k : Nat) : Int) = ((k : Nat) : Int) := by simp [IntKind.wrap, IntKind.bits, IntKind.signed]; omega
            have hx1 : (⟨Y.toArray⟩ : ByteArray).extract 0 k = ⟨A.toArray⟩ := by rw [bytes_extract, hA, hk9]; simp
            have hx3 : (⟨Y.toArray⟩ : ByteArray).extract k Y.length = ⟨B.toArray⟩ := by rw [bytes_extract, hB, hk9]; simp
            have hlA : A.length ≤ 200000 := by rw [hA, List.length_take]; omega
            have hlB : B.length ≤ 200000 := by rw [hB, List.length_drop]; omega
            obtain ⟨C, hC⟩ : ∃ C, C = A ++ [46] := ⟨_, rfl⟩
            obtain ⟨T, hT⟩ : ∃ T, T = C ++ B := ⟨_, rfl⟩
            have hb1 : (⟨A.toArray⟩ ++ ⟨#[46]⟩ : ByteArray) = ⟨C.toArray⟩ := by rw [hC]; exact bytes_append A [46]
            have hb2 : (⟨C.toArray⟩ ++ ⟨B.toArray⟩ : ByteArray) = ⟨T.toArray⟩ := by rw [hT]; exact bytes_append C B
            have hlC : C.length ≤ 200001 := by rw [hC, List.length_append]; simp; omega
            have hlT : T.length ≤ 400001 := by rw [hT, List.length_append]; omega
            have hg1 : ¬ 9223372036854775807 < A.length + 1 := by omega
            have hg2 : ¬ 9223372036854775807 < C.length + B.length := by omega
            have HPT : Hid (T = ptAt p (padTo p (str (dec (litNum q p))))) := Lib.hid (by rw [← HSP.out]; unfold ptAt; rw [if_pos hp0, hT, hC, hA, hB]; simp)
            clear hA hB hC hT hk9
            go_wp2_with fail
            refine wp_region_seq (S := fun w' => True) [(true, 0), (true, 1), (true, 2), (true, 3), (true, 4), (true, 5), (true, 6), (true, 7), (true, 8), (true, 9), (true, 10), (true, 11), (true, 12), (true, 13), (true, 14)] (by kernel_rfl) (by kernel_rfl) (by kernel_rfl) (by kernel_rfl) (by kernel_rfl) (fun d _ _ _ _ h => by cases d <;> exact h) True.intro (fun _ => ?_)
            simp only [pickOps, List.append_eq, List.cons_append, List.nil_append, List.getElem?_toArray, List.getElem?_cons_succ, List.getElem?_cons_zero]
            have hb : Below w8.heap.size w8 w8.drew := (Below.refl _ _).drew
            generalize w8.drew = w9 at hb ⊢
            replace hbq := hbq.kept hb
            replace hbf := hbf.trans (hb.mono hbf.size)
            clear hb
            repeat (first | (refine seq_take (v := ?_) (by rfl) ?_ ?_; rotate_left; (· intro w hSw; (try dsimp only at hSw); go_simp; all_goals with_reducible rfl); (try simp only [Act.put, List.setIfInBounds_toArray, List.set_cons_zero, List.set_cons_succ])) | (refine seq_leave (by rfl) ?_; (try simp only [Act.put, List.setIfInBounds_toArray, List.set_cons_zero, List.set_cons_succ])))
            refine seq_end ?_
            cases qB
            case false =>
              have eq0 := hbq.c0
              have eq1 := hbq.c1
              have eq2 := hbq.c2
              go_wp2_with fail
              go_ret2
              exact ⟨by rw [HTX.out, ← HPT.out]; rfl, hbf⟩
            case true =>
              have hbp : (⟨#[45]⟩ ++ ⟨T.toArray⟩ : ByteArray) = ⟨(litText q).toArray⟩ := by rw [HTX.out, ← HPT.out]; exact bytes_append [45] T
              have eq0 := hbq.c0
              have eq1 := hbq.c1
              have eq2 := hbq.c2
              go_wp2_with fail
              go_ret2
              exact ⟨rfl, hbf⟩
          case neg =>
            have hpi : ¬ (0 : Int) < ((p : Nat) : Int) := by omega
            have HPT : Hid (Y = ptAt p (padTo p (str (dec (litNum q p))))) := Lib.hid (by rw [← HSP.out]; unfold ptAt; rw [if_neg hp0])
            cases qB
            case false =>
              have eq0 := hbq.c0
              have eq1 := hbq.c1
              have eq2 := hbq.c2
              go_wp2_with fail
              go_ret2
              exact ⟨by rw [HTX.out, ← HPT.out]; rfl, hbf⟩
            case true =>
              have hbp : (⟨#[45]⟩ ++ ⟨Y.toArray⟩ : ByteArray) = ⟨(litText q).toArray⟩ := by rw [HTX.out, ← HPT.out]; exact bytes_append [45] Y
              have eq0 := hbq.c0
              have eq1 := hbq.c1
              have eq2 := hbq.c2
              go_wp2_with fail
              go_ret2
              exact ⟨rfl, hbf⟩

theorem rltext_c (v : Value) (q : Rat) (T : List UInt8) (is : Bool) (c : Int) (w : World) (h : RQIs w v q) (hk : LOk q) (hf : Hid (is = fin q)) (hT : Hid (T = if is = true then litText q else [])) (hc : Hid (c = if is = true then 0 else 14)) : Calls Tryz.prog 15 #[v] w fun e w' => e = .returned (.tuple #[.string ⟨T.toArray⟩, .int .i64 c]) ∧ Below w.heap.size w w' := by
  rw [hT.out, hc.out]
  have hf := hf.out
  cases is
  · exact rltext_no v q w h hk hf.symm
  · exact rltext_yes v q w h hk hf.symm

end Go.Proofs.YtkghahehkeaikaaGreatDoor
