/-
  The document's forms of numbers (2): Top, Under, sign, Below, Above, Exact, Nearest.
-/
import Derived.Test.YtanicapbdigjaaaGreatDoorIeeeG
import Derived.Test.YtanicapbdigjaaaGreatDoorLawX
namespace Go.Proofs.YtanicapbdigjaaaGreatDoor
open Go.RowKit
set_option linter.unusedVariables false
set_option linter.unusedSimpArgs false
attribute [local go_sem] field_nat

theorem wrap_rtop {E F : Nat} (hE2 : 2 ≤ E) (hE : E ≤ 11) (hF : F ≤ 52) : IntKind.u64.wrap (IntKind.u64.wrap (IntKind.u64.wrap (IntKind.u64.wrap (2 ^ E) - 1) * 2 ^ F) - 1) = ((finf E F - 1 : Nat) : Int) := by
  have h1 := finf_pos (E := E) (F := F) (by omega)
  have h2 : finf E F < fsgn E F := finf_lt E F
  have h3 := fsgn_lt hE hF
  rw [wrap_finf hE hF, IntWalk.u64_in _ ⟨by omega, by omega⟩]; omega
theorem rdecode_x (E F b : Nat) (x : Int) (q : Rat) (w : World) (hx : x = b) (hq : Hid (dval' E F b = q)) (hE2 : 2 ≤ E) (hE : E ≤ 11) (hF1 : 1 ≤ F) (hF : F ≤ 52) (hb64 : b < 18446744073709551616) :
    Calls Tryz.prog 42 #[.int .i64 (E : Int), .int .i64 (F : Int), .int .u64 x] w (RQPostC w q (dkind E F b)) := by
  have h := rdecode_any E F b w hE2 hE hF1 hF hb64
  rwa [hq.out, ← hx] at h
theorem dval_self {E F n : Nat} (h : n < finf E F) : dval' E F n = fval E F n := (order_fin (Nat.lt_trans h (finf_lt E F)) h).1.2
theorem half_m {lo hi : Nat} (h : lo < hi) (hh : hi < 9223372036854775808) : IntKind.u64.wrap ((lo : Int) + IntKind.u64.wrap (IntKind.u64.wrap ((hi : Int) - lo) + 1) / 2) = ((lo + (hi - lo + 1) / 2 : Nat) : Int) := by
  rw [IntWalk.u64_in ((hi : Int) - lo) ⟨by omega, by omega⟩, IntWalk.u64_in ((hi : Int) - lo + 1) ⟨by omega, by omega⟩, IntWalk.u64_in _ ⟨by omega, by omega⟩]; omega

set_option maxRecDepth 100000 in
set_option maxHeartbeats 1000000 in
/-- Top. -/
theorem rtop_any (E F : Nat) (w : World) (hE2 : 2 ≤ E) (hE : E ≤ 11) (hF : F ≤ 52) : Calls Tryz.prog 46 #[.int .i64 (E : Int), .int .i64 (F : Int)] w fun e w' => e = .returned (.int .u64 ((finf E F - 1 : Nat) : Int)) ∧ Below w.heap.size w w' := by
  have ht := wrap_rtop hE2 hE hF
  go_enter Tryz.func46, Tryz.ntmps46
  go_wp2_with fail
  go_ret
  exact ⟨ret_one (by first | rfl | exact congrArg _ ht), Below.refl _ _⟩

set_option maxRecDepth 100000 in
set_option maxHeartbeats 1000000 in
/-- sign. -/
theorem rsign_any (E F n : Nat) (w : World) (hE : E ≤ 11) (hF : F ≤ 52) (hn : n < fsgn E F) : Calls Tryz.prog 47 #[.int .i64 (E : Int), .int .i64 (F : Int), .int .u64 (n : Int)] w fun e w' => e = .returned (.int .u64 (dsign E F true n : Int)) ∧ Below w.heap.size w w' := by
  go_enter Tryz.func47, Tryz.ntmps47
  by_cases h0 : n = 0
  case pos =>
    subst h0
    go_wp2_with fail
    go_ret
    exact ⟨ret_one (by simp [dsign]), Below.refl _ _⟩
  have hn0 : ((n : Int) == 0) = false := by rw [beq_eq_false_iff_ne, ne_eq]; omega
  have hs := wrap_fsgn hE hF
  go_wp2_with fail
  go_ret
  exact ⟨ret_one (congrArg _ (or_fsgn hE hF hn (by omega))), Below.refl _ _⟩

set_option maxRecDepth 100000 in
set_option maxHeartbeats 1000000 in
/-- Under. -/
theorem runder_any (E F n k : Nat) (v : Value) (r : Rat) (w : World) (hE2 : 2 ≤ E) (hE : E ≤ 11) (hF1 : 1 ≤ F) (hF : F ≤ 52) (h : RQIs w v r) (hqb : QB r k) (hk : k ≤ 80000) (hr0 : ¬ r < 0) (hu : Under E F r n) :
    Calls Tryz.prog 44 #[.int .i64 (E : Int), .int .i64 (F : Int), v] w fun e w' => e = .returned (.int .u64 (n : Int)) ∧ Below w.heap.size w w' := by
  obtain ⟨qB, qxO, qxL, qxC, qyO, qyL, qyC, rfl, hS, hqx, hqy⟩ := h.form
  have HqS := Lib.hid hS; clear hS
  obtain ⟨w0, hw0⟩ : ∃ w0, w0 = (w.alloc (.cells #[.bool qB, .slice qxO qxL qxC, .slice qyO qyL qyC] 37)) := ⟨_, rfl⟩
  have hbf : Below w.heap.size w w0 := by rw [hw0]; exact ((Below.refl _ w).alloc (Nat.le_refl _) _)
  obtain ⟨pq, hpq⟩ : ∃ p, p = w.heap.size := ⟨_, rfl⟩
  have hbq : Box3 w0 pq (Value.bool qB) (Value.slice qxO qxL qxC) (Value.slice qyO qyL qyC) := by rw [hw0, hpq]; exact ⟨by go_simp, by go_simp, by go_simp, by go_simp, by go_simp, by go_simp⟩
  have HP : Hid (w.heap.size ≤ pq) := Lib.hid (by omega)
  replace h := h.below hbf
  replace hqx := hqx.below hbf
  replace hqy := hqy.below hbf
  have HW := Lib.hid hw0; clear hw0
  go_enter Tryz.func44, Tryz.ntmps44
  go_upto_region 1 with fail
  rw [← HW.out, ← hpq]
  clear hpq HW
  have eq0 := hbq.c0
  have eq1 := hbq.c1
  have eq2 := hbq.c2
  go_wp2_with fail
  refine (rtop_any E F _ hE2 hE hF).mono ?_
  rintro e w1 ⟨rfl, hb⟩
  clear eq0 eq1 eq2
  replace hbq := hbq.kept hb
  replace h := h.below hb
  replace hqx := hqx.below hb
  replace hqy := hqy.below hb
  replace hbf := hbf.trans (hb.mono hbf.size)
  clear hb
  (try go_wp2_with fail)
  (try go_step3)
  (try go_wp2_with fail)
  (try go_step3)
  (try go_wp2_with fail)
  go_loopg [7, 8] (finf E F - 1) (fun gg lov hiv wr => ∃ lo hi : Nat, lov = .int .u64 (lo : Int) ∧ hiv = .int .u64 (hi : Int) ∧ gg = hi - lo ∧ HalfInv E F r lo hi ∧ Box3 wr pq (Value.bool qB) (Value.slice qxO qxL qxC) (Value.slice qyO qyL qyC) ∧ RQIs wr (.agg #[.bool qB, .slice qxO qxL qxC, .slice qyO qyL qyC]) r ∧ Below w.heap.size w wr)
  case atStart => exact ⟨0, _, rfl, rfl, rfl, HalfInv.start (by omega) hr0, hbq, h, hbf⟩
  clear hbq h hbf hqx hqy
  case round =>
    obtain ⟨lo, hi, rfl, rfl, hgg, hinv, hbq, h, hbf⟩ := hrel
    have HINV := Lib.hid hinv
    have hhi := hinv.top
    have hII : finf E F < fsgn E F := finf_lt E F
    have hSS := fsgn_63 hE hF
    have hhi2 : hi < 9223372036854775808 := by omega
    clear hinv hII hSS
    by_cases hlt : lo < hi
    case pos =>
      have hc : decide ((lo : Int) < (hi : Int)) = true := decide_eq_true (by omega)
      obtain ⟨m, hm⟩ : ∃ m, m = lo + (hi - lo + 1) / 2 := ⟨_, rfl⟩
      have HMM := Lib.hid hm
      have hml : lo < m ∧ m ≤ hi := by omega
      have hmI : m < finf E F := by omega
      have hm64 : m < 18446744073709551616 := by omega
      have HV := Lib.hid (dval_self hmI)
      have hqm := fval_qb hE hF hmI
      clear hm
      go_wp2_with fail
      refine (rdecode_x E F m _ (fval E F m) _ (by have := HMM.out; omega) HV hE2 hE hF1 hF hm64).mono ?_
      rintro e w2 hq9
      obtain ⟨vB, vxO, vxL, vxC, vyO, vyL, vyC, rfl, hS, hvx, hvy, hv, hb⟩ := hq9.out
      have HvS := Lib.hid hS; clear hS
      replace hbq := hbq.kept hb
      replace h := h.below hb
      replace hbf := hbf.trans (hb.mono hbf.size)
      clear hb
      obtain ⟨w3, hwE⟩ : ∃ W, W = (w2.alloc (.cells #[.bool vB, .slice vxO vxL vxC, .slice vyO vyL vyC] 37)) := ⟨_, rfl⟩
      have hb : Below w2.heap.size w2 w3 := by rw [hwE]; exact ((Below.refl _ w2).alloc (Nat.le_refl _) _)
      obtain ⟨pv, hpv⟩ : ∃ p, p = w2.heap.size := ⟨_, rfl⟩
      have hbv : Box3 w3 pv (Value.bool vB) (Value.slice vxO vxL vxC) (Value.slice vyO vyL vyC) := by rw [hwE, hpv]; exact ⟨by go_simp, by go_simp, by go_simp, by go_simp, by go_simp, by go_simp⟩
      replace HP : Hid (w.heap.size ≤ pq ∧ pq < pv) := Lib.hid (by have h1 := HP.out; have h9 := hbf.size; have h2q := hbq.lt; omega)
      have HW := Lib.hid hwE; clear hwE
      go_upto_region 5 with fail
      rw [← HW.out, ← hpv]
      clear hpv HW
      replace hbq := hbq.kept hb
      replace h := h.below hb
      replace hvx := hvx.below hb
      replace hvy := hvy.below hb
      replace hv := hv.below hb
      replace hbf := hbf.trans (hb.mono hbf.size)
      clear hb
      have ev0 := hbv.c0
      have ev1 := hbv.c1
      have ev2 := hbv.c2
      have eq0 := hbq.c0
      have eq1 := hbq.c1
      have eq2 := hbq.c2
      go_wp2_with fail
      refine (rqcmp_any _ _ (fval E F m) r 66 k _ hv h hqm hqb (by omega)).mono ?_
      rintro e w4 ⟨rfl, hb⟩
      clear ev0 ev1 ev2 eq0 eq1 eq2
      replace hbq := hbq.kept hb
      replace hbv := hbv.kept hb
      replace h := h.below hb
      replace hvx := hvx.below hb
      replace hvy := hvy.below hb
      replace hv := hv.below hb
      replace hbf := hbf.trans (hb.mono hbf.size)
      clear hb
      by_cases hle : fval E F m ≤ r
      case pos =>
        have hc2 : decide (qcmp (fval E F m) r ≤ 0) = true := decide_eq_true (by have := qcmp_ngt (Rat.not_lt.2 hle); omega)
        go_wp2_with fail
        go_roundg (hi - m)
        case measure => omega
        case rel => exact ⟨m, hi, (by first | rfl | (congr 1; have := HMM.out; omega)), rfl, rfl, HINV.out.up' hml.2 hle, hbq, h, hbf⟩
      case neg =>
        have hgt : r < fval E F m := Rat.not_le.1 hle
        have hc2 : decide (qcmp (fval E F m) r ≤ 0) = false := decide_eq_false (by rw [qcmp_above hgt]; decide)
        go_wp2_with fail
        go_roundg (m - 1 - lo)
        case measure => omega
        case rel => exact ⟨lo, m - 1, rfl, (by first | rfl | (congr 1; have := HMM.out; omega)), rfl, HINV.out.down hml.1 hml.2 hgt, hbq, h, hbf⟩
    case neg =>
      have hc : decide ((lo : Int) < (hi : Int)) = false := decide_eq_false (by omega)
      obtain rfl : lo = n := (HINV.out.done (by omega)).unique hu
      go_wp2_with fail
      go_ret
      exact ⟨rfl, hbf⟩

theorem up_sub {n : Nat} (h : 1 ≤ n) : (n : Int) - 1 = ((n - 1 : Nat) : Int) := by omega
theorem rqcmp_c (va vc : Value) (a c : Rat) (z : Int) (i j : Nat) (w : World) (ha : RQIs w va a) (hc : RQIs w vc c) (hla : QB a i) (hlc : QB c j) (hij : i + j ≤ 90000) (hz : Hid (qcmp a c = z)) :
    Calls Tryz.prog 43 #[va, vc] w fun e w' => e = .returned (.int .i64 z) ∧ Below w.heap.size w w' := by
  have := rqcmp_any va vc a c i j w ha hc hla hlc hij
  rwa [hz.out] at this
theorem rsign_x (E F n : Nat) (x : Int) (w : World) (hx : x = n) (hE : E ≤ 11) (hF : F ≤ 52) (hn : n < fsgn E F) : Calls Tryz.prog 47 #[.int .i64 (E : Int), .int .i64 (F : Int), .int .u64 x] w fun e w' => e = .returned (.int .u64 (dsign E F true n : Int)) ∧ Below w.heap.size w w' := by
  rw [hx]; exact rsign_any E F n w hE hF hn
theorem qabs_nn {r : Rat} (h : ¬ r < 0) : qabs r = r := by unfold qabs; rw [if_neg h]
theorem qabs_ng {r : Rat} (h : r < 0) : qabs r = -r := by unfold qabs; rw [if_pos h]
theorem neg_nn {r : Rat} (h : r < 0) : ¬ -r < 0 := by grind
theorem rb_nn {E F n : Nat} {r : Rat} (h : ¬ r < 0) : fbelow E F r n = (n, true) := by unfold fbelow; rw [if_neg h]
theorem rb_eq {E F n : Nat} {r : Rat} (h : r < 0) (hn : n < finf E F) (he : fval E F n = -r) : fbelow E F r n = (dsign E F true n, true) := by
  have hup : fup E F r n = n := by unfold fup; rw [if_pos (by rw [qabs_ng h]; exact he)]
  unfold fbelow
  rw [if_pos h, hup, if_neg (by omega)]
theorem rb_up {E F n : Nat} {r : Rat} (h : r < 0) (he : ¬ fval E F n = -r) (hn : n + 1 = finf E F) : fbelow E F r n = (0, false) := by
  have hup : fup E F r n = n + 1 := by unfold fup; rw [if_neg (by rw [qabs_ng h]; exact he)]
  unfold fbelow
  rw [if_pos h, hup, if_pos hn]
theorem rb_ne {E F n : Nat} {r : Rat} (h : r < 0) (he : ¬ fval E F n = -r) (hn : ¬ n + 1 = finf E F) : fbelow E F r n = (dsign E F true (n + 1), true) := by
  have hup : fup E F r n = n + 1 := by unfold fup; rw [if_neg (by rw [qabs_ng h]; exact he)]
  unfold fbelow
  rw [if_pos h, hup, if_neg hn]
theorem under_zero {E F n : Nat} (hE : 1 ≤ E) (hu : Under E F 0 n) : n = 0 := by
  have h := under_self (finf_pos (F := F) hE)
  rw [fval_zero] at h
  exact hu.unique h
theorem ra_ng {E F n : Nat} {r : Rat} (h : r < 0) : fabove E F r n = (dsign E F true n, true) := by unfold fabove; rw [if_neg (by grind)]
theorem ra_eq {E F n : Nat} {r : Rat} (hE : 1 ≤ E) (h : ¬ r < 0) (hu : Under E F r n) (he : fval E F n = r) : fabove E F r n = (n, true) := by
  have hn := hu.lt
  have hup : fup E F r n = n := by unfold fup; rw [if_pos (by rw [qabs_nn h]; exact he)]
  unfold fabove
  by_cases h0 : 0 < r
  · rw [if_pos h0, hup, if_neg (by omega)]
  · rw [if_neg h0]
    have : r = 0 := by grind
    rw [this] at hu
    rw [under_zero hE hu]; simp [dsign]
theorem ra_pos {E F n : Nat} {r : Rat} (hE : 1 ≤ E) (h : ¬ r < 0) (hu : Under E F r n) (he : ¬ fval E F n = r) : 0 < r := by
  by_cases h0 : 0 < r
  · exact h0
  · have h1 : r = 0 := by grind
    rw [h1] at hu he
    rw [under_zero hE hu, fval_zero] at he
    exact (he rfl).elim
theorem ra_up {E F n : Nat} {r : Rat} (hE : 1 ≤ E) (h : ¬ r < 0) (hu : Under E F r n) (he : ¬ fval E F n = r) (hn : n + 1 = finf E F) : fabove E F r n = (0, false) := by
  have h0 := ra_pos hE h hu he
  have hup : fup E F r n = n + 1 := by unfold fup; rw [if_neg (by rw [qabs_nn h]; exact he)]
  unfold fabove
  rw [if_pos h0, hup, if_pos hn]
theorem ra_ne {E F n : Nat} {r : Rat} (hE : 1 ≤ E) (h : ¬ r < 0) (hu : Under E F r n) (he : ¬ fval E F n = r) (hn : ¬ n + 1 = finf E F) : fabove E F r n = (n + 1, true) := by
  have h0 := ra_pos hE h hu he
  have hup : fup E F r n = n + 1 := by unfold fup; rw [if_neg (by rw [qabs_nn h]; exact he)]
  unfold fabove
  rw [if_pos h0, hup, if_neg hn]
theorem dval_dsign {E F m : Nat} (hm : m < finf E F) : dval' E F (dsign E F true m) = -(fval E F m) := by
  have hI := finf_lt E F
  have h1 : fsize E F (dsign E F true m) = m := dsign_size true (Nat.lt_trans hm hI)
  rw [(dk_fin (by rw [h1]; exact hm)).2, h1, dsign_neg true (Nat.lt_trans hm hI)]
  by_cases h : 0 < m
  · simp [h]
  · have : m = 0 := by omega
    subst this
    rw [fval_zero]; decide +kernel
theorem rex_no {E F n x : Nat} {r : Rat} (hu : Under E F (qabs r) n) (h : (x, false) = fbelow E F r n) : fexact E F r n = (0, false) := by
  have hn := hu.lt
  unfold fexact
  by_cases he : fval E F n = qabs r
  · exfalso
    by_cases hr : r < 0
    · rw [rb_eq hr hn (by rw [he, qabs_ng hr])] at h
      have := congrArg Prod.snd h
      simp at this
    · rw [rb_nn hr] at h
      have := congrArg Prod.snd h
      simp at this
  · rw [if_neg he]
theorem rex_yes {E F n x : Nat} {r : Rat} (hu : Under E F (qabs r) n) (h : (x, true) = fbelow E F r n) : fexact E F r n = if dval' E F x = r then (x, true) else (0, false) := by
  have hn := hu.lt
  unfold fexact
  by_cases hr : r < 0
  · rw [qabs_ng hr, decide_eq_true hr]
    by_cases he : fval E F n = -r
    · rw [rb_eq hr hn he] at h
      obtain rfl : x = dsign E F true n := congrArg Prod.fst h
      rw [if_pos he, if_pos (by rw [dval_dsign hn, he]; grind)]
    · rw [if_neg he]
      by_cases hm : n + 1 = finf E F
      · rw [rb_up hr he hm] at h
        have := congrArg Prod.snd h
        simp at this
      · rw [rb_ne hr he hm] at h
        obtain rfl : x = dsign E F true (n + 1) := congrArg Prod.fst h
        have hm2 : n + 1 < finf E F := by omega
        have hx := hu.next hm2
        rw [qabs_ng hr] at hx
        rw [if_neg (by rw [dval_dsign hm2]; grind)]
  · rw [qabs_nn hr, decide_eq_false hr]
    rw [rb_nn hr] at h
    obtain rfl : x = n := congrArg Prod.fst h
    rw [dval_self hn]
    by_cases he : fval E F x = r
    · rw [if_pos he, if_pos he]; simp [dsign]
    · rw [if_neg he, if_neg he]
theorem near_c {E F n : Nat} {r b : Rat} {c : Int} (hr : ¬ r < 0) (hb : b = fval E F n + fstep E F n) (hc : qcmp (r + -(fval E F n)) (b + -r) = c) : fmore E F r n = decide (c = 1 ∨ c = 0 ∧ n % 2 = 1) := by
  have e : qcmp (qabs r - fval E F n) (fstep E F n / 2) = c := by
    rw [← hc, hb, qabs_nn hr]
    generalize fval E F n = a
    generalize fstep E F n = s
    unfold qcmp
    have h1 : (r - a < s / 2) ↔ (r + -a < a + s + -r) := by grind
    have h2 : (s / 2 < r - a) ↔ (a + s + -r < r + -a) := by grind
    simp only [h1, h2]
  unfold fmore; rw [e]
theorem fnear_nn {E F n m : Nat} {r : Rat} (hr : ¬ r < 0) (hm : m = fnear E F r n) : m = if fmore E F r n then n + 1 else n := by
  unfold fnear at hm; rw [decide_eq_false hr] at hm; rw [hm]; simp [dsign]
theorem fmore_neg {E F n : Nat} {r : Rat} : fmore E F (-r) n = fmore E F r n := by unfold fmore; rw [qabs_neg]

set_option maxRecDepth 100000 in
set_option maxHeartbeats 1000000 in
/-- Below. -/
theorem rbelow_any (E F n k : Nat) (v : Value) (r : Rat) (w : World) (x9 : Nat) (y9 : Bool) (HXY : Hid ((x9, y9) = fbelow E F r n)) (hE2 : 2 ≤ E) (hE : E ≤ 11) (hF1 : 1 ≤ F) (hF : F ≤ 52) (h : RQIs w v r) (hqb : QB r k) (hk : k ≤ 80000) (hu : Under E F (qabs r) n) :
    Calls Tryz.prog 14 #[.int .i64 (E : Int), .int .i64 (F : Int), v] w fun e w' => e = .returned (.tuple #[.int .u64 (x9 : Int), .bool y9]) ∧ Below w.heap.size w w' := by
  obtain ⟨qB, qxO, qxL, qxC, qyO, qyL, qyC, rfl, hS, hqx, hqy⟩ := h.form
  have HqS := Lib.hid hS; clear hS
  clear hqx hqy
  obtain ⟨w0, hw0⟩ : ∃ w0, w0 = (w.alloc (.cells #[.bool qB, .slice qxO qxL qxC, .slice qyO qyL qyC] 37)) := ⟨_, rfl⟩
  have hbf : Below w.heap.size w w0 := by rw [hw0]; exact ((Below.refl _ w).alloc (Nat.le_refl _) _)
  obtain ⟨pq, hpq⟩ : ∃ p, p = w.heap.size := ⟨_, rfl⟩
  have hbq : Box3 w0 pq (Value.bool qB) (Value.slice qxO qxL qxC) (Value.slice qyO qyL qyC) := by rw [hw0, hpq]; exact ⟨by go_simp, by go_simp, by go_simp, by go_simp, by go_simp, by go_simp⟩
  have HP : Hid (w.heap.size ≤ pq) := Lib.hid (by omega)
  replace h := h.below hbf
  have HW := Lib.hid hw0; clear hw0
  go_enter Tryz.func14, Tryz.ntmps14
  go_upto_region 1 with fail
  rw [← HW.out, ← hpq]
  clear hpq HW
  have hnI := hu.lt
  have hIl : finf E F < fsgn E F := finf_lt E F
  have hSl := fsgn_63 hE hF
  have hn64 : n < 18446744073709551616 := by omega
  have hqn := fval_qb hE hF hnI
  have HV := Lib.hid (dval_self hnI)
  have hnq := hqb.neg
  by_cases hr0 : r < 0
  case neg =>
    obtain rfl : qB = false := by rw [HqS.out]; exact decide_eq_false hr0
    have hu2 : Under E F r n := by rw [← qabs_nn hr0]; exact hu
    obtain ⟨rfl, rfl⟩ : n = x9 ∧ true = y9 := by have := HXY.out; rw [rb_nn hr0] at this; exact ⟨(congrArg Prod.fst this).symm, (congrArg Prod.snd this).symm⟩
    have eq0 := hbq.c0
    have eq1 := hbq.c1
    have eq2 := hbq.c2
    go_wp2_with fail
    refine (runder_any E F n k _ r _ hE2 hE hF1 hF h hqb hk hr0 hu2).mono ?_
    rintro e w1 ⟨rfl, hb⟩
    clear eq0 eq1 eq2
    replace hbq := hbq.kept hb
    replace h := h.below hb
    replace hbf := hbf.trans (hb.mono hbf.size)
    clear hb
    go_wp2_with fail
    go_ret2
    exact ⟨ret_two rfl rfl, hbf⟩
  case pos =>
    obtain rfl : qB = true := by rw [HqS.out]; exact decide_eq_true hr0
    have hu2 : Under E F (-r) n := by rw [← qabs_ng hr0]; exact hu
    have eq0 := hbq.c0
    have eq1 := hbq.c1
    have eq2 := hbq.c2
    go_wp2_with fail
    refine (rqminus_any _ r k _ h hqb (by omega)).mono ?_
    rintro e w1 hq9
    obtain ⟨mB, mxO, mxL, mxC, myO, myL, myC, rfl, hS, hmx, hmy, hm, hb⟩ := hq9.out
    have HmS := Lib.hid hS; clear hS
    clear eq0 eq1 eq2
    replace hbq := hbq.kept hb
    replace h := h.below hb
    replace hbf := hbf.trans (hb.mono hbf.size)
    clear hb
    go_wp2_with fail
    refine (runder_any E F n k _ (-r) _ hE2 hE hF1 hF hm hnq hk (neg_nn hr0) hu2).mono ?_
    rintro e w2 ⟨rfl, hb⟩
    replace hbq := hbq.kept hb
    replace h := h.below hb
    replace hmx := hmx.below hb
    replace hmy := hmy.below hb
    replace hm := hm.below hb
    replace hbf := hbf.trans (hb.mono hbf.size)
    clear hb
    go_wp2_with fail
    refine (rdecode_x E F n _ (fval E F n) _ rfl HV hE2 hE hF1 hF hn64).mono ?_
    rintro e w3 hq9
    obtain ⟨vB, vxO, vxL, vxC, vyO, vyL, vyC, rfl, hS, hvx, hvy, hv, hb⟩ := hq9.out
    have HvS := Lib.hid hS; clear hS
    replace hbq := hbq.kept hb
    replace h := h.below hb
    replace hmx := hmx.below hb
    replace hmy := hmy.below hb
    replace hm := hm.below hb
    replace hbf := hbf.trans (hb.mono hbf.size)
    clear hb
    obtain ⟨w4, hwE⟩ : ∃ W, W = (w3.alloc (.cells #[.bool vB, .slice vxO vxL vxC, .slice vyO vyL vyC] 37)) := ⟨_, rfl⟩
    have hb : Below w3.heap.size w3 w4 := by rw [hwE]; exact ((Below.refl _ w3).alloc (Nat.le_refl _) _)
    obtain ⟨pv, hpv⟩ : ∃ p, p = w3.heap.size := ⟨_, rfl⟩
    have hbv : Box3 w4 pv (Value.bool vB) (Value.slice vxO vxL vxC) (Value.slice vyO vyL vyC) := by rw [hwE, hpv]; exact ⟨by go_simp, by go_simp, by go_simp, by go_simp, by go_simp, by go_simp⟩
    replace HP : Hid (w.heap.size ≤ pq ∧ pq < pv) := Lib.hid (by have h1 := HP.out; have h9 := hbf.size; have h2q := hbq.lt; omega)
    have HW := Lib.hid hwE; clear hwE
    go_upto_region 5 with fail
    rw [← HW.out, ← hpv]
    clear hpv HW
    replace hbq := hbq.kept hb
    replace h := h.below hb
    replace hmx := hmx.below hb
    replace hmy := hmy.below hb
    replace hm := hm.below hb
    replace hvx := hvx.below hb
    replace hvy := hvy.below hb
    replace hv := hv.below hb
    replace hbf := hbf.trans (hb.mono hbf.size)
    clear hb
    obtain ⟨c9, hc9⟩ : ∃ c, qcmp (fval E F n) (-r) = c := ⟨_, rfl⟩
    have hcs : (c9 == 0) = decide (fval E F n = -r) := by rw [← hc9]; exact qcmp_same _ _
    have HC := Lib.hid hc9
    clear hc9
    refine wp_region_seqQ (S := fun w' => Box3 w' pv (Value.bool vB) (Value.slice vxO vxL vxC) (Value.slice vyO vyL vyC) ∧ Box3 w' pq (Value.bool true) (Value.slice qxO qxL qxC) (Value.slice qyO qyL qyC)) [(0, 512, some 30), (0, 32, some 31), (2, 2147483648, some 32), (5, 5368709120, some 33), (8, 8589934592, some 34)] [(true, 0), (true, 1), (false, 2), (false, 3), (true, 4)] (by kernel_rfl) (by kernel_rfl) (by kernel_rfl) (by kernel_rfl) (by kernel_rfl) (by kernel_rfl) (fun d _ _ _ _ h => by cases d <;> exact h) ⟨hbv.drew, hbq.drew⟩ (fun _ => ?_)
    simp only [pickOps, List.append_eq, List.cons_append, List.nil_append, List.getElem?_toArray, List.getElem?_cons_succ, List.getElem?_cons_zero]
    have hb : Below w4.heap.size w4 w4.drew := (Below.refl _ _).drew
    generalize w4.drew = w5 at hb ⊢
    replace hbq := hbq.kept hb
    replace hbv := hbv.kept hb
    replace h := h.below hb
    replace hmx := hmx.below hb
    replace hmy := hmy.below hb
    replace hm := hm.below hb
    replace hvx := hvx.below hb
    replace hvy := hvy.below hb
    replace hv := hv.below hb
    replace hbf := hbf.trans (hb.mono hbf.size)
    clear hb
    repeat (first | (refine seq_take (v := ?_) (by rfl) ?_ ?_; rotate_left; (· intro w hSw; (try dsimp only at hSw); obtain ⟨⟨ev0, ev1, ev2, _, _, _⟩, ⟨eq0, eq1, eq2, _, _, _⟩⟩ := hSw; go_simp; all_goals with_reducible rfl); (try simp only [Act.put, List.setIfInBounds_toArray, List.set_cons_zero, List.set_cons_succ])) | (refine seq_leave (by rfl) ?_; (try simp only [Act.put, List.setIfInBounds_toArray, List.set_cons_zero, List.set_cons_succ])))
    refine seq_step (by rfl) (fun K hK => ?_)
    go_simp
    go_at_call 45
    (with_reducible refine (rqminus_any _ r k _ h hqb (by omega)).mono ?_)
    rintro e w6 hq9
    obtain ⟨zB, zxO, zxL, zxC, zyO, zyL, zyC, rfl, hS, hzx, hzy, hz, hb⟩ := hq9.out
    have HzS := Lib.hid hS; clear hS
    replace hbq := hbq.kept hb
    replace hbv := hbv.kept hb
    replace h := h.below hb
    replace hmx := hmx.below hb
    replace hmy := hmy.below hb
    replace hm := hm.below hb
    replace hvx := hvx.below hb
    replace hvy := hvy.below hb
    replace hv := hv.below hb
    replace hbf := hbf.trans (hb.mono hbf.size)
    clear hb
    first | refine hK.out _ _ ⟨hbv, hbq⟩ (fun _ => ?_) | (go_wp2_with fail; refine hK.out _ _ ⟨hbv, hbq⟩ (fun _ => ?_))
    clear hK K
    (try simp only [Act.put, List.setIfInBounds_toArray, List.set_cons_zero, List.set_cons_succ])
    refine seq_step (by rfl) (fun K hK => ?_)
    go_simp
    go_at_call 43
    (with_reducible refine (rqcmp_c _ _ (fval E F n) (-r) c9 66 k _ hv hz hqn hnq (by omega) HC).mono ?_)
    rintro e w7 ⟨rfl, hb⟩
    replace hbq := hbq.kept hb
    replace hbv := hbv.kept hb
    replace h := h.below hb
    replace hmx := hmx.below hb
    replace hmy := hmy.below hb
    replace hm := hm.below hb
    replace hvx := hvx.below hb
    replace hvy := hvy.below hb
    replace hv := hv.below hb
    replace hzx := hzx.below hb
    replace hzy := hzy.below hb
    replace hz := hz.below hb
    replace hbf := hbf.trans (hb.mono hbf.size)
    clear hb
    first | refine hK.out _ _ ⟨hbv, hbq⟩ (fun _ => ?_) | (go_wp2_with fail; refine hK.out _ _ ⟨hbv, hbq⟩ (fun _ => ?_))
    clear hK K
    (try simp only [Act.put, List.setIfInBounds_toArray, List.set_cons_zero, List.set_cons_succ])
    repeat (first | (refine seq_take (v := ?_) (by rfl) ?_ ?_; rotate_left; (· intro w hSw; (try dsimp only at hSw); obtain ⟨⟨ev0, ev1, ev2, _, _, _⟩, ⟨eq0, eq1, eq2, _, _, _⟩⟩ := hSw; go_simp; all_goals with_reducible rfl); (try simp only [Act.put, List.setIfInBounds_toArray, List.set_cons_zero, List.set_cons_succ])) | (refine seq_leave (by rfl) ?_; (try simp only [Act.put, List.setIfInBounds_toArray, List.set_cons_zero, List.set_cons_succ])))
    refine seq_end ?_
    by_cases he : fval E F n = -r
    case pos =>
      rw [decide_eq_true he] at hcs
      have hcs2 : (c9 != 0) = false := by rw [bne, hcs]; rfl
      obtain ⟨rfl, rfl⟩ : dsign E F true n = x9 ∧ true = y9 := by have := HXY.out; rw [rb_eq hr0 hnI he] at this; exact ⟨(congrArg Prod.fst this).symm, (congrArg Prod.snd this).symm⟩
      go_wp2_with fail
      refine (rsign_any E F n _ hE hF (by omega)).mono ?_
      rintro e w8 ⟨rfl, hb⟩
      replace hbq := hbq.kept hb
      replace hbv := hbv.kept hb
      replace h := h.below hb
      replace hmx := hmx.below hb
      replace hmy := hmy.below hb
      replace hm := hm.below hb
      replace hvx := hvx.below hb
      replace hvy := hvy.below hb
      replace hv := hv.below hb
      replace hzx := hzx.below hb
      replace hzy := hzy.below hb
      replace hz := hz.below hb
      replace hbf := hbf.trans (hb.mono hbf.size)
      clear hb
      go_wp2_with fail
      go_ret2
      exact ⟨ret_two rfl rfl, hbf⟩
    case neg =>
      rw [decide_eq_false he] at hcs
      have hcs2 : (c9 != 0) = true := by rw [bne, hcs]; rfl
      go_wp2_with fail
      refine (rtop_any E F _ hE2 hE hF).mono ?_
      rintro e w8 ⟨rfl, hb⟩
      replace hbq := hbq.kept hb
      replace hbv := hbv.kept hb
      replace h := h.below hb
      replace hmx := hmx.below hb
      replace hmy := hmy.below hb
      replace hm := hm.below hb
      replace hvx := hvx.below hb
      replace hvy := hvy.below hb
      replace hv := hv.below hb
      replace hzx := hzx.below hb
      replace hzy := hzy.below hb
      replace hz := hz.below hb
      replace hbf := hbf.trans (hb.mono hbf.size)
      clear hb
      by_cases ht9 : n + 1 = finf E F
      case pos =>
        have ht : ((n : Int) == ((finf E F - 1 : Nat) : Int)) = true := by rw [beq_iff_eq]; omega
        obtain ⟨rfl, rfl⟩ : 0 = x9 ∧ false = y9 := by have := HXY.out; rw [rb_up hr0 he ht9] at this; exact ⟨(congrArg Prod.fst this).symm, (congrArg Prod.snd this).symm⟩
        go_wp2_with fail
        go_ret2
        exact ⟨ret_two rfl rfl, hbf⟩
      case neg =>
        have ht : ((n : Int) == ((finf E F - 1 : Nat) : Int)) = false := by rw [beq_eq_false_iff_ne, ne_eq]; omega
        obtain ⟨rfl, rfl⟩ : dsign E F true (n + 1) = x9 ∧ true = y9 := by have := HXY.out; rw [rb_ne hr0 he ht9] at this; exact ⟨(congrArg Prod.fst this).symm, (congrArg Prod.snd this).symm⟩
        go_wp2_with fail
        refine (rsign_x E F (n + 1) _ _ (by omega) hE hF (by omega)).mono ?_
        rintro e w9 ⟨rfl, hb⟩
        replace hbq := hbq.kept hb
        replace hbv := hbv.kept hb
        replace h := h.below hb
        replace hmx := hmx.below hb
        replace hmy := hmy.below hb
        replace hm := hm.below hb
        replace hvx := hvx.below hb
        replace hvy := hvy.below hb
        replace hv := hv.below hb
        replace hzx := hzx.below hb
        replace hzy := hzy.below hb
        replace hz := hz.below hb
        replace hbf := hbf.trans (hb.mono hbf.size)
        clear hb
        go_wp2_with fail
        go_ret2
        exact ⟨ret_two rfl rfl, hbf⟩

set_option maxRecDepth 100000 in
set_option maxHeartbeats 1000000 in
/-- Above. -/
theorem rabove_any (E F n k : Nat) (v : Value) (r : Rat) (w : World) (x9 : Nat) (y9 : Bool) (HXY : Hid ((x9, y9) = fabove E F r n)) (hE2 : 2 ≤ E) (hE : E ≤ 11) (hF1 : 1 ≤ F) (hF : F ≤ 52) (h : RQIs w v r) (hqb : QB r k) (hk : k ≤ 80000) (hu : Under E F (qabs r) n) :
    Calls Tryz.prog 15 #[.int .i64 (E : Int), .int .i64 (F : Int), v] w fun e w' => e = .returned (.tuple #[.int .u64 (x9 : Int), .bool y9]) ∧ Below w.heap.size w w' := by
  obtain ⟨qB, qxO, qxL, qxC, qyO, qyL, qyC, rfl, hS, hqx, hqy⟩ := h.form
  have HqS := Lib.hid hS; clear hS
  clear hqx hqy
  obtain ⟨w0, hw0⟩ : ∃ w0, w0 = (w.alloc (.cells #[.bool qB, .slice qxO qxL qxC, .slice qyO qyL qyC] 37)) := ⟨_, rfl⟩
  have hbf : Below w.heap.size w w0 := by rw [hw0]; exact ((Below.refl _ w).alloc (Nat.le_refl _) _)
  obtain ⟨pq, hpq⟩ : ∃ p, p = w.heap.size := ⟨_, rfl⟩
  have hbq : Box3 w0 pq (Value.bool qB) (Value.slice qxO qxL qxC) (Value.slice qyO qyL qyC) := by rw [hw0, hpq]; exact ⟨by go_simp, by go_simp, by go_simp, by go_simp, by go_simp, by go_simp⟩
  have HP : Hid (w.heap.size ≤ pq) := Lib.hid (by omega)
  replace h := h.below hbf
  have HW := Lib.hid hw0; clear hw0
  go_enter Tryz.func15, Tryz.ntmps15
  go_upto_region 1 with fail
  rw [← HW.out, ← hpq]
  clear hpq HW
  have hnI := hu.lt
  have hIl : finf E F < fsgn E F := finf_lt E F
  have hSl := fsgn_63 hE hF
  have hn64 : n < 18446744073709551616 := by omega
  have hqn := fval_qb hE hF hnI
  have HV := Lib.hid (dval_self hnI)
  have hnq := hqb.neg
  by_cases hr0 : r < 0
  case pos =>
    obtain rfl : qB = true := by rw [HqS.out]; exact decide_eq_true hr0
    have hu2 : Under E F (-r) n := by rw [← qabs_ng hr0]; exact hu
    obtain ⟨rfl, rfl⟩ : dsign E F true n = x9 ∧ true = y9 := by have := HXY.out; rw [ra_ng hr0] at this; exact ⟨(congrArg Prod.fst this).symm, (congrArg Prod.snd this).symm⟩
    have eq0 := hbq.c0
    have eq1 := hbq.c1
    have eq2 := hbq.c2
    go_wp2_with fail
    refine (rqminus_any _ r k _ h hqb (by omega)).mono ?_
    rintro e w1 hq9
    obtain ⟨mB, mxO, mxL, mxC, myO, myL, myC, rfl, hS, hmx, hmy, hm, hb⟩ := hq9.out
    have HmS := Lib.hid hS; clear hS
    clear eq0 eq1 eq2
    replace hbq := hbq.kept hb
    replace h := h.below hb
    replace hbf := hbf.trans (hb.mono hbf.size)
    clear hb
    go_wp2_with fail
    refine (runder_any E F n k _ (-r) _ hE2 hE hF1 hF hm hnq hk (neg_nn hr0) hu2).mono ?_
    rintro e w2 ⟨rfl, hb⟩
    replace hbq := hbq.kept hb
    replace h := h.below hb
    replace hmx := hmx.below hb
    replace hmy := hmy.below hb
    replace hm := hm.below hb
    replace hbf := hbf.trans (hb.mono hbf.size)
    clear hb
    go_wp2_with fail
    refine (rsign_any E F n _ hE hF (by omega)).mono ?_
    rintro e w3 ⟨rfl, hb⟩
    replace hbq := hbq.kept hb
    replace h := h.below hb
    replace hmx := hmx.below hb
    replace hmy := hmy.below hb
    replace hm := hm.below hb
    replace hbf := hbf.trans (hb.mono hbf.size)
    clear hb
    go_wp2_with fail
    go_ret2
    exact ⟨ret_two rfl rfl, hbf⟩
  case neg =>
    obtain rfl : qB = false := by rw [HqS.out]; exact decide_eq_false hr0
    have hu2 : Under E F r n := by rw [← qabs_nn hr0]; exact hu
    have eq0 := hbq.c0
    have eq1 := hbq.c1
    have eq2 := hbq.c2
    go_wp2_with fail
    refine (runder_any E F n k _ r _ hE2 hE hF1 hF h hqb hk hr0 hu2).mono ?_
    rintro e w1 ⟨rfl, hb⟩
    clear eq0 eq1 eq2
    replace hbq := hbq.kept hb
    replace h := h.below hb
    replace hbf := hbf.trans (hb.mono hbf.size)
    clear hb
    go_wp2_with fail
    refine (rdecode_x E F n _ (fval E F n) _ rfl HV hE2 hE hF1 hF hn64).mono ?_
    rintro e w2 hq9
    obtain ⟨vB, vxO, vxL, vxC, vyO, vyL, vyC, rfl, hS, hvx, hvy, hv, hb⟩ := hq9.out
    have HvS := Lib.hid hS; clear hS
    replace hbq := hbq.kept hb
    replace h := h.below hb
    replace hbf := hbf.trans (hb.mono hbf.size)
    clear hb
    obtain ⟨w3, hwE⟩ : ∃ W, W = (w2.alloc (.cells #[.bool vB, .slice vxO vxL vxC, .slice vyO vyL vyC] 37)) := ⟨_, rfl⟩
    have hb : Below w2.heap.size w2 w3 := by rw [hwE]; exact ((Below.refl _ w2).alloc (Nat.le_refl _) _)
    obtain ⟨pv, hpv⟩ : ∃ p, p = w2.heap.size := ⟨_, rfl⟩
    have hbv : Box3 w3 pv (Value.bool vB) (Value.slice vxO vxL vxC) (Value.slice vyO vyL vyC) := by rw [hwE, hpv]; exact ⟨by go_simp, by go_simp, by go_simp, by go_simp, by go_simp, by go_simp⟩
    replace HP : Hid (w.heap.size ≤ pq ∧ pq < pv) := Lib.hid (by have h1 := HP.out; have h9 := hbf.size; have h2q := hbq.lt; omega)
    have HW := Lib.hid hwE; clear hwE
    go_upto_region 5 with fail
    rw [← HW.out, ← hpv]
    clear hpv HW
    replace hbq := hbq.kept hb
    replace h := h.below hb
    replace hvx := hvx.below hb
    replace hvy := hvy.below hb
    replace hv := hv.below hb
    replace hbf := hbf.trans (hb.mono hbf.size)
    clear hb
    obtain ⟨c9, hc9⟩ : ∃ c, qcmp (fval E F n) (r) = c := ⟨_, rfl⟩
    have hcs : (c9 == 0) = decide (fval E F n = r) := by rw [← hc9]; exact qcmp_same _ _
    have HC := Lib.hid hc9
    clear hc9
    have ev0 := hbv.c0
    have ev1 := hbv.c1
    have ev2 := hbv.c2
    have eq0 := hbq.c0
    have eq1 := hbq.c1
    have eq2 := hbq.c2
    go_wp2_with fail
    refine (rqcmp_c _ _ (fval E F n) r c9 66 k _ hv h hqn hqb (by omega) HC).mono ?_
    rintro e w4 ⟨rfl, hb⟩
    clear ev0 ev1 ev2 eq0 eq1 eq2
    replace hbq := hbq.kept hb
    replace hbv := hbv.kept hb
    replace h := h.below hb
    replace hvx := hvx.below hb
    replace hvy := hvy.below hb
    replace hv := hv.below hb
    replace hbf := hbf.trans (hb.mono hbf.size)
    clear hb
    by_cases he : fval E F n = r
    case pos =>
      rw [decide_eq_true he] at hcs
      have hcs2 : (c9 != 0) = false := by rw [bne, hcs]; rfl
      obtain ⟨rfl, rfl⟩ : n = x9 ∧ true = y9 := by have := HXY.out; rw [ra_eq (by omega) hr0 hu2 he] at this; exact ⟨(congrArg Prod.fst this).symm, (congrArg Prod.snd this).symm⟩
      go_wp2_with fail
      go_ret2
      exact ⟨ret_two rfl rfl, hbf⟩
    case neg =>
      rw [decide_eq_false he] at hcs
      have hcs2 : (c9 != 0) = true := by rw [bne, hcs]; rfl
      go_wp2_with fail
      refine (rtop_any E F _ hE2 hE hF).mono ?_
      rintro e w5 ⟨rfl, hb⟩
      replace hbq := hbq.kept hb
      replace hbv := hbv.kept hb
      replace h := h.below hb
      replace hvx := hvx.below hb
      replace hvy := hvy.below hb
      replace hv := hv.below hb
      replace hbf := hbf.trans (hb.mono hbf.size)
      clear hb
      by_cases ht9 : n + 1 = finf E F
      case pos =>
        have ht : ((n : Int) == ((finf E F - 1 : Nat) : Int)) = true := by rw [beq_iff_eq]; omega
        obtain ⟨rfl, rfl⟩ : 0 = x9 ∧ false = y9 := by have := HXY.out; rw [ra_up (by omega) hr0 hu2 he ht9] at this; exact ⟨(congrArg Prod.fst this).symm, (congrArg Prod.snd this).symm⟩
        go_wp2_with fail
        go_ret2
        exact ⟨ret_two rfl rfl, hbf⟩
      case neg =>
        have ht : ((n : Int) == ((finf E F - 1 : Nat) : Int)) = false := by rw [beq_eq_false_iff_ne, ne_eq]; omega
        obtain ⟨rfl, rfl⟩ : n + 1 = x9 ∧ true = y9 := by have := HXY.out; rw [ra_ne (by omega) hr0 hu2 he ht9] at this; exact ⟨(congrArg Prod.fst this).symm, (congrArg Prod.snd this).symm⟩
        go_wp2_with fail
        go_ret2
        exact ⟨ret_two (by first | rfl | (congr 1; omega)) rfl, hbf⟩

theorem dval_qb9 {E F p : Nat} (hE : E ≤ 11) (hF : F ≤ 52) : QB (dval' E F p) 66 := by
  rcases Nat.lt_trichotomy (fsize E F p) (finf E F) with h1 | h1 | h1
  · rw [(dk_fin h1).2]
    cases fneg E F p
    · exact fval_qb hE hF h1
    · exact (fval_qb hE hF h1).neg
  · rw [(dk_inf h1).2]; exact QB.zero _ (by decide)
  · rw [(dk_nan h1).2]; exact QB.zero _ (by decide)

set_option maxRecDepth 100000 in
set_option maxHeartbeats 1000000 in
/-- Exact. -/
theorem rexact_any (E F n k : Nat) (v : Value) (r : Rat) (w : World) (x9 : Nat) (y9 : Bool) (HXY : Hid ((x9, y9) = fexact E F r n)) (hE2 : 2 ≤ E) (hE : E ≤ 11) (hF1 : 1 ≤ F) (hF : F ≤ 52) (h : RQIs w v r) (hqb : QB r k) (hk : k ≤ 80000) (hu : Under E F (qabs r) n) :
    Calls Tryz.prog 13 #[.int .i64 (E : Int), .int .i64 (F : Int), v] w fun e w' => e = .returned (.tuple #[.int .u64 (x9 : Int), .bool y9]) ∧ Below w.heap.size w w' := by
  obtain ⟨qB, qxO, qxL, qxC, qyO, qyL, qyC, rfl, hS, hqx, hqy⟩ := h.form
  have HqS := Lib.hid hS; clear hS
  clear hqx hqy
  obtain ⟨w0, hw0⟩ : ∃ w0, w0 = (w.alloc (.cells #[.bool qB, .slice qxO qxL qxC, .slice qyO qyL qyC] 37)) := ⟨_, rfl⟩
  have hbf : Below w.heap.size w w0 := by rw [hw0]; exact ((Below.refl _ w).alloc (Nat.le_refl _) _)
  obtain ⟨pq, hpq⟩ : ∃ p, p = w.heap.size := ⟨_, rfl⟩
  have hbq : Box3 w0 pq (Value.bool qB) (Value.slice qxO qxL qxC) (Value.slice qyO qyL qyC) := by rw [hw0, hpq]; exact ⟨by go_simp, by go_simp, by go_simp, by go_simp, by go_simp, by go_simp⟩
  have HP : Hid (w.heap.size ≤ pq) := Lib.hid (by omega)
  replace h := h.below hbf
  have HW := Lib.hid hw0; clear hw0
  go_enter Tryz.func13, Tryz.ntmps13
  go_upto_region 1 with fail
  rw [← HW.out, ← hpq]
  clear hpq HW
  obtain ⟨x8, y8, HXY8⟩ : ∃ (a : Nat) (x : Bool), Hid ((a, x) = fbelow E F r n) := ⟨(fbelow E F r n).1, (fbelow E F r n).2, Lib.hid rfl⟩
  have hx64 : x8 < 18446744073709551616 := by have h := below_lt (r := r) hE hF hu.lt; rw [← HXY8.out] at h; exact h
  have hqx8 := dval_qb9 (E := E) (F := F) (p := x8) hE hF
  have eq0 := hbq.c0
  have eq1 := hbq.c1
  have eq2 := hbq.c2
  go_wp2_with fail
  refine (rbelow_any E F n k _ r _ x8 y8 HXY8 hE2 hE hF1 hF h hqb hk hu).mono ?_
  rintro e w1 ⟨rfl, hb⟩
  clear eq0 eq1 eq2
  replace hbq := hbq.kept hb
  replace h := h.below hb
  replace hbf := hbf.trans (hb.mono hbf.size)
  clear hb
  go_wp2_with fail
  refine (rdecode_any E F x8 _ hE2 hE hF1 hF hx64).mono ?_
  rintro e w2 hq9
  obtain ⟨vB, vxO, vxL, vxC, vyO, vyL, vyC, rfl, hS, hvx, hvy, hv, hb⟩ := hq9.out
  have HvS := Lib.hid hS; clear hS
  replace hbq := hbq.kept hb
  replace h := h.below hb
  replace hbf := hbf.trans (hb.mono hbf.size)
  clear hb
  obtain ⟨w3, hwE⟩ : ∃ W, W = (w2.alloc (.cells #[.bool vB, .slice vxO vxL vxC, .slice vyO vyL vyC] 37)) := ⟨_, rfl⟩
  have hb : Below w2.heap.size w2 w3 := by rw [hwE]; exact ((Below.refl _ w2).alloc (Nat.le_refl _) _)
  obtain ⟨pv, hpv⟩ : ∃ p, p = w2.heap.size := ⟨_, rfl⟩
  have hbv : Box3 w3 pv (Value.bool vB) (Value.slice vxO vxL vxC) (Value.slice vyO vyL vyC) := by rw [hwE, hpv]; exact ⟨by go_simp, by go_simp, by go_simp, by go_simp, by go_simp, by go_simp⟩
  replace HP : Hid (w.heap.size ≤ pq ∧ pq < pv) := Lib.hid (by have h1 := HP.out; have h9 := hbf.size; have h2q := hbq.lt; omega)
  have HW := Lib.hid hwE; clear hwE
  go_upto_region 3 with fail
  rw [← HW.out, ← hpv]
  clear hpv HW
  replace hbq := hbq.kept hb
  replace h := h.below hb
  replace hvx := hvx.below hb
  replace hvy := hvy.below hb
  replace hv := hv.below hb
  replace hbf := hbf.trans (hb.mono hbf.size)
  clear hb
  cases y8
  case false =>
    obtain ⟨rfl, rfl⟩ : 0 = x9 ∧ false = y9 := by have := HXY.out; rw [rex_no hu HXY8.out] at this; exact ⟨(congrArg Prod.fst this).symm, (congrArg Prod.snd this).symm⟩
    go_wp2_with fail
    go_ret2
    exact ⟨ret_two rfl rfl, hbf⟩
  case true =>
    have hxe := rex_yes hu HXY8.out
    generalize hdx : dval' E F x8 = dx at *
    obtain ⟨c9, hc9⟩ : ∃ c, qcmp dx r = c := ⟨_, rfl⟩
    have hcs : (c9 == 0) = decide (dx = r) := by rw [← hc9]; exact qcmp_same _ _
    have HC := Lib.hid hc9
    have HXE := Lib.hid hxe
    clear hc9 hxe hdx
    have ev0 := hbv.c0
    have ev1 := hbv.c1
    have ev2 := hbv.c2
    have eq0 := hbq.c0
    have eq1 := hbq.c1
    have eq2 := hbq.c2
    go_wp2_with fail
    refine (rqcmp_c _ _ dx r c9 66 k _ hv h hqx8 hqb (by omega) HC).mono ?_
    rintro e w4 ⟨rfl, hb⟩
    clear ev0 ev1 ev2 eq0 eq1 eq2
    replace hbq := hbq.kept hb
    replace hbv := hbv.kept hb
    replace h := h.below hb
    replace hvx := hvx.below hb
    replace hvy := hvy.below hb
    replace hv := hv.below hb
    replace hbf := hbf.trans (hb.mono hbf.size)
    clear hb
    by_cases he : dx = r
    case pos =>
      rw [decide_eq_true he] at hcs
      have hcs2 : (c9 != 0) = false := by rw [bne, hcs]; rfl
      obtain ⟨rfl, rfl⟩ : x8 = x9 ∧ true = y9 := by have := HXY.out; rw [HXE.out, if_pos he] at this; exact ⟨(congrArg Prod.fst this).symm, (congrArg Prod.snd this).symm⟩
      go_wp2_with fail
      go_ret2
      exact ⟨ret_two rfl rfl, hbf⟩
    case neg =>
      rw [decide_eq_false he] at hcs
      have hcs2 : (c9 != 0) = true := by rw [bne, hcs]; rfl
      obtain ⟨rfl, rfl⟩ : 0 = x9 ∧ false = y9 := by have := HXY.out; rw [HXE.out, if_neg he] at this; exact ⟨(congrArg Prod.fst this).symm, (congrArg Prod.snd this).symm⟩
      go_wp2_with fail
      go_ret2
      exact ⟨ret_two rfl rfl, hbf⟩

theorem finf_six {E F : Nat} (hE : 2 ≤ E) (hF : 1 ≤ F) : 6 ≤ finf E F := by
  unfold finf
  have a1 : 2 ^ 1 ≤ 2 ^ F := Nat.pow_le_pow_right (by decide) hF
  have a2 : 2 ^ 2 ≤ 2 ^ E := Nat.pow_le_pow_right (by decide) hE
  have a3 : 3 * 2 ≤ (2 ^ E - 1) * 2 ^ F := Nat.mul_le_mul (by omega) (by omega)
  omega

set_option maxRecDepth 100000 in
set_option maxHeartbeats 1000000 in
/-- Nearest, from 0 on. -/
theorem rnear_pos (E F n k : Nat) (v : Value) (r : Rat) (w : World) (m9 : Nat) (HM : Hid (m9 = fnear E F r n)) (hE2 : 2 ≤ E) (hE : E ≤ 11) (hF1 : 1 ≤ F) (hF : F ≤ 52) (h : RQIs w v r) (hqb : QB r k) (hk9 : k ≤ 40000) (hu : Under E F (qabs r) n) (hr0 : ¬ r < 0) :
    Calls Tryz.prog 16 #[.int .i64 (E : Int), .int .i64 (F : Int), v] w fun e w' => e = .returned (.int .u64 (m9 : Int)) ∧ Below w.heap.size w w' := by
  have hk : k ≤ 80000 := by omega
  obtain ⟨qB, qxO, qxL, qxC, qyO, qyL, qyC, rfl, hS, hqx, hqy⟩ := h.form
  have HqS := Lib.hid hS; clear hS
  clear hqx hqy
  obtain ⟨w0, hw0⟩ : ∃ w0, w0 = (w.alloc (.cells #[.bool qB, .slice qxO qxL qxC, .slice qyO qyL qyC] 37)) := ⟨_, rfl⟩
  have hbf : Below w.heap.size w w0 := by rw [hw0]; exact ((Below.refl _ w).alloc (Nat.le_refl _) _)
  obtain ⟨pq, hpq⟩ : ∃ p, p = w.heap.size := ⟨_, rfl⟩
  have hbq : Box3 w0 pq (Value.bool qB) (Value.slice qxO qxL qxC) (Value.slice qyO qyL qyC) := by rw [hw0, hpq]; exact ⟨by go_simp, by go_simp, by go_simp, by go_simp, by go_simp, by go_simp⟩
  have HP : Hid (w.heap.size ≤ pq) := Lib.hid (by omega)
  replace h := h.below hbf
  have HW := Lib.hid hw0; clear hw0
  go_enter Tryz.func16, Tryz.ntmps16
  go_upto_region 1 with fail
  rw [← HW.out, ← hpq]
  clear hpq HW
  have hnI := hu.lt
  have hIl : finf E F < fsgn E F := finf_lt E F
  have hSl := fsgn_63 hE hF
  have hn64 : n < 18446744073709551616 := by omega
  have hqn := fval_qb hE hF hnI
  have HV := Lib.hid (dval_self hnI)
  have hnq := hqb.neg
  obtain rfl : qB = false := by rw [HqS.out]; exact decide_eq_false hr0
  have hu2 : Under E F r n := by rw [← qabs_nn hr0]; exact hu
  have HM2 := Lib.hid (fnear_nn hr0 HM.out)
  have eq0 := hbq.c0
  have eq1 := hbq.c1
  have eq2 := hbq.c2
  go_wp2_with fail
  refine (runder_any E F n k _ r _ hE2 hE hF1 hF h hqb hk hr0 hu2).mono ?_
  rintro e w1 ⟨rfl, hb⟩
  clear eq0 eq1 eq2
  replace hbq := hbq.kept hb
  replace h := h.below hb
  replace hbf := hbf.trans (hb.mono hbf.size)
  clear hb
  go_wp2_with fail
  refine (rdecode_x E F n _ (fval E F n) _ rfl HV hE2 hE hF1 hF hn64).mono ?_
  rintro e w2 hq9
  obtain ⟨vB, vxO, vxL, vxC, vyO, vyL, vyC, rfl, hS, hvx, hvy, hv, hb⟩ := hq9.out
  have HvS := Lib.hid hS; clear hS
  replace hbq := hbq.kept hb
  replace h := h.below hb
  replace hbf := hbf.trans (hb.mono hbf.size)
  clear hb
  obtain ⟨w3, hwE⟩ : ∃ W, W = (w2.alloc (.cells #[.bool vB, .slice vxO vxL vxC, .slice vyO vyL vyC] 37)) := ⟨_, rfl⟩
  have hb : Below w2.heap.size w2 w3 := by rw [hwE]; exact ((Below.refl _ w2).alloc (Nat.le_refl _) _)
  obtain ⟨pv, hpv⟩ : ∃ p, p = w2.heap.size := ⟨_, rfl⟩
  have hbv : Box3 w3 pv (Value.bool vB) (Value.slice vxO vxL vxC) (Value.slice vyO vyL vyC) := by rw [hwE, hpv]; exact ⟨by go_simp, by go_simp, by go_simp, by go_simp, by go_simp, by go_simp⟩
  replace HP : Hid (w.heap.size ≤ pq ∧ pq < pv) := Lib.hid (by have h1 := HP.out; have h9 := hbf.size; have h2q := hbq.lt; omega)
  have HW := Lib.hid hwE; clear hwE
  go_upto_region 5 with fail
  rw [← HW.out, ← hpv]
  clear hpv HW
  replace hbq := hbq.kept hb
  replace h := h.below hb
  replace hvx := hvx.below hb
  replace hvy := hvy.below hb
  replace hv := hv.below hb
  replace hbf := hbf.trans (hb.mono hbf.size)
  clear hb
  obtain ⟨w4, hwE⟩ : ∃ W, W = (w3.alloc (.cells #[.bool false, .slice none 0 0, .slice none 0 0] 37)) := ⟨_, rfl⟩
  have hb : Below w3.heap.size w3 w4 := by rw [hwE]; exact ((Below.refl _ w3).alloc (Nat.le_refl _) _)
  obtain ⟨pb, hpb⟩ : ∃ p, p = w3.heap.size := ⟨_, rfl⟩
  have hbb : Box3 w4 pb (Value.bool false) (Value.slice none 0 0) (Value.slice none 0 0) := by rw [hwE, hpb]; exact ⟨by go_simp, by go_simp, by go_simp, by go_simp, by go_simp, by go_simp⟩
  replace HP : Hid (w.heap.size ≤ pq ∧ pq < pv ∧ pv < pb) := Lib.hid (by have h1 := HP.out; have h9 := hbf.size; have h2v := hbv.lt; omega)
  have HW := Lib.hid hwE; clear hwE
  go_upto_region 6 with fail
  rw [← HW.out, ← hpb]
  clear hpb HW
  replace hbq := hbq.kept hb
  replace hbv := hbv.kept hb
  replace h := h.below hb
  replace hvx := hvx.below hb
  replace hvy := hvy.below hb
  replace hv := hv.below hb
  replace hbf := hbf.trans (hb.mono hbf.size)
  clear hb
  go_wp2_with fail
  refine (rtop_any E F _ hE2 hE hF).mono ?_
  rintro e w5 ⟨rfl, hb⟩
  replace hbq := hbq.kept hb
  replace hbv := hbv.kept hb
  replace hbb := hbb.kept hb
  replace h := h.below hb
  replace hvx := hvx.below hb
  replace hvy := hvy.below hb
  replace hv := hv.below hb
  replace hbf := hbf.trans (hb.mono hbf.size)
  clear hb
  by_cases ht9 : n + 1 = finf E F
  case pos =>
    have ht : ((n : Int) == ((finf E F - 1 : Nat) : Int)) = true := by rw [beq_iff_eq]; omega
    have hpI : n - 1 < finf E F := by omega
    have hp64 : n - 1 < 18446744073709551616 := by omega
    have hE9 : 6 ≤ finf E F := finf_six hE2 hF1
    have hn1 : 1 ≤ n := by omega
    have HV2 := Lib.hid (dval_self hpI)
    have hqp := fval_qb hE hF hpI
    obtain ⟨bq, hbq9⟩ : ∃ b, b = fval E F n + fstep E F n := ⟨_, rfl⟩
    have HBQ := Lib.hid hbq9
    have hbe : fval E F n + (fval E F n + -(fval E F (n - 1))) = bq := by rw [hbq9]; unfold fstep; rw [if_neg (by omega), Rat.sub_eq_add_neg]
    have HBE := Lib.hid hbe
    have hbqb : QB bq 200 := by rw [← hbe]; exact (hqn.add (hqn.add hqp.neg)).mono (by decide)
    clear hbq9 hbe ht9
    go_wp2_with fail
    refine (rdecode_x E F (n - 1) _ (fval E F (n - 1)) _ (up_sub (by omega)) HV2 hE2 hE hF1 hF hp64).mono ?_
    rintro e w6 hq9
    obtain ⟨cB, cxO, cxL, cxC, cyO, cyL, cyC, rfl, hS, hcx, hcy, hc, hb⟩ := hq9.out
    have HcS := Lib.hid hS; clear hS
    replace hbq := hbq.kept hb
    replace hbv := hbv.kept hb
    replace hbb := hbb.kept hb
    replace h := h.below hb
    replace hvx := hvx.below hb
    replace hvy := hvy.below hb
    replace hv := hv.below hb
    replace hbf := hbf.trans (hb.mono hbf.size)
    clear hb
    obtain ⟨w7, hwE⟩ : ∃ W, W = (w6.alloc (.cells #[.bool cB, .slice cxO cxL cxC, .slice cyO cyL cyC] 37)) := ⟨_, rfl⟩
    have hb : Below w6.heap.size w6 w7 := by rw [hwE]; exact ((Below.refl _ w6).alloc (Nat.le_refl _) _)
    obtain ⟨pc, hpc⟩ : ∃ p, p = w6.heap.size := ⟨_, rfl⟩
    have hbc : Box3 w7 pc (Value.bool cB) (Value.slice cxO cxL cxC) (Value.slice cyO cyL cyC) := by rw [hwE, hpc]; exact ⟨by go_simp, by go_simp, by go_simp, by go_simp, by go_simp, by go_simp⟩
    replace HP : Hid (w.heap.size ≤ pq ∧ pq < pv ∧ pv < pb ∧ pb < pc) := Lib.hid (by have h1 := HP.out; have h9 := hbf.size; have h2b := hbb.lt; omega)
    have HW := Lib.hid hwE; clear hwE
    go_upto_region 8 with fail
    rw [← HW.out, ← hpc]
    clear hpc HW
    replace hbq := hbq.kept hb
    replace hbv := hbv.kept hb
    replace hbb := hbb.kept hb
    replace h := h.below hb
    replace hvx := hvx.below hb
    replace hvy := hvy.below hb
    replace hv := hv.below hb
    replace hcx := hcx.below hb
    replace hcy := hcy.below hb
    replace hc := hc.below hb
    replace hbf := hbf.trans (hb.mono hbf.size)
    clear hb
    refine wp_region_seqQ (S := fun w' => Box3 w' pv (Value.bool vB) (Value.slice vxO vxL vxC) (Value.slice vyO vyL vyC) ∧ Box3 w' pc (Value.bool cB) (Value.slice cxO cxL cxC) (Value.slice cyO cyL cyC)) [(0, 256, some 48), (0, 256, some 49), (0, 2048, some 50), (4, 1125899906842624, some 51), (10, 2814749767106560, some 52), (17, 4785074604081152, some 53), (63, 9007199254742016, none)] [(true, 0), (true, 1), (true, 2), (false, 3), (false, 4), (false, 5), (false, 6)] (by kernel_rfl) (by kernel_rfl) (by kernel_rfl) (by kernel_rfl) (by kernel_rfl) (by kernel_rfl) (fun d _ _ _ _ h => by cases d <;> exact h) ⟨hbv.drew, hbc.drew⟩ (fun _ => ?_)
    simp only [pickOps, List.append_eq, List.cons_append, List.nil_append, List.getElem?_toArray, List.getElem?_cons_succ, List.getElem?_cons_zero]
    have hb : Below w7.heap.size w7 w7.drew := (Below.refl _ _).drew
    generalize w7.drew = w8 at hb ⊢
    replace hbq := hbq.kept hb
    replace hbv := hbv.kept hb
    replace hbb := hbb.kept hb
    replace hbc := hbc.kept hb
    replace h := h.below hb
    replace hvx := hvx.below hb
    replace hvy := hvy.below hb
    replace hv := hv.below hb
    replace hcx := hcx.below hb
    replace hcy := hcy.below hb
    replace hc := hc.below hb
    replace hbf := hbf.trans (hb.mono hbf.size)
    clear hb
    repeat (first | (refine seq_take (v := ?_) (by rfl) ?_ ?_; rotate_left; (· intro w hSw; (try dsimp only at hSw); obtain ⟨⟨ev0, ev1, ev2, _, _, _⟩, ⟨ec0, ec1, ec2, _, _, _⟩⟩ := hSw; go_simp; all_goals with_reducible rfl); (try simp only [Act.put, List.setIfInBounds_toArray, List.set_cons_zero, List.set_cons_succ])) | (refine seq_leave (by rfl) ?_; (try simp only [Act.put, List.setIfInBounds_toArray, List.set_cons_zero, List.set_cons_succ])))
    refine seq_step (by rfl) (fun K hK => ?_)
    go_simp
    go_at_call 45
    (with_reducible refine (rqminus_any _ (fval E F (n - 1)) 66 _ hc hqp (by decide)).mono ?_)
    rintro e w9 hq9
    obtain ⟨xB, xxO, xxL, xxC, xyO, xyL, xyC, rfl, hS, hxx, hxy, hx, hb⟩ := hq9.out
    have HxS := Lib.hid hS; clear hS
    replace hbq := hbq.kept hb
    replace hbv := hbv.kept hb
    replace hbb := hbb.kept hb
    replace hbc := hbc.kept hb
    replace h := h.below hb
    replace hvx := hvx.below hb
    replace hvy := hvy.below hb
    replace hv := hv.below hb
    replace hcx := hcx.below hb
    replace hcy := hcy.below hb
    replace hc := hc.below hb
    replace hbf := hbf.trans (hb.mono hbf.size)
    clear hb
    first | refine hK.out _ _ ⟨hbv, hbc⟩ (fun _ => ?_) | (go_wp2_with fail; refine hK.out _ _ ⟨hbv, hbc⟩ (fun _ => ?_))
    clear hK K
    (try simp only [Act.put, List.setIfInBounds_toArray, List.set_cons_zero, List.set_cons_succ])
    refine seq_step (by rfl) (fun K hK => ?_)
    go_simp
    go_at_call 48
    (with_reducible refine (rqadd_any _ _ (fval E F n) (-(fval E F (n - 1))) 66 66 _ hv hx hqn hqp.neg (by decide)).mono ?_)
    rintro e w10 hq9
    obtain ⟨yB, yxO, yxL, yxC, yyO, yyL, yyC, rfl, hS, hyx, hyy, hy, hb⟩ := hq9.out
    have HyS := Lib.hid hS; clear hS
    replace hbq := hbq.kept hb
    replace hbv := hbv.kept hb
    replace hbb := hbb.kept hb
    replace hbc := hbc.kept hb
    replace h := h.below hb
    replace hvx := hvx.below hb
    replace hvy := hvy.below hb
    replace hv := hv.below hb
    replace hcx := hcx.below hb
    replace hcy := hcy.below hb
    replace hc := hc.below hb
    replace hxx := hxx.below hb
    replace hxy := hxy.below hb
    replace hx := hx.below hb
    replace hbf := hbf.trans (hb.mono hbf.size)
    clear hb
    first | refine hK.out _ _ ⟨hbv, hbc⟩ (fun _ => ?_) | (go_wp2_with fail; refine hK.out _ _ ⟨hbv, hbc⟩ (fun _ => ?_))
    clear hK K
    (try simp only [Act.put, List.setIfInBounds_toArray, List.set_cons_zero, List.set_cons_succ])
    refine seq_step (by rfl) (fun K hK => ?_)
    go_simp
    go_at_call 48
    (with_reducible refine (rqadd_any _ _ (fval E F n) (fval E F n + -(fval E F (n - 1))) 66 133 _ hv hy hqn (hqn.add hqp.neg) (by decide)).mono ?_)
    rintro e w11 hq9
    obtain ⟨zB, zxO, zxL, zxC, zyO, zyL, zyC, rfl, hS, hzx, hzy, hz, hb⟩ := hq9.out
    have HzS := Lib.hid hS; clear hS
    replace hbq := hbq.kept hb
    replace hbv := hbv.kept hb
    replace hbb := hbb.kept hb
    replace hbc := hbc.kept hb
    replace h := h.below hb
    replace hvx := hvx.below hb
    replace hvy := hvy.below hb
    replace hv := hv.below hb
    replace hcx := hcx.below hb
    replace hcy := hcy.below hb
    replace hc := hc.below hb
    replace hxx := hxx.below hb
    replace hxy := hxy.below hb
    replace hx := hx.below hb
    replace hyx := hyx.below hb
    replace hyy := hyy.below hb
    replace hy := hy.below hb
    replace hbf := hbf.trans (hb.mono hbf.size)
    clear hb
    first | refine hK.out _ _ ⟨hbv, hbc⟩ (fun _ => ?_) | (go_wp2_with fail; refine hK.out _ _ ⟨hbv, hbc⟩ (fun _ => ?_))
    clear hK K
    (try simp only [Act.put, List.setIfInBounds_toArray, List.set_cons_zero, List.set_cons_succ])
    refine seq_step (by rfl) (fun K hK => ?_)
    have eb0 := hbb.c0
    have fb0 := hbb.f0
    have eb1 := hbb.c1
    have fb1 := hbb.f1
    have eb2 := hbb.c2
    have fb2 := hbb.f2
    go_simp
    clear eb0 fb0 eb1 fb1 eb2 fb2
    obtain ⟨w12, hwE⟩ : ∃ W, W = ((w11.setCell ⟨pb, 0, none⟩ (Value.bool zB)).setCell ⟨pb, 1, none⟩ (Value.slice zxO zxL zxC)).setCell ⟨pb, 2, none⟩ (Value.slice zyO zyL zyC) := ⟨_, rfl⟩
    rw [← hwE]
    replace h := h.set3 (u0 := (Value.bool zB)) (u1 := (Value.slice zxO zxL zxC)) (u2 := (Value.slice zyO zyL zyC)) hbb; rw [← hwE] at h
    replace hvx := hvx.set3 (u0 := (Value.bool zB)) (u1 := (Value.slice zxO zxL zxC)) (u2 := (Value.slice zyO zyL zyC)) hbb; rw [← hwE] at hvx
    replace hvy := hvy.set3 (u0 := (Value.bool zB)) (u1 := (Value.slice zxO zxL zxC)) (u2 := (Value.slice zyO zyL zyC)) hbb; rw [← hwE] at hvy
    replace hv := hv.set3 (u0 := (Value.bool zB)) (u1 := (Value.slice zxO zxL zxC)) (u2 := (Value.slice zyO zyL zyC)) hbb; rw [← hwE] at hv
    replace hcx := hcx.set3 (u0 := (Value.bool zB)) (u1 := (Value.slice zxO zxL zxC)) (u2 := (Value.slice zyO zyL zyC)) hbb; rw [← hwE] at hcx
    replace hcy := hcy.set3 (u0 := (Value.bool zB)) (u1 := (Value.slice zxO zxL zxC)) (u2 := (Value.slice zyO zyL zyC)) hbb; rw [← hwE] at hcy
    replace hc := hc.set3 (u0 := (Value.bool zB)) (u1 := (Value.slice zxO zxL zxC)) (u2 := (Value.slice zyO zyL zyC)) hbb; rw [← hwE] at hc
    replace hxx := hxx.set3 (u0 := (Value.bool zB)) (u1 := (Value.slice zxO zxL zxC)) (u2 := (Value.slice zyO zyL zyC)) hbb; rw [← hwE] at hxx
    replace hxy := hxy.set3 (u0 := (Value.bool zB)) (u1 := (Value.slice zxO zxL zxC)) (u2 := (Value.slice zyO zyL zyC)) hbb; rw [← hwE] at hxy
    replace hx := hx.set3 (u0 := (Value.bool zB)) (u1 := (Value.slice zxO zxL zxC)) (u2 := (Value.slice zyO zyL zyC)) hbb; rw [← hwE] at hx
    replace hyx := hyx.set3 (u0 := (Value.bool zB)) (u1 := (Value.slice zxO zxL zxC)) (u2 := (Value.slice zyO zyL zyC)) hbb; rw [← hwE] at hyx
    replace hyy := hyy.set3 (u0 := (Value.bool zB)) (u1 := (Value.slice zxO zxL zxC)) (u2 := (Value.slice zyO zyL zyC)) hbb; rw [← hwE] at hyy
    replace hy := hy.set3 (u0 := (Value.bool zB)) (u1 := (Value.slice zxO zxL zxC)) (u2 := (Value.slice zyO zyL zyC)) hbb; rw [← hwE] at hy
    replace hzx := hzx.set3 (u0 := (Value.bool zB)) (u1 := (Value.slice zxO zxL zxC)) (u2 := (Value.slice zyO zyL zyC)) hbb; rw [← hwE] at hzx
    replace hzy := hzy.set3 (u0 := (Value.bool zB)) (u1 := (Value.slice zxO zxL zxC)) (u2 := (Value.slice zyO zyL zyC)) hbb; rw [← hwE] at hzy
    replace hz := hz.set3 (u0 := (Value.bool zB)) (u1 := (Value.slice zxO zxL zxC)) (u2 := (Value.slice zyO zyL zyC)) hbb; rw [← hwE] at hz
    replace hbq := hbq.set3o (u0 := (Value.bool zB)) (u1 := (Value.slice zxO zxL zxC)) (u2 := (Value.slice zyO zyL zyC)) (show pq ≠ pb by have := HP.out; omega); rw [← hwE] at hbq
    replace hbv := hbv.set3o (u0 := (Value.bool zB)) (u1 := (Value.slice zxO zxL zxC)) (u2 := (Value.slice zyO zyL zyC)) (show pv ≠ pb by have := HP.out; omega); rw [← hwE] at hbv
    replace hbc := hbc.set3o (u0 := (Value.bool zB)) (u1 := (Value.slice zxO zxL zxC)) (u2 := (Value.slice zyO zyL zyC)) (show pc ≠ pb by have := HP.out; omega); rw [← hwE] at hbc
    replace hbf := below_set3 (u0 := (Value.bool zB)) (u1 := (Value.slice zxO zxL zxC)) (u2 := (Value.slice zyO zyL zyC)) hbf (show w.heap.size ≤ pb by have := HP.out; omega); rw [← hwE] at hbf
    replace hbb := hbb.set3 (u0 := (Value.bool zB)) (u1 := (Value.slice zxO zxL zxC)) (u2 := (Value.slice zyO zyL zyC)); rw [← hwE] at hbb; clear hwE
    first | refine hK.out _ _ ⟨hbv, hbc⟩ (fun _ => ?_) | (go_wp2_with fail; refine hK.out _ _ ⟨hbv, hbc⟩ (fun _ => ?_))
    clear hK K
    (try simp only [Act.put, List.setIfInBounds_toArray, List.set_cons_zero, List.set_cons_succ])
    refine seq_end ?_
    have hnb := hz
    rw [HBE.out] at hnb
    obtain ⟨c9, hc9⟩ : ∃ c, qcmp (r + -(fval E F n)) (bq + -r) = c := ⟨_, rfl⟩
    have hmo := near_c hr0 HBQ.out hc9
    have H3 := Lib.hid (show c9 = -1 ∨ c9 = 0 ∨ c9 = 1 by rw [← hc9]; exact qcmp_three _ _)
    have HC := Lib.hid hc9
    have HMO := Lib.hid hmo
    clear hc9 hmo
    have hq1 := hqb.add hqn.neg
    have hq2 := hbqb.add hnq
    have eq0 := hbq.c0
    have eq1 := hbq.c1
    have eq2 := hbq.c2
    have ev0 := hbv.c0
    have ev1 := hbv.c1
    have ev2 := hbv.c2
    have eb0 := hbb.c0
    have eb1 := hbb.c1
    have eb2 := hbb.c2
    go_wp2_with fail
    clear eq0 eq1 eq2 ev0 ev1 ev2 eb0 eb1 eb2
    refine wp_region_seqQ (S := fun w' => Box3 w' pq (Value.bool false) (Value.slice qxO qxL qxC) (Value.slice qyO qyL qyC) ∧ Box3 w' pv (Value.bool vB) (Value.slice vxO vxL vxC) (Value.slice vyO vyL vyC) ∧ Box3 w' pb (Value.bool zB) (Value.slice zxO zxL zxC) (Value.slice zyO zyL zyC)) [(0, 32, some 62), (0, 256, some 63), (2, 9223372036854775808, some 64), (5, 23058430092136939520, some 65), (0, 1024, some 66), (0, 32, some 67), (40, 147573952589676412928, some 68), (80, 368934881474191032320, some 69), (136, 627189298506124754944, some 70), (511, 1180591620717411303424, some 13)] [(true, 0), (true, 1), (true, 4), (true, 5), (false, 2), (false, 3), (false, 6), (false, 7), (false, 8), (true, 9)] (by kernel_rfl) (by kernel_rfl) (by kernel_rfl) (by kernel_rfl) (by kernel_rfl) (by kernel_rfl) (fun d _ _ _ _ h => by cases d <;> exact h) ⟨hbq.drew, hbv.drew, hbb.drew⟩ (fun _ => ?_)
    simp only [pickOps, List.append_eq, List.cons_append, List.nil_append, List.getElem?_toArray, List.getElem?_cons_succ, List.getElem?_cons_zero]
    have hb : Below w12.heap.size w12 w12.drew := (Below.refl _ _).drew
    generalize w12.drew = w13 at hb ⊢
    replace hbq := hbq.kept hb
    replace hbv := hbv.kept hb
    replace hbb := hbb.kept hb
    replace hbc := hbc.kept hb
    replace h := h.below hb
    replace hvx := hvx.below hb
    replace hvy := hvy.below hb
    replace hv := hv.below hb
    replace hcx := hcx.below hb
    replace hcy := hcy.below hb
    replace hc := hc.below hb
    replace hxx := hxx.below hb
    replace hxy := hxy.below hb
    replace hx := hx.below hb
    replace hyx := hyx.below hb
    replace hyy := hyy.below hb
    replace hy := hy.below hb
    replace hzx := hzx.below hb
    replace hzy := hzy.below hb
    replace hz := hz.below hb
    replace hnb := hnb.below hb
    replace hbf := hbf.trans (hb.mono hbf.size)
    clear hb
    repeat (first | (refine seq_take (v := ?_) (by rfl) ?_ ?_; rotate_left; (· intro w hSw; (try dsimp only at hSw); obtain ⟨⟨eq0, eq1, eq2, _, _, _⟩, ⟨ev0, ev1, ev2, _, _, _⟩, ⟨eb0, eb1, eb2, _, _, _⟩⟩ := hSw; go_simp; all_goals with_reducible rfl); (try simp only [Act.put, List.setIfInBounds_toArray, List.set_cons_zero, List.set_cons_succ])) | (refine seq_leave (by rfl) ?_; (try simp only [Act.put, List.setIfInBounds_toArray, List.set_cons_zero, List.set_cons_succ])))
    refine seq_step (by rfl) (fun K hK => ?_)
    go_simp
    go_at_call 45
    (with_reducible refine (rqminus_any _ (fval E F n) 66 _ hv hqn (by decide)).mono ?_)
    rintro e w14 hq9
    obtain ⟨iB, ixO, ixL, ixC, iyO, iyL, iyC, rfl, hS, hix, hiy, hi, hb⟩ := hq9.out
    have HiS := Lib.hid hS; clear hS
    replace hbq := hbq.kept hb
    replace hbv := hbv.kept hb
    replace hbb := hbb.kept hb
    replace hbc := hbc.kept hb
    replace h := h.below hb
    replace hvx := hvx.below hb
    replace hvy := hvy.below hb
    replace hv := hv.below hb
    replace hcx := hcx.below hb
    replace hcy := hcy.below hb
    replace hc := hc.below hb
    replace hxx := hxx.below hb
    replace hxy := hxy.below hb
    replace hx := hx.below hb
    replace hyx := hyx.below hb
    replace hyy := hyy.below hb
    replace hy := hy.below hb
    replace hzx := hzx.below hb
    replace hzy := hzy.below hb
    replace hz := hz.below hb
    replace hnb := hnb.below hb
    replace hbf := hbf.trans (hb.mono hbf.size)
    clear hb
    first | refine hK.out _ _ ⟨hbq, hbv, hbb⟩ (fun _ => ?_) | (go_wp2_with fail; refine hK.out _ _ ⟨hbq, hbv, hbb⟩ (fun _ => ?_))
    clear hK K
    (try simp only [Act.put, List.setIfInBounds_toArray, List.set_cons_zero, List.set_cons_succ])
    refine seq_step (by rfl) (fun K hK => ?_)
    go_simp
    go_at_call 48
    (with_reducible refine (rqadd_any _ _ r (-(fval E F n)) k 66 _ h hi hqb hqn.neg (by omega)).mono ?_)
    rintro e w15 hq9
    obtain ⟨jB, jxO, jxL, jxC, jyO, jyL, jyC, rfl, hS, hjx, hjy, hj, hb⟩ := hq9.out
    have HjS := Lib.hid hS; clear hS
    replace hbq := hbq.kept hb
    replace hbv := hbv.kept hb
    replace hbb := hbb.kept hb
    replace hbc := hbc.kept hb
    replace h := h.below hb
    replace hvx := hvx.below hb
    replace hvy := hvy.below hb
    replace hv := hv.below hb
    replace hcx := hcx.below hb
    replace hcy := hcy.below hb
    replace hc := hc.below hb
    replace hxx := hxx.below hb
    replace hxy := hxy.below hb
    replace hx := hx.below hb
    replace hyx := hyx.below hb
    replace hyy := hyy.below hb
    replace hy := hy.below hb
    replace hzx := hzx.below hb
    replace hzy := hzy.below hb
    replace hz := hz.below hb
    replace hnb := hnb.below hb
    replace hix := hix.below hb
    replace hiy := hiy.below hb
    replace hi := hi.below hb
    replace hbf := hbf.trans (hb.mono hbf.size)
    clear hb
    first | refine hK.out _ _ ⟨hbq, hbv, hbb⟩ (fun _ => ?_) | (go_wp2_with fail; refine hK.out _ _ ⟨hbq, hbv, hbb⟩ (fun _ => ?_))
    clear hK K
    (try simp only [Act.put, List.setIfInBounds_toArray, List.set_cons_zero, List.set_cons_succ])
    refine seq_step (by rfl) (fun K hK => ?_)
    go_simp
    go_at_call 45
    (with_reducible refine (rqminus_any _ r k _ h hqb (by omega)).mono ?_)
    rintro e w16 hq9
    obtain ⟨lB, lxO, lxL, lxC, lyO, lyL, lyC, rfl, hS, hlx, hly, hl, hb⟩ := hq9.out
    have HlS := Lib.hid hS; clear hS
    replace hbq := hbq.kept hb
    replace hbv := hbv.kept hb
    replace hbb := hbb.kept hb
    replace hbc := hbc.kept hb
    replace h := h.below hb
    replace hvx := hvx.below hb
    replace hvy := hvy.below hb
    replace hv := hv.below hb
    replace hcx := hcx.below hb
    replace hcy := hcy.below hb
    replace hc := hc.below hb
    replace hxx := hxx.below hb
    replace hxy := hxy.below hb
    replace hx := hx.below hb
    replace hyx := hyx.below hb
    replace hyy := hyy.below hb
    replace hy := hy.below hb
    replace hzx := hzx.below hb
    replace hzy := hzy.below hb
    replace hz := hz.below hb
    replace hnb := hnb.below hb
    replace hix := hix.below hb
    replace hiy := hiy.below hb
    replace hi := hi.below hb
    replace hjx := hjx.below hb
    replace hjy := hjy.below hb
    replace hj := hj.below hb
    replace hbf := hbf.trans (hb.mono hbf.size)
    clear hb
    first | refine hK.out _ _ ⟨hbq, hbv, hbb⟩ (fun _ => ?_) | (go_wp2_with fail; refine hK.out _ _ ⟨hbq, hbv, hbb⟩ (fun _ => ?_))
    clear hK K
    (try simp only [Act.put, List.setIfInBounds_toArray, List.set_cons_zero, List.set_cons_succ])
    refine seq_step (by rfl) (fun K hK => ?_)
    go_simp
    go_at_call 48
    (with_reducible refine (rqadd_any _ _ bq (-r) 200 k _ hnb hl hbqb hnq (by omega)).mono ?_)
    rintro e w17 hq9
    obtain ⟨oB, oxO, oxL, oxC, oyO, oyL, oyC, rfl, hS, hox, hoy, ho, hb⟩ := hq9.out
    have HoS := Lib.hid hS; clear hS
    replace hbq := hbq.kept hb
    replace hbv := hbv.kept hb
    replace hbb := hbb.kept hb
    replace hbc := hbc.kept hb
    replace h := h.below hb
    replace hvx := hvx.below hb
    replace hvy := hvy.below hb
    replace hv := hv.below hb
    replace hcx := hcx.below hb
    replace hcy := hcy.below hb
    replace hc := hc.below hb
    replace hxx := hxx.below hb
    replace hxy := hxy.below hb
    replace hx := hx.below hb
    replace hyx := hyx.below hb
    replace hyy := hyy.below hb
    replace hy := hy.below hb
    replace hzx := hzx.below hb
    replace hzy := hzy.below hb
    replace hz := hz.below hb
    replace hnb := hnb.below hb
    replace hix := hix.below hb
    replace hiy := hiy.below hb
    replace hi := hi.below hb
    replace hjx := hjx.below hb
    replace hjy := hjy.below hb
    replace hj := hj.below hb
    replace hlx := hlx.below hb
    replace hly := hly.below hb
    replace hl := hl.below hb
    replace hbf := hbf.trans (hb.mono hbf.size)
    clear hb
    first | refine hK.out _ _ ⟨hbq, hbv, hbb⟩ (fun _ => ?_) | (go_wp2_with fail; refine hK.out _ _ ⟨hbq, hbv, hbb⟩ (fun _ => ?_))
    clear hK K
    (try simp only [Act.put, List.setIfInBounds_toArray, List.set_cons_zero, List.set_cons_succ])
    refine seq_step (by rfl) (fun K hK => ?_)
    go_simp
    go_at_call 43
    (with_reducible refine (rqcmp_c _ _ (r + -(fval E F n)) (bq + -r) c9 (k + 66 + 1) (200 + k + 1) _ hj ho hq1 hq2 (by omega) HC).mono ?_)
    rintro e w18 ⟨rfl, hb⟩
    replace hbq := hbq.kept hb
    replace hbv := hbv.kept hb
    replace hbb := hbb.kept hb
    replace hbc := hbc.kept hb
    replace h := h.below hb
    replace hvx := hvx.below hb
    replace hvy := hvy.below hb
    replace hv := hv.below hb
    replace hcx := hcx.below hb
    replace hcy := hcy.below hb
    replace hc := hc.below hb
    replace hxx := hxx.below hb
    replace hxy := hxy.below hb
    replace hx := hx.below hb
    replace hyx := hyx.below hb
    replace hyy := hyy.below hb
    replace hy := hy.below hb
    replace hzx := hzx.below hb
    replace hzy := hzy.below hb
    replace hz := hz.below hb
    replace hnb := hnb.below hb
    replace hix := hix.below hb
    replace hiy := hiy.below hb
    replace hi := hi.below hb
    replace hjx := hjx.below hb
    replace hjy := hjy.below hb
    replace hj := hj.below hb
    replace hlx := hlx.below hb
    replace hly := hly.below hb
    replace hl := hl.below hb
    replace hox := hox.below hb
    replace hoy := hoy.below hb
    replace ho := ho.below hb
    replace hbf := hbf.trans (hb.mono hbf.size)
    clear hb
    first | refine hK.out _ _ ⟨hbq, hbv, hbb⟩ (fun _ => ?_) | (go_wp2_with fail; refine hK.out _ _ ⟨hbq, hbv, hbb⟩ (fun _ => ?_))
    clear hK K
    (try simp only [Act.put, List.setIfInBounds_toArray, List.set_cons_zero, List.set_cons_succ])
    repeat (first | (refine seq_take (v := ?_) (by rfl) ?_ ?_; rotate_left; (· intro w hSw; (try dsimp only at hSw); obtain ⟨⟨eq0, eq1, eq2, _, _, _⟩, ⟨ev0, ev1, ev2, _, _, _⟩, ⟨eb0, eb1, eb2, _, _, _⟩⟩ := hSw; go_simp; all_goals with_reducible rfl); (try simp only [Act.put, List.setIfInBounds_toArray, List.set_cons_zero, List.set_cons_succ])) | (refine seq_leave (by rfl) ?_; (try simp only [Act.put, List.setIfInBounds_toArray, List.set_cons_zero, List.set_cons_succ])))
    refine seq_end ?_
    rcases H3.out with rfl | rfl | rfl
    · skip
      obtain rfl : m9 = n := by rw [HM2.out, HMO.out, decide_eq_false (by omega)]; rfl
      go_wp2_with fail
      go_ret
      exact ⟨ret_one (by first | rfl | (congr 1; omega)), hbf⟩
    · skip
      by_cases hpar : n % 2 = 1
      case pos =>
        have hrem : (((n : Int) % 2) == 0) = false := by rw [beq_eq_false_iff_ne, ne_eq]; omega
        obtain rfl : m9 = n + 1 := by rw [HM2.out, HMO.out, decide_eq_true (.inr ⟨rfl, hpar⟩)]; rfl
        go_wp2_with fail
        go_ret
        exact ⟨ret_one (by first | rfl | (congr 1; omega)), hbf⟩
      case neg =>
        have hrem : (((n : Int) % 2) == 0) = true := by rw [beq_iff_eq]; omega
        obtain rfl : m9 = n := by rw [HM2.out, HMO.out, decide_eq_false (by omega)]; rfl
        go_wp2_with fail
        go_ret
        exact ⟨ret_one (by first | rfl | (congr 1; omega)), hbf⟩
    · skip
      obtain rfl : m9 = n + 1 := by rw [HM2.out, HMO.out, decide_eq_true (.inl rfl)]; rfl
      go_wp2_with fail
      go_ret
      exact ⟨ret_one (by first | rfl | (congr 1; omega)), hbf⟩
  case neg =>
    have ht : ((n : Int) == ((finf E F - 1 : Nat) : Int)) = false := by rw [beq_eq_false_iff_ne, ne_eq]; omega
    have hpI : n + 1 < finf E F := by omega
    have hp64 : n + 1 < 18446744073709551616 := by omega
    have HV2 := Lib.hid (dval_self hpI)
    have hqp := fval_qb hE hF hpI
    obtain ⟨bq, hbq9⟩ : ∃ b, b = fval E F n + fstep E F n := ⟨_, rfl⟩
    have HBQ := Lib.hid hbq9
    have hbe : fval E F (n + 1) = bq := by rw [hbq9]; unfold fstep; rw [if_pos hpI]; grind
    have HBE := Lib.hid hbe
    have hbqb : QB bq 200 := by rw [← hbe]; exact hqp.mono (by decide)
    clear hbq9 hbe
    go_wp2_with fail
    refine (rdecode_x E F (n + 1) _ (fval E F (n + 1)) _ (by omega) HV2 hE2 hE hF1 hF hp64).mono ?_
    rintro e w6 hq9
    obtain ⟨cB, cxO, cxL, cxC, cyO, cyL, cyC, rfl, hS, hcx, hcy, hc, hb⟩ := hq9.out
    have HcS := Lib.hid hS; clear hS
    replace hbq := hbq.kept hb
    replace hbv := hbv.kept hb
    replace hbb := hbb.kept hb
    replace h := h.below hb
    replace hvx := hvx.below hb
    replace hvy := hvy.below hb
    replace hv := hv.below hb
    replace hbf := hbf.trans (hb.mono hbf.size)
    clear hb
    have eb0 := hbb.c0
    have fb0 := hbb.f0
    have eb1 := hbb.c1
    have fb1 := hbb.f1
    have eb2 := hbb.c2
    have fb2 := hbb.f2
    go_upto_region 10 with fail
    clear eb0 fb0 eb1 fb1 eb2 fb2
    obtain ⟨w7, hwE⟩ : ∃ W, W = ((w6.setCell ⟨pb, 0, none⟩ (Value.bool cB)).setCell ⟨pb, 1, none⟩ (Value.slice cxO cxL cxC)).setCell ⟨pb, 2, none⟩ (Value.slice cyO cyL cyC) := ⟨_, rfl⟩
    rw [← hwE]
    replace h := h.set3 (u0 := (Value.bool cB)) (u1 := (Value.slice cxO cxL cxC)) (u2 := (Value.slice cyO cyL cyC)) hbb; rw [← hwE] at h
    replace hvx := hvx.set3 (u0 := (Value.bool cB)) (u1 := (Value.slice cxO cxL cxC)) (u2 := (Value.slice cyO cyL cyC)) hbb; rw [← hwE] at hvx
    replace hvy := hvy.set3 (u0 := (Value.bool cB)) (u1 := (Value.slice cxO cxL cxC)) (u2 := (Value.slice cyO cyL cyC)) hbb; rw [← hwE] at hvy
    replace hv := hv.set3 (u0 := (Value.bool cB)) (u1 := (Value.slice cxO cxL cxC)) (u2 := (Value.slice cyO cyL cyC)) hbb; rw [← hwE] at hv
    replace hcx := hcx.set3 (u0 := (Value.bool cB)) (u1 := (Value.slice cxO cxL cxC)) (u2 := (Value.slice cyO cyL cyC)) hbb; rw [← hwE] at hcx
    replace hcy := hcy.set3 (u0 := (Value.bool cB)) (u1 := (Value.slice cxO cxL cxC)) (u2 := (Value.slice cyO cyL cyC)) hbb; rw [← hwE] at hcy
    replace hc := hc.set3 (u0 := (Value.bool cB)) (u1 := (Value.slice cxO cxL cxC)) (u2 := (Value.slice cyO cyL cyC)) hbb; rw [← hwE] at hc
    replace hbq := hbq.set3o (u0 := (Value.bool cB)) (u1 := (Value.slice cxO cxL cxC)) (u2 := (Value.slice cyO cyL cyC)) (show pq ≠ pb by have := HP.out; omega); rw [← hwE] at hbq
    replace hbv := hbv.set3o (u0 := (Value.bool cB)) (u1 := (Value.slice cxO cxL cxC)) (u2 := (Value.slice cyO cyL cyC)) (show pv ≠ pb by have := HP.out; omega); rw [← hwE] at hbv
    replace hbf := below_set3 (u0 := (Value.bool cB)) (u1 := (Value.slice cxO cxL cxC)) (u2 := (Value.slice cyO cyL cyC)) hbf (show w.heap.size ≤ pb by have := HP.out; omega); rw [← hwE] at hbf
    replace hbb := hbb.set3 (u0 := (Value.bool cB)) (u1 := (Value.slice cxO cxL cxC)) (u2 := (Value.slice cyO cyL cyC)); rw [← hwE] at hbb; clear hwE
    have hnb := hc
    rw [HBE.out] at hnb
    obtain ⟨c9, hc9⟩ : ∃ c, qcmp (r + -(fval E F n)) (bq + -r) = c := ⟨_, rfl⟩
    have hmo := near_c hr0 HBQ.out hc9
    have H3 := Lib.hid (show c9 = -1 ∨ c9 = 0 ∨ c9 = 1 by rw [← hc9]; exact qcmp_three _ _)
    have HC := Lib.hid hc9
    have HMO := Lib.hid hmo
    clear hc9 hmo
    have hq1 := hqb.add hqn.neg
    have hq2 := hbqb.add hnq
    have eq0 := hbq.c0
    have eq1 := hbq.c1
    have eq2 := hbq.c2
    have ev0 := hbv.c0
    have ev1 := hbv.c1
    have ev2 := hbv.c2
    have eb0 := hbb.c0
    have eb1 := hbb.c1
    have eb2 := hbb.c2
    go_wp2_with fail
    clear eq0 eq1 eq2 ev0 ev1 ev2 eb0 eb1 eb2
    refine wp_region_seqQ (S := fun w' => Box3 w' pq (Value.bool false) (Value.slice qxO qxL qxC) (Value.slice qyO qyL qyC) ∧ Box3 w' pv (Value.bool vB) (Value.slice vxO vxL vxC) (Value.slice vyO vyL vyC) ∧ Box3 w' pb (Value.bool cB) (Value.slice cxO cxL cxC) (Value.slice cyO cyL cyC)) [(0, 32, some 62), (0, 256, some 63), (2, 9223372036854775808, some 64), (5, 23058430092136939520, some 65), (0, 1024, some 66), (0, 32, some 67), (40, 147573952589676412928, some 68), (80, 368934881474191032320, some 69), (136, 627189298506124754944, some 70), (511, 1180591620717411303424, some 13)] [(true, 0), (true, 1), (true, 4), (true, 5), (false, 2), (false, 3), (false, 6), (false, 7), (false, 8), (true, 9)] (by kernel_rfl) (by kernel_rfl) (by kernel_rfl) (by kernel_rfl) (by kernel_rfl) (by kernel_rfl) (fun d _ _ _ _ h => by cases d <;> exact h) ⟨hbq.drew, hbv.drew, hbb.drew⟩ (fun _ => ?_)
    simp only [pickOps, List.append_eq, List.cons_append, List.nil_append, List.getElem?_toArray, List.getElem?_cons_succ, List.getElem?_cons_zero]
    have hb : Below w7.heap.size w7 w7.drew := (Below.refl _ _).drew
    generalize w7.drew = w8 at hb ⊢
    replace hbq := hbq.kept hb
    replace hbv := hbv.kept hb
    replace hbb := hbb.kept hb
    replace h := h.below hb
    replace hvx := hvx.below hb
    replace hvy := hvy.below hb
    replace hv := hv.below hb
    replace hcx := hcx.below hb
    replace hcy := hcy.below hb
    replace hc := hc.below hb
    replace hnb := hnb.below hb
    replace hbf := hbf.trans (hb.mono hbf.size)
    clear hb
    repeat (first | (refine seq_take (v := ?_) (by rfl) ?_ ?_; rotate_left; (· intro w hSw; (try dsimp only at hSw); obtain ⟨⟨eq0, eq1, eq2, _, _, _⟩, ⟨ev0, ev1, ev2, _, _, _⟩, ⟨eb0, eb1, eb2, _, _, _⟩⟩ := hSw; go_simp; all_goals with_reducible rfl); (try simp only [Act.put, List.setIfInBounds_toArray, List.set_cons_zero, List.set_cons_succ])) | (refine seq_leave (by rfl) ?_; (try simp only [Act.put, List.setIfInBounds_toArray, List.set_cons_zero, List.set_cons_succ])))
    refine seq_step (by rfl) (fun K hK => ?_)
    go_simp
    go_at_call 45
    (with_reducible refine (rqminus_any _ (fval E F n) 66 _ hv hqn (by decide)).mono ?_)
    rintro e w9 hq9
    obtain ⟨iB, ixO, ixL, ixC, iyO, iyL, iyC, rfl, hS, hix, hiy, hi, hb⟩ := hq9.out
    have HiS := Lib.hid hS; clear hS
    replace hbq := hbq.kept hb
    replace hbv := hbv.kept hb
    replace hbb := hbb.kept hb
    replace h := h.below hb
    replace hvx := hvx.below hb
    replace hvy := hvy.below hb
    replace hv := hv.below hb
    replace hcx := hcx.below hb
    replace hcy := hcy.below hb
    replace hc := hc.below hb
    replace hnb := hnb.below hb
    replace hbf := hbf.trans (hb.mono hbf.size)
    clear hb
    first | refine hK.out _ _ ⟨hbq, hbv, hbb⟩ (fun _ => ?_) | (go_wp2_with fail; refine hK.out _ _ ⟨hbq, hbv, hbb⟩ (fun _ => ?_))
    clear hK K
    (try simp only [Act.put, List.setIfInBounds_toArray, List.set_cons_zero, List.set_cons_succ])
    refine seq_step (by rfl) (fun K hK => ?_)
    go_simp
    go_at_call 48
    (with_reducible refine (rqadd_any _ _ r (-(fval E F n)) k 66 _ h hi hqb hqn.neg (by omega)).mono ?_)
    rintro e w10 hq9
    obtain ⟨jB, jxO, jxL, jxC, jyO, jyL, jyC, rfl, hS, hjx, hjy, hj, hb⟩ := hq9.out
    have HjS := Lib.hid hS; clear hS
    replace hbq := hbq.kept hb
    replace hbv := hbv.kept hb
    replace hbb := hbb.kept hb
    replace h := h.below hb
    replace hvx := hvx.below hb
    replace hvy := hvy.below hb
    replace hv := hv.below hb
    replace hcx := hcx.below hb
    replace hcy := hcy.below hb
    replace hc := hc.below hb
    replace hnb := hnb.below hb
    replace hix := hix.below hb
    replace hiy := hiy.below hb
    replace hi := hi.below hb
    replace hbf := hbf.trans (hb.mono hbf.size)
    clear hb
    first | refine hK.out _ _ ⟨hbq, hbv, hbb⟩ (fun _ => ?_) | (go_wp2_with fail; refine hK.out _ _ ⟨hbq, hbv, hbb⟩ (fun _ => ?_))
    clear hK K
    (try simp only [Act.put, List.setIfInBounds_toArray, List.set_cons_zero, List.set_cons_succ])
    refine seq_step (by rfl) (fun K hK => ?_)
    go_simp
    go_at_call 45
    (with_reducible refine (rqminus_any _ r k _ h hqb (by omega)).mono ?_)
    rintro e w11 hq9
    obtain ⟨lB, lxO, lxL, lxC, lyO, lyL, lyC, rfl, hS, hlx, hly, hl, hb⟩ := hq9.out
    have HlS := Lib.hid hS; clear hS
    replace hbq := hbq.kept hb
    replace hbv := hbv.kept hb
    replace hbb := hbb.kept hb
    replace h := h.below hb
    replace hvx := hvx.below hb
    replace hvy := hvy.below hb
    replace hv := hv.below hb
    replace hcx := hcx.below hb
    replace hcy := hcy.below hb
    replace hc := hc.below hb
    replace hnb := hnb.below hb
    replace hix := hix.below hb
    replace hiy := hiy.below hb
    replace hi := hi.below hb
    replace hjx := hjx.below hb
    replace hjy := hjy.below hb
    replace hj := hj.below hb
    replace hbf := hbf.trans (hb.mono hbf.size)
    clear hb
    first | refine hK.out _ _ ⟨hbq, hbv, hbb⟩ (fun _ => ?_) | (go_wp2_with fail; refine hK.out _ _ ⟨hbq, hbv, hbb⟩ (fun _ => ?_))
    clear hK K
    (try simp only [Act.put, List.setIfInBounds_toArray, List.set_cons_zero, List.set_cons_succ])
    refine seq_step (by rfl) (fun K hK => ?_)
    go_simp
    go_at_call 48
    (with_reducible refine (rqadd_any _ _ bq (-r) 200 k _ hnb hl hbqb hnq (by omega)).mono ?_)
    rintro e w12 hq9
    obtain ⟨oB, oxO, oxL, oxC, oyO, oyL, oyC, rfl, hS, hox, hoy, ho, hb⟩ := hq9.out
    have HoS := Lib.hid hS; clear hS
    replace hbq := hbq.kept hb
    replace hbv := hbv.kept hb
    replace hbb := hbb.kept hb
    replace h := h.below hb
    replace hvx := hvx.below hb
    replace hvy := hvy.below hb
    replace hv := hv.below hb
    replace hcx := hcx.below hb
    replace hcy := hcy.below hb
    replace hc := hc.below hb
    replace hnb := hnb.below hb
    replace hix := hix.below hb
    replace hiy := hiy.below hb
    replace hi := hi.below hb
    replace hjx := hjx.below hb
    replace hjy := hjy.below hb
    replace hj := hj.below hb
    replace hlx := hlx.below hb
    replace hly := hly.below hb
    replace hl := hl.below hb
    replace hbf := hbf.trans (hb.mono hbf.size)
    clear hb
    first | refine hK.out _ _ ⟨hbq, hbv, hbb⟩ (fun _ => ?_) | (go_wp2_with fail; refine hK.out _ _ ⟨hbq, hbv, hbb⟩ (fun _ => ?_))
    clear hK K
    (try simp only [Act.put, List.setIfInBounds_toArray, List.set_cons_zero, List.set_cons_succ])
    refine seq_step (by rfl) (fun K hK => ?_)
    go_simp
    go_at_call 43
    (with_reducible refine (rqcmp_c _ _ (r + -(fval E F n)) (bq + -r) c9 (k + 66 + 1) (200 + k + 1) _ hj ho hq1 hq2 (by omega) HC).mono ?_)
    rintro e w13 ⟨rfl, hb⟩
    replace hbq := hbq.kept hb
    replace hbv := hbv.kept hb
    replace hbb := hbb.kept hb
    replace h := h.below hb
    replace hvx := hvx.below hb
    replace hvy := hvy.below hb
    replace hv := hv.below hb
    replace hcx := hcx.below hb
    replace hcy := hcy.below hb
    replace hc := hc.below hb
    replace hnb := hnb.below hb
    replace hix := hix.below hb
    replace hiy := hiy.below hb
    replace hi := hi.below hb
    replace hjx := hjx.below hb
    replace hjy := hjy.below hb
    replace hj := hj.below hb
    replace hlx := hlx.below hb
    replace hly := hly.below hb
    replace hl := hl.below hb
    replace hox := hox.below hb
    replace hoy := hoy.below hb
    replace ho := ho.below hb
    replace hbf := hbf.trans (hb.mono hbf.size)
    clear hb
    first | refine hK.out _ _ ⟨hbq, hbv, hbb⟩ (fun _ => ?_) | (go_wp2_with fail; refine hK.out _ _ ⟨hbq, hbv, hbb⟩ (fun _ => ?_))
    clear hK K
    (try simp only [Act.put, List.setIfInBounds_toArray, List.set_cons_zero, List.set_cons_succ])
    repeat (first | (refine seq_take (v := ?_) (by rfl) ?_ ?_; rotate_left; (· intro w hSw; (try dsimp only at hSw); obtain ⟨⟨eq0, eq1, eq2, _, _, _⟩, ⟨ev0, ev1, ev2, _, _, _⟩, ⟨eb0, eb1, eb2, _, _, _⟩⟩ := hSw; go_simp; all_goals with_reducible rfl); (try simp only [Act.put, List.setIfInBounds_toArray, List.set_cons_zero, List.set_cons_succ])) | (refine seq_leave (by rfl) ?_; (try simp only [Act.put, List.setIfInBounds_toArray, List.set_cons_zero, List.set_cons_succ])))
    refine seq_end ?_
    rcases H3.out with rfl | rfl | rfl
    · skip
      obtain rfl : m9 = n := by rw [HM2.out, HMO.out, decide_eq_false (by omega)]; rfl
      go_wp2_with fail
      go_ret
      exact ⟨ret_one (by first | rfl | (congr 1; omega)), hbf⟩
    · skip
      by_cases hpar : n % 2 = 1
      case pos =>
        have hrem : (((n : Int) % 2) == 0) = false := by rw [beq_eq_false_iff_ne, ne_eq]; omega
        obtain rfl : m9 = n + 1 := by rw [HM2.out, HMO.out, decide_eq_true (.inr ⟨rfl, hpar⟩)]; rfl
        go_wp2_with fail
        go_ret
        exact ⟨ret_one (by first | rfl | (congr 1; omega)), hbf⟩
      case neg =>
        have hrem : (((n : Int) % 2) == 0) = true := by rw [beq_iff_eq]; omega
        obtain rfl : m9 = n := by rw [HM2.out, HMO.out, decide_eq_false (by omega)]; rfl
        go_wp2_with fail
        go_ret
        exact ⟨ret_one (by first | rfl | (congr 1; omega)), hbf⟩
    · skip
      obtain rfl : m9 = n + 1 := by rw [HM2.out, HMO.out, decide_eq_true (.inl rfl)]; rfl
      go_wp2_with fail
      go_ret
      exact ⟨ret_one (by first | rfl | (congr 1; omega)), hbf⟩

set_option maxRecDepth 100000 in
set_option maxHeartbeats 1000000 in
/-- Nearest. -/
theorem rnear_any (E F n k : Nat) (v : Value) (r : Rat) (w : World) (m9 : Nat) (HM : Hid (m9 = fnear E F r n)) (hE2 : 2 ≤ E) (hE : E ≤ 11) (hF1 : 1 ≤ F) (hF : F ≤ 52) (h : RQIs w v r) (hqb : QB r k) (hk9 : k ≤ 40000) (hu : Under E F (qabs r) n) :
    Calls Tryz.prog 16 #[.int .i64 (E : Int), .int .i64 (F : Int), v] w fun e w' => e = .returned (.int .u64 (m9 : Int)) ∧ Below w.heap.size w w' := by
  have hk : k ≤ 80000 := by omega
  by_cases hr0 : r < 0
  case neg => exact rnear_pos E F n k v r w m9 HM hE2 hE hF1 hF h hqb hk9 hu hr0
  obtain ⟨qB, qxO, qxL, qxC, qyO, qyL, qyC, rfl, hS, hqx, hqy⟩ := h.form
  have HqS := Lib.hid hS; clear hS
  clear hqx hqy
  obtain ⟨w0, hw0⟩ : ∃ w0, w0 = (w.alloc (.cells #[.bool qB, .slice qxO qxL qxC, .slice qyO qyL qyC] 37)) := ⟨_, rfl⟩
  have hbf : Below w.heap.size w w0 := by rw [hw0]; exact ((Below.refl _ w).alloc (Nat.le_refl _) _)
  obtain ⟨pq, hpq⟩ : ∃ p, p = w.heap.size := ⟨_, rfl⟩
  have hbq : Box3 w0 pq (Value.bool qB) (Value.slice qxO qxL qxC) (Value.slice qyO qyL qyC) := by rw [hw0, hpq]; exact ⟨by go_simp, by go_simp, by go_simp, by go_simp, by go_simp, by go_simp⟩
  have HP : Hid (w.heap.size ≤ pq) := Lib.hid (by omega)
  replace h := h.below hbf
  have HW := Lib.hid hw0; clear hw0
  go_enter Tryz.func16, Tryz.ntmps16
  go_upto_region 1 with fail
  rw [← HW.out, ← hpq]
  clear hpq HW
  have hnI := hu.lt
  have hIl : finf E F < fsgn E F := finf_lt E F
  have hSl := fsgn_63 hE hF
  have hn64 : n < 18446744073709551616 := by omega
  have hqn := fval_qb hE hF hnI
  have HV := Lib.hid (dval_self hnI)
  have hnq := hqb.neg
  obtain rfl : qB = true := by rw [HqS.out]; exact decide_eq_true hr0
  have hu2 : Under E F (-r) n := by rw [← qabs_ng hr0]; exact hu
  have hm2 := fnear_nn (E := E) (F := F) (n := n) (neg_nn hr0) rfl
  have hu3 : Under E F (qabs (-r)) n := by rw [qabs_neg]; exact hu
  obtain ⟨m8, hm8⟩ : ∃ m, m = fnear E F (-r) n := ⟨_, rfl⟩
  have HM8 := Lib.hid hm8
  rw [← hm8, fmore_neg] at hm2
  have hml : m8 < fsgn E F := by rw [hm2]; split <;> omega
  obtain rfl : m9 = dsign E F true m8 := by rw [HM.out]; unfold fnear; rw [decide_eq_true hr0, hm2]
  clear hm8 hm2
  have eq0 := hbq.c0
  have eq1 := hbq.c1
  have eq2 := hbq.c2
  go_wp2_with fail
  refine (rqminus_any _ r k _ h hqb (by omega)).mono ?_
  rintro e w1 hq9
  obtain ⟨mB, mxO, mxL, mxC, myO, myL, myC, rfl, hS, hmx, hmy, hm, hb⟩ := hq9.out
  have HmS := Lib.hid hS; clear hS
  clear eq0 eq1 eq2
  replace hbq := hbq.kept hb
  replace h := h.below hb
  replace hbf := hbf.trans (hb.mono hbf.size)
  clear hb
  go_wp2_with fail
  refine (rnear_pos E F n k _ (-r) _ m8 HM8 hE2 hE hF1 hF hm hnq hk9 hu3 (neg_nn hr0)).mono ?_
  rintro e w2 ⟨rfl, hb⟩
  replace hbq := hbq.kept hb
  replace h := h.below hb
  replace hmx := hmx.below hb
  replace hmy := hmy.below hb
  replace hm := hm.below hb
  replace hbf := hbf.trans (hb.mono hbf.size)
  clear hb
  go_wp2_with fail
  refine (rsign_any E F m8 _ hE hF hml).mono ?_
  rintro e w3 ⟨rfl, hb⟩
  replace hbq := hbq.kept hb
  replace h := h.below hb
  replace hmx := hmx.below hb
  replace hmy := hmy.below hb
  replace hm := hm.below hb
  replace hbf := hbf.trans (hb.mono hbf.size)
  clear hb
  go_wp2_with fail
  go_ret
  exact ⟨rfl, hbf⟩

end Go.Proofs.YtanicapbdigjaaaGreatDoor
