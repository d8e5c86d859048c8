/-
  Predicates: truth, order, field, compare, Eval of a comparison of two numbers.
-/
import Derived.Test.YtafmhoeammbemaaDoorValB
namespace Go.Proofs.YtafmhoeammbemaaDoor
open Go.RowKit
set_option linter.unusedVariables false
set_option linter.unusedSimpArgs false
/-- Yes or No. -/
def tv (b : Bool) : Int := if b = true then 1 else 0
/-- Whether a comparison is so, of numbers that compare so. -/
def ordB (op c : Int) : Bool := if op = 3 then decide (c < 0) else if op = 4 then decide (c ≤ 0) else if op = 5 then decide (c = 0) else if op = 6 then decide (c ≠ 0) else if op = 7 then decide (0 ≤ c) else decide (0 < c)
set_option maxRecDepth 100000 in
theorem truth_any (b : Bool) (w : World) : Calls Tryd.prog 15 #[.bool b] w fun e w' => e = .returned (.int .i64 (tv b)) ∧ Below w.heap.size w w' := by
  cases b
  all_goals
    go_enter Tryd.func15, Tryd.ntmps15
    go_wp2_with fail
    go_ret
    exact ⟨rfl, Below.refl _ _⟩
set_option maxRecDepth 100000 in
set_option maxHeartbeats 2000000 in
theorem order_any (op c : Int) (w : World) (hop : op = 3 ∨ op = 4 ∨ op = 5 ∨ op = 6 ∨ op = 7 ∨ op = 8) (hc : c = -1 ∨ c = 0 ∨ c = 1) :
    Calls Tryd.prog 24 #[.int .i64 op, .int .i64 c] w fun e w' => e = .returned (.bool (ordB op c)) ∧ Below w.heap.size w w' := by
  rcases hop with rfl | rfl | rfl | rfl | rfl | rfl <;> rcases hc with rfl | rfl | rfl
  all_goals
    go_enter Tryd.func24, Tryd.ntmps24
    go_wp2_with fail
    go_ret
    exact ⟨rfl, Below.refl _ _⟩
theorem order_b (op c : Int) (b : Bool) (w : World) (hop : op = 3 ∨ op = 4 ∨ op = 5 ∨ op = 6 ∨ op = 7 ∨ op = 8) (hc : c = -1 ∨ c = 0 ∨ c = 1) (HB : Hid (b = ordB op c)) :
    Calls Tryd.prog 24 #[.int .i64 op, .int .i64 c] w fun e w' => e = .returned (.bool b) ∧ Below w.heap.size w w' := by
  rw [HB.out]; exact order_any op c w hop hc
theorem truth_b (b : Bool) (z : Int) (w : World) (HZ : Hid (z = tv b)) : Calls Tryd.prog 15 #[.bool b] w fun e w' => e = .returned (.int .i64 z) ∧ Below w.heap.size w w' := by
  rw [HZ.out]; exact truth_any b w
set_option maxRecDepth 100000 in
set_option maxHeartbeats 1000000 in
/-- field, of a value that may be. -/
theorem field_q (ao : Option Addr) (cap : Nat) (vs : List V3) (k : Nat) (v : V3) (w : World) (hv : Vals w ao vs) (hk : vs[k]? = some v) (HV : Hid (true = vvalid v.k v.n v.c)) (hn : v.n.length ≤ 1000000) (hlen : vs.length ≤ 1000000) :
    Calls Tryd.prog 13 #[.slice ao vs.length cap, .int .i64 (k : Int)] w fun e w' => e = .returned (valV v.k v.n v.c) ∧ Below w.heap.size w w' := by
  obtain ⟨b, off, rfl, c0, c1, c2⟩ := hv k v hk
  have hkl : k < vs.length := (List.getElem?_eq_some_iff.1 hk).1
  obtain ⟨w0, hw0⟩ : ∃ w0, w0 = (w.alloc (.cells #[.int .i64 0, .string ⟨#[]⟩, .string ⟨#[]⟩] 23)) := ⟨_, rfl⟩
  have hbf : Below w.heap.size w w0 := by rw [hw0]; exact ((Below.refl _ w).alloc (Nat.le_refl _) _)
  obtain ⟨pv, hpv⟩ : ∃ p, p = w.heap.size := ⟨_, rfl⟩
  have hbv : Box3 w0 pv (Value.int .i64 0) (Value.string ⟨#[]⟩) (Value.string ⟨#[]⟩) := by rw [hw0, hpv]; exact ⟨by go_simp, by go_simp, by go_simp, by go_simp, by go_simp, by go_simp⟩
  have HP : Hid (w.heap.size ≤ pv) := Lib.hid (by omega)
  have HW := Lib.hid hw0; clear hw0
  replace c0 := c0.kept hbf
  replace c1 := c1.kept hbf
  replace c2 := c2.kept hbf
  have q1 : (k : Int) < (vs.length : Int) := by omega
  have q2 : (0 : Int) ≤ (k : Int) := by omega
  go_enter Tryd.func13, Tryd.ntmps13
  go_upto_region 1 with fail
  rw [← HW.out, ← hpv]
  clear hpv HW hv hk
  have e0 := c0.cell
  have e1 := c1.cell
  have e2 := c2.cell
  go_wp2_with fail
  refine (vvalid_b v.k v.n v.c true w0 HV hn).mono ?_
  rintro e w1 ⟨rfl, hb1⟩
  replace hbf := hbf.trans (hb1.mono hbf.size)
  replace hbv := hbv.kept hb1
  replace c0 := c0.kept hb1
  replace c1 := c1.kept hb1
  replace c2 := c2.kept hb1
  clear e0 e1 e2 hb1
  have e0 := c0.cell
  have e1 := c1.cell
  have e2 := c2.cell
  have u0 := hbv.c0
  have u1 := hbv.c1
  have u2 := hbv.c2
  have f0 := hbv.f0
  have f1 := hbv.f1
  have f2 := hbv.f2
  go_wp2_with fail
  exact end_v rfl rfl rfl hbv HP.out hbf
set_option maxRecDepth 100000 in
set_option maxHeartbeats 2000000 in
/-- compare, of two numbers. -/
theorem compare_q (op : Int) (n m : List UInt8) (g : Nat) (c : Int) (z : Int) (w : World) (hop : op = 3 ∨ op = 4 ∨ op = 5 ∨ op = 6 ∨ op = 7 ∨ op = 8) (hv : Vals w (some ⟨g, 0, none⟩) [⟨1, m, []⟩]) (hn : n.length ≤ 1000000) (hm : m.length ≤ 1000000)
    (HN : Hid (qcode n = 0)) (HM : Hid (qcode m = 0)) (hBn : QB (qval n) 20000) (hBm : QB (qval m) 20000) (HC : Hid (qcmp (qval n) (qval m) = c)) (hc : c = -1 ∨ c = 0 ∨ c = 1) (HZ : Hid (z = tv (ordB op c))) :
    Calls Tryd.prog 14 #[.int .i64 op, valV 1 n [], .slice (some ⟨g, 0, none⟩) 1 1] w fun e w' => e = .returned (.int .i64 z) ∧ Below w.heap.size w w' := by
  obtain ⟨b, off, hbo, c0, c1, c2⟩ := hv 0 _ rfl
  cases hbo
  have HBn := Lib.hid hBn
  have HBm := Lib.hid hBm
  clear hBn hBm
  obtain ⟨w0, hw0⟩ : ∃ w0, w0 = (w.alloc (.cells #[.int .i64 1, .string ⟨n.toArray⟩, .string ⟨#[]⟩] 23)) := ⟨_, rfl⟩
  have hbf : Below w.heap.size w w0 := by rw [hw0]; exact ((Below.refl _ w).alloc (Nat.le_refl _) _)
  obtain ⟨pv, hpv⟩ : ∃ p, p = w.heap.size := ⟨_, rfl⟩
  have hbv : Box3 w0 pv (Value.int .i64 1) (Value.string ⟨n.toArray⟩) (Value.string ⟨#[]⟩) := by rw [hw0, hpv]; exact ⟨by go_simp, by go_simp, by go_simp, by go_simp, by go_simp, by go_simp⟩
  have HP : Hid (w.heap.size ≤ pv) := Lib.hid (by omega)
  have HW := Lib.hid hw0; clear hw0
  replace c0 := c0.kept hbf
  replace c1 := c1.kept hbf
  replace c2 := c2.kept hbf
  go_enter Tryd.func14, Tryd.ntmps14
  go_upto_region 1 with fail
  rw [← HW.out, ← hpv]
  clear hpv HW hv
  have u0 := hbv.c0
  have u1 := hbv.c1
  have u2 := hbv.c2
  have e0 := c0.cell
  have e1 := c1.cell
  have e2 := c2.cell
  go_upto_region 4 with fail
  clear e0 e1 e2 u0 u1 u2 c0 c1 c2
  obtain ⟨w1, hw⟩ : ∃ x, x = w0.alloc (.cells #[.int .i64 1, .string ⟨m.toArray⟩, .string ⟨#[]⟩] 23) := ⟨_, rfl⟩
  have hb : Below w0.heap.size w0 w1 := by rw [hw]; exact (Below.refl _ _).alloc (Nat.le_refl _) _
  obtain ⟨pw, hpw⟩ : ∃ p, p = w0.heap.size := ⟨_, rfl⟩
  have hbw : Box3 w1 pw (Value.int .i64 1) (Value.string ⟨m.toArray⟩) (Value.string ⟨#[]⟩) := by rw [hw, hpw]; exact ⟨by go_simp, by go_simp, by go_simp, by go_simp, by go_simp, by go_simp⟩
  replace hbv := hbv.kept hb
  replace hbf := hbf.trans (hb.mono hbf.size)
  rw [← hw, ← hpw]
  clear hw hpw hb
  have HVn : Hid (true = vnum 1 n []) := Lib.hid (by simp [vnum, HN.out])
  have HVm : Hid (true = vnum 1 m []) := Lib.hid (by simp [vnum, HM.out])
  have HQn : Hid (qval n = vq 1 n []) := Lib.hid (by unfold vq; rw [← HVn.out]; rfl)
  have HQm : Hid (qval m = vq 1 m []) := Lib.hid (by unfold vq; rw [← HVm.out]; rfl)
  have u0 := hbv.c0
  have u1 := hbv.c1
  have u2 := hbv.c2
  go_wp2_with fail
  refine (vnum_q 1 n [] (qval n) true w1 HVn HQn hn).mono ?_
  rintro e w3a hP
  obtain ⟨sa, xao, xal, xac, yao, yal, yac, rfl, hsn, hxn, hyn, hqn, hb⟩ := hP.out
  clear hP hxn hyn hsn
  clear u0 u1 u2
  replace hbw := hbw.kept hb
  replace hbf := hbf.trans (hb.mono hbf.size)
  clear hb
  obtain ⟨w3, hw⟩ : ∃ x, x = w3a.alloc (.cells #[.bool sa, .slice xao xal xac, .slice yao yal yac] 55) := ⟨_, rfl⟩
  have hb : Below w3a.heap.size w3a w3 := by rw [hw]; exact (Below.refl _ _).alloc (Nat.le_refl _) _
  obtain ⟨pa, hpb⟩ : ∃ p, p = w3a.heap.size := ⟨_, rfl⟩
  have hbpa : Box3 w3 pa (.bool sa) (.slice xao xal xac) (.slice yao yal yac) := by rw [hw, hpb]; exact ⟨by go_simp, by go_simp, by go_simp, by go_simp, by go_simp, by go_simp⟩
  replace hbw := hbw.kept hb
  replace hqn := hqn.below hb
  replace hbf := hbf.trans (hb.mono hbf.size)
  have HW := Lib.hid hw
  clear hw hb
  go_upto_region 5 with fail
  rw [← HW.out, ← hpb]
  clear HW hpb
  have u0 := hbw.c0
  have u1 := hbw.c1
  have u2 := hbw.c2
  go_wp2_with fail
  refine (vnum_q 1 m [] (qval m) true w3 HVm HQm hm).mono ?_
  rintro e w5a hP
  obtain ⟨sb, xbo, xbl, xbc, ybo, ybl, ybc, rfl, hsm, hxm, hym, hqm, hb⟩ := hP.out
  clear hP hxm hym hsm
  clear u0 u1 u2
  replace hbpa := hbpa.kept hb
  replace hqn := hqn.below hb
  replace hbf := hbf.trans (hb.mono hbf.size)
  clear hb
  obtain ⟨w5, hw⟩ : ∃ x, x = w5a.alloc (.cells #[.bool sb, .slice xbo xbl xbc, .slice ybo ybl ybc] 55) := ⟨_, rfl⟩
  have hb : Below w5a.heap.size w5a w5 := by rw [hw]; exact (Below.refl _ _).alloc (Nat.le_refl _) _
  obtain ⟨pb, hpb⟩ : ∃ p, p = w5a.heap.size := ⟨_, rfl⟩
  have hbpb : Box3 w5 pb (.bool sb) (.slice xbo xbl xbc) (.slice ybo ybl ybc) := by rw [hw, hpb]; exact ⟨by go_simp, by go_simp, by go_simp, by go_simp, by go_simp, by go_simp⟩
  replace hbpa := hbpa.kept hb
  replace hqm := hqm.below hb
  replace hqn := hqn.below hb
  replace hbf := hbf.trans (hb.mono hbf.size)
  have HW := Lib.hid hw
  clear hw hb
  go_upto_region 6 with fail
  rw [← HW.out, ← hpb]
  clear HW hpb
  have e0 := hbpa.c0
  have e1 := hbpa.c1
  have e2 := hbpa.c2
  have u0 := hbpb.c0
  have u1 := hbpb.c1
  have u2 := hbpb.c2
  go_wp2_with fail
  refine (cmp_c _ _ (qval n) (qval m) c 20000 20000 w5 hqn hqm HBn.out HBm.out (by decide) HC).mono ?_
  rintro e w6 ⟨rfl, hb⟩
  clear e0 e1 e2 u0 u1 u2
  replace hbf := hbf.trans (hb.mono hbf.size)
  clear hb
  obtain ⟨b, hb⟩ : ∃ b, b = ordB op c := ⟨_, rfl⟩
  have HB := Lib.hid hb
  rw [← hb] at HZ
  clear hb
  go_wp2_with fail
  refine (order_b op c b w6 hop hc HB).mono ?_
  rintro e w7 ⟨rfl, hb⟩
  replace hbf := hbf.trans (hb.mono hbf.size)
  clear hb
  go_wp2_with fail
  refine (truth_b b z w7 HZ).mono ?_
  rintro e w8 ⟨rfl, hb⟩
  replace hbf := hbf.trans (hb.mono hbf.size)
  clear hb
  go_wp2_with fail
  go_ret
  exact ⟨rfl, hbf⟩
set_option maxRecDepth 100000 in
set_option maxHeartbeats 4000000 in
/-- Eval, of a comparison of two numbers. -/
theorem eval_q (op : Int) (ao : Option Addr) (cap : Nat) (vs : List V3) (k : Nat) (n m : List UInt8) (g : Nat) (c z : Int) (w : World) (hop : op = 3 ∨ op = 4 ∨ op = 5 ∨ op = 6 ∨ op = 7 ∨ op = 8) (hv : Vals w ao vs) (hk : vs[k]? = some ⟨1, n, []⟩) (hlen : vs.length ≤ 1000000) (hu : Vals w (some ⟨g, 0, none⟩) [⟨1, m, []⟩]) (hn : n.length ≤ 1000000) (hm : m.length ≤ 1000000)
    (HN : Hid (qcode n = 0)) (HM : Hid (qcode m = 0)) (hqn : QB (qval n) 20000) (hqm : QB (qval m) 20000) (HC : Hid (qcmp (qval n) (qval m) = c)) (hc : c = -1 ∨ c = 0 ∨ c = 1) (HZ : Hid (z = tv (ordB op c))) :
    Calls Tryd.prog 7 #[.agg #[.int .i64 op, .int .i64 (k : Int), .slice (some ⟨g, 0, none⟩) 1 1, .slice none 0 0], .slice ao vs.length cap] w fun e w' => e = .returned (.int .i64 z) ∧ Below w.heap.size w w' := by
  obtain ⟨w0, hw0⟩ : ∃ w0, w0 = w.alloc (.cells #[.int .i64 op, .int .i64 (k : Int), .slice (some ⟨g, 0, none⟩) 1 1, .slice none 0 0] 32) := ⟨_, rfl⟩
  have hbf : Below w.heap.size w w0 := by rw [hw0]; exact (Below.refl _ w).alloc (Nat.le_refl _) _
  obtain ⟨pp, hpp⟩ : ∃ p, p = w.heap.size := ⟨_, rfl⟩
  have c0 : CellV w0 pp 0 (.int .i64 op) := by rw [hw0, hpp]; exact ⟨by go_simp⟩
  have c1 : CellV w0 pp 1 (.int .i64 (k : Int)) := by rw [hw0, hpp]; exact ⟨by go_simp⟩
  have c2 : CellV w0 pp 2 (.slice (some ⟨g, 0, none⟩) 1 1) := by rw [hw0, hpp]; exact ⟨by go_simp⟩
  have HW := Lib.hid hw0
  clear hw0
  replace hv := hv.below hbf
  replace hu := hu.below hbf
  have HVV : Hid (true = vvalid 1 n []) := Lib.hid (by simp [vvalid, vnum, HN.out])
  go_enter Tryd.func7, Tryd.ntmps7
  go_upto_region 1 with fail
  rw [← HW.out, ← hpp]
  clear HW hpp
  have e1 := c1.cell
  go_wp2_with fail
  refine (field_q ao cap vs k ⟨1, n, []⟩ w0 hv hk HVV hn hlen).mono ?_
  rintro e w1 ⟨rfl, hb1⟩
  clear e1
  replace hbf := hbf.trans (hb1.mono hbf.size)
  replace hu := hu.below hb1
  replace c0 := c0.kept hb1
  replace c2 := c2.kept hb1
  clear hb1 c1 hv hk
  obtain ⟨w2, hw2⟩ : ∃ w2, w2 = w1.alloc (.cells #[.int .i64 1, .string ⟨n.toArray⟩, .string ⟨#[]⟩] 23) := ⟨_, rfl⟩
  have hb2 : Below w1.heap.size w1 w2 := by rw [hw2]; exact (Below.refl _ w1).alloc (Nat.le_refl _) _
  obtain ⟨pv, hpv⟩ : ∃ p, p = w1.heap.size := ⟨_, rfl⟩
  have hbv : Box3 w2 pv (Value.int .i64 1) (Value.string ⟨n.toArray⟩) (Value.string ⟨#[]⟩) := by rw [hw2, hpv]; exact ⟨by go_simp, by go_simp, by go_simp, by go_simp, by go_simp, by go_simp⟩
  replace hbf := hbf.trans (hb2.mono hbf.size)
  replace hu := hu.below hb2
  replace c0 := c0.kept hb2
  replace c2 := c2.kept hb2
  have HW2 := Lib.hid hw2
  clear hw2 hb2
  go_upto_region 2 with fail
  rw [← HW2.out, ← hpv]
  clear HW2 hpv
  have e0 := c0.cell
  have e2 := c2.cell
  have u0 := hbv.c0
  have u1 := hbv.c1
  have u2 := hbv.c2
  rcases hop with rfl | rfl | rfl | rfl | rfl | rfl
  all_goals
    go_wp2_with fail
    refine (compare_q _ n m g c z w2 (by decide) hu hn hm HN HM hqn hqm HC hc HZ).mono ?_
    rintro e w3 ⟨rfl, hb3⟩
    go_wp2_with fail
    go_ret
    exact ⟨rfl, hbf.trans (hb3.mono hbf.size)⟩
end Go.Proofs.YtafmhoeammbemaaDoor
