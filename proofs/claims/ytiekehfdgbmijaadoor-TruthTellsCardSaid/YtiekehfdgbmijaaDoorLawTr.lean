/-
  TruthTells: the walk.
-/
import Derived.Test.YtiekehfdgbmijaaDoorTruA
namespace Go.Proofs.YtiekehfdgbmijaaDoor
open Go.RowKit
set_option linter.unusedVariables false
set_option linter.unusedSimpArgs false

set_option maxRecDepth 100000 in
theorem truth_early (sv : Value) (ns : List Int) (a : Int) (w : World) (hs : IntsN .i64 w sv ns) (h : 60 < ns.length) :
    Calls Tryd.prog 3 #[sv, .int .i64 a] w fun e w' => e = .returned (.bool true) ∧ Below w.heap.size w w' := by
  obtain ⟨⟨ao, ca, rfl, h1, h2, h3⟩, h4⟩ := hs
  clear h3 h4
  have hc : (60 : Int) < (ns.length : Int) := by omega
  go_enter Tryd.func3, Tryd.ntmps3
  go_wp2_with fail
  refine (alive13_any _).mono ?_
  rintro e w2 ⟨rfl, hb2⟩
  go_wp2_with fail
  go_ret
  exact ⟨rfl, hb2⟩

set_option maxRecDepth 100000 in
set_option maxHeartbeats 1000000 in
/-- TruthTells. -/
theorem truth_main (sv : Value) (ns : List Int) (a : Int) (w : World) (hs : IntsN .i64 w sv ns) (h60 : ns.length ≤ 60) :
    Calls Tryd.prog 3 #[sv, .int .i64 a] w fun e w' => e = .returned (.bool true) ∧ Below w.heap.size w w' := by
  have hv := hs.1
  have hs0 := hs
  obtain ⟨⟨ao, ca, rfl, h1, h2, h3⟩, h4⟩ := hs
  clear h1 h2 h3 h4
  have hc : ¬ (60 : Int) < (ns.length : Int) := by omega
  obtain ⟨r0, hr0a⟩ : ∃ r, andF 1 ns = r := ⟨_, rfl⟩
  have hr0b : Hid (foldF 0 0 0 0 2 ns = r0) := Lib.hid (by rw [foldF_and, ← hr0a]; simp)
  have Hr0a := Lib.hid hr0a
  clear hr0a
  have qr0 : (r0 == r0) = true := beq_self_eq_true _
  obtain ⟨r1, hr1a⟩ : ∃ r, orF 0 ns = r := ⟨_, rfl⟩
  have hr1b : Hid (foldF 1 0 0 0 2 ns = r1) := Lib.hid (by rw [foldF_or, ← hr1a]; simp)
  have Hr1a := Lib.hid hr1a
  clear hr1a
  have qr1 : (r1 == r1) = true := beq_self_eq_true _
  obtain ⟨r2, hr2a⟩ : ∃ r, xorF 0 ns = r := ⟨_, rfl⟩
  have hr2b : Hid (foldF 2 0 0 0 2 ns = r2) := Lib.hid (by rw [foldF_xor, ← hr2a]; simp)
  have Hr2a := Lib.hid hr2a
  clear hr2a
  have qr2 : (r2 == r2) = true := beq_self_eq_true _
  obtain ⟨r3, hr3a⟩ : ∃ r, firstF ns = r := ⟨_, rfl⟩
  have hr3b : Hid (foldF 3 0 0 0 2 ns = r3) := Lib.hid (by rw [foldF_first, ← hr3a]; simp)
  have Hr3a := Lib.hid hr3a
  clear hr3a
  have qr3 : (r3 == r3) = true := beq_self_eq_true _
  by_cases ha1 : a = 1
  case pos =>
    subst ha1
    go_enter Tryd.func3, Tryd.ntmps3
    go_wp2_with fail
    refine (lent_ints _ ns _ hs0 (by omega)).mono ?_
    rintro e w1 ⟨v9, rfl, hm, hb⟩
    replace hv := hv.below hb
    have hbf := hb
    clear hb
    clear hs0
    go_wp2_with fail
    refine (alive13_any _).mono ?_
    rintro e w2 ⟨rfl, hb⟩
    replace hv := hv.below hb
    replace hm := hm.below hb
    replace hbf := hbf.trans (hb.mono hbf.size)
    clear hb
    go_wp2_with fail
    refine (and_any _ ns r0 _ hm.ints Hr0a).mono ?_
    rintro e w3 ⟨rfl, hb⟩
    replace hv := hv.below hb
    replace hm := hm.below hb
    replace hbf := hbf.trans (hb.mono hbf.size)
    clear hb
    go_wp2_with fail
    refine (fold_0 _ ns r0 _ hv (by omega) hr0b).mono ?_
    rintro e w4 ⟨rfl, hb⟩
    replace hv := hv.below hb
    replace hm := hm.below hb
    replace hbf := hbf.trans (hb.mono hbf.size)
    clear hb
    go_wp2_with fail
    refine (or_any _ ns r1 _ hm.ints Hr1a).mono ?_
    rintro e w5 ⟨rfl, hb⟩
    replace hv := hv.below hb
    replace hm := hm.below hb
    replace hbf := hbf.trans (hb.mono hbf.size)
    clear hb
    go_wp2_with fail
    refine (fold_1 _ ns r1 _ hv (by omega) hr1b).mono ?_
    rintro e w6 ⟨rfl, hb⟩
    replace hv := hv.below hb
    replace hm := hm.below hb
    replace hbf := hbf.trans (hb.mono hbf.size)
    clear hb
    go_wp2_with fail
    refine (xor_any _ ns r2 _ hm.ints Hr2a).mono ?_
    rintro e w7 ⟨rfl, hb⟩
    replace hv := hv.below hb
    replace hm := hm.below hb
    replace hbf := hbf.trans (hb.mono hbf.size)
    clear hb
    go_wp2_with fail
    refine (fold_2 _ ns r2 _ hv (by omega) hr2b).mono ?_
    rintro e w8 ⟨rfl, hb⟩
    replace hv := hv.below hb
    replace hm := hm.below hb
    replace hbf := hbf.trans (hb.mono hbf.size)
    clear hb
    go_wp2_with fail
    refine (first_any _ ns r3 _ hm.ints Hr3a).mono ?_
    rintro e w9 ⟨rfl, hb⟩
    replace hv := hv.below hb
    replace hm := hm.below hb
    replace hbf := hbf.trans (hb.mono hbf.size)
    clear hb
    go_wp2_with fail
    refine (fold_3 _ ns r3 _ hv (by omega) hr3b).mono ?_
    rintro e w10 ⟨rfl, hb⟩
    replace hv := hv.below hb
    replace hm := hm.below hb
    replace hbf := hbf.trans (hb.mono hbf.size)
    clear hb
    go_wp2_with fail
    refine (not_any 1 0 _ (Lib.hid (by decide))).mono ?_
    rintro e w11 ⟨rfl, hb⟩
    replace hv := hv.below hb
    replace hm := hm.below hb
    replace hbf := hbf.trans (hb.mono hbf.size)
    clear hb
    go_wp2_with fail
    refine (stays_ints _ _ _ ns _ hm hv (by omega)).mono ?_
    rintro e w12 ⟨rfl, hb⟩
    replace hv := hv.below hb
    replace hm := hm.below hb
    replace hbf := hbf.trans (hb.mono hbf.size)
    clear hb
    go_wp2_with fail
    go_ret
    exact ⟨rfl, hbf⟩
  case neg =>
    have e1 : (a == 1) = false := by simp [ha1]
    by_cases ha0 : a = 0
    case pos =>
      subst ha0
      clear e1
      go_enter Tryd.func3, Tryd.ntmps3
      go_wp2_with fail
      refine (lent_ints _ ns _ hs0 (by omega)).mono ?_
      rintro e w1 ⟨v9, rfl, hm, hb⟩
      replace hv := hv.below hb
      have hbf := hb
      clear hb
      clear hs0
      go_wp2_with fail
      refine (alive13_any _).mono ?_
      rintro e w2 ⟨rfl, hb⟩
      replace hv := hv.below hb
      replace hm := hm.below hb
      replace hbf := hbf.trans (hb.mono hbf.size)
      clear hb
      go_wp2_with fail
      refine (and_any _ ns r0 _ hm.ints Hr0a).mono ?_
      rintro e w3 ⟨rfl, hb⟩
      replace hv := hv.below hb
      replace hm := hm.below hb
      replace hbf := hbf.trans (hb.mono hbf.size)
      clear hb
      go_wp2_with fail
      refine (fold_0 _ ns r0 _ hv (by omega) hr0b).mono ?_
      rintro e w4 ⟨rfl, hb⟩
      replace hv := hv.below hb
      replace hm := hm.below hb
      replace hbf := hbf.trans (hb.mono hbf.size)
      clear hb
      go_wp2_with fail
      refine (or_any _ ns r1 _ hm.ints Hr1a).mono ?_
      rintro e w5 ⟨rfl, hb⟩
      replace hv := hv.below hb
      replace hm := hm.below hb
      replace hbf := hbf.trans (hb.mono hbf.size)
      clear hb
      go_wp2_with fail
      refine (fold_1 _ ns r1 _ hv (by omega) hr1b).mono ?_
      rintro e w6 ⟨rfl, hb⟩
      replace hv := hv.below hb
      replace hm := hm.below hb
      replace hbf := hbf.trans (hb.mono hbf.size)
      clear hb
      go_wp2_with fail
      refine (xor_any _ ns r2 _ hm.ints Hr2a).mono ?_
      rintro e w7 ⟨rfl, hb⟩
      replace hv := hv.below hb
      replace hm := hm.below hb
      replace hbf := hbf.trans (hb.mono hbf.size)
      clear hb
      go_wp2_with fail
      refine (fold_2 _ ns r2 _ hv (by omega) hr2b).mono ?_
      rintro e w8 ⟨rfl, hb⟩
      replace hv := hv.below hb
      replace hm := hm.below hb
      replace hbf := hbf.trans (hb.mono hbf.size)
      clear hb
      go_wp2_with fail
      refine (first_any _ ns r3 _ hm.ints Hr3a).mono ?_
      rintro e w9 ⟨rfl, hb⟩
      replace hv := hv.below hb
      replace hm := hm.below hb
      replace hbf := hbf.trans (hb.mono hbf.size)
      clear hb
      go_wp2_with fail
      refine (fold_3 _ ns r3 _ hv (by omega) hr3b).mono ?_
      rintro e w10 ⟨rfl, hb⟩
      replace hv := hv.below hb
      replace hm := hm.below hb
      replace hbf := hbf.trans (hb.mono hbf.size)
      clear hb
      go_wp2_with fail
      refine (not_any 0 1 _ (Lib.hid (by decide))).mono ?_
      rintro e w11 ⟨rfl, hb⟩
      replace hv := hv.below hb
      replace hm := hm.below hb
      replace hbf := hbf.trans (hb.mono hbf.size)
      clear hb
      go_wp2_with fail
      refine (stays_ints _ _ _ ns _ hm hv (by omega)).mono ?_
      rintro e w12 ⟨rfl, hb⟩
      replace hv := hv.below hb
      replace hm := hm.below hb
      replace hbf := hbf.trans (hb.mono hbf.size)
      clear hb
      go_wp2_with fail
      go_ret
      exact ⟨rfl, hbf⟩
    case neg =>
      have e0 : (a == 0) = false := by simp [ha0]
      go_enter Tryd.func3, Tryd.ntmps3
      go_wp2_with fail
      refine (lent_ints _ ns _ hs0 (by omega)).mono ?_
      rintro e w1 ⟨v9, rfl, hm, hb⟩
      replace hv := hv.below hb
      have hbf := hb
      clear hb
      clear hs0
      go_wp2_with fail
      refine (alive13_any _).mono ?_
      rintro e w2 ⟨rfl, hb⟩
      replace hv := hv.below hb
      replace hm := hm.below hb
      replace hbf := hbf.trans (hb.mono hbf.size)
      clear hb
      go_wp2_with fail
      refine (and_any _ ns r0 _ hm.ints Hr0a).mono ?_
      rintro e w3 ⟨rfl, hb⟩
      replace hv := hv.below hb
      replace hm := hm.below hb
      replace hbf := hbf.trans (hb.mono hbf.size)
      clear hb
      go_wp2_with fail
      refine (fold_0 _ ns r0 _ hv (by omega) hr0b).mono ?_
      rintro e w4 ⟨rfl, hb⟩
      replace hv := hv.below hb
      replace hm := hm.below hb
      replace hbf := hbf.trans (hb.mono hbf.size)
      clear hb
      go_wp2_with fail
      refine (or_any _ ns r1 _ hm.ints Hr1a).mono ?_
      rintro e w5 ⟨rfl, hb⟩
      replace hv := hv.below hb
      replace hm := hm.below hb
      replace hbf := hbf.trans (hb.mono hbf.size)
      clear hb
      go_wp2_with fail
      refine (fold_1 _ ns r1 _ hv (by omega) hr1b).mono ?_
      rintro e w6 ⟨rfl, hb⟩
      replace hv := hv.below hb
      replace hm := hm.below hb
      replace hbf := hbf.trans (hb.mono hbf.size)
      clear hb
      go_wp2_with fail
      refine (xor_any _ ns r2 _ hm.ints Hr2a).mono ?_
      rintro e w7 ⟨rfl, hb⟩
      replace hv := hv.below hb
      replace hm := hm.below hb
      replace hbf := hbf.trans (hb.mono hbf.size)
      clear hb
      go_wp2_with fail
      refine (fold_2 _ ns r2 _ hv (by omega) hr2b).mono ?_
      rintro e w8 ⟨rfl, hb⟩
      replace hv := hv.below hb
      replace hm := hm.below hb
      replace hbf := hbf.trans (hb.mono hbf.size)
      clear hb
      go_wp2_with fail
      refine (first_any _ ns r3 _ hm.ints Hr3a).mono ?_
      rintro e w9 ⟨rfl, hb⟩
      replace hv := hv.below hb
      replace hm := hm.below hb
      replace hbf := hbf.trans (hb.mono hbf.size)
      clear hb
      go_wp2_with fail
      refine (fold_3 _ ns r3 _ hv (by omega) hr3b).mono ?_
      rintro e w10 ⟨rfl, hb⟩
      replace hv := hv.below hb
      replace hm := hm.below hb
      replace hbf := hbf.trans (hb.mono hbf.size)
      clear hb
      go_wp2_with fail
      refine (not_any a 2 _ (Lib.hid (by unfold notI; rw [if_neg ha0, if_neg ha1]))).mono ?_
      rintro e w11 ⟨rfl, hb⟩
      replace hv := hv.below hb
      replace hm := hm.below hb
      replace hbf := hbf.trans (hb.mono hbf.size)
      clear hb
      go_wp2_with fail
      refine (stays_ints _ _ _ ns _ hm hv (by omega)).mono ?_
      rintro e w12 ⟨rfl, hb⟩
      replace hv := hv.below hb
      replace hm := hm.below hb
      replace hbf := hbf.trans (hb.mono hbf.size)
      clear hb
      go_wp2_with fail
      go_ret
      exact ⟨rfl, hbf⟩

theorem truthTells_walk (sv : Value) (ns : List Int) (a : Int) (w : World) (hs : IntsN .i64 w sv ns) (hm : ∀ n ∈ ns, (Lit.int .i64 n).wf = true) (w1 : (Lit.int .i64 a).wf = true) :
    Calls Tryd.prog 3 #[sv, .int .i64 a] w fun e w' => e = .returned (.bool true) ∧ Below w.heap.size w w' := by
  by_cases h : 60 < ns.length
  · exact truth_early sv ns a w hs h
  · exact truth_main sv ns a w hs (by omega)

end Go.Proofs.YtiekehfdgbmijaaDoor
