/-
  RunTakes: for every mode, value and number, infinities and NaN among them, the program and the document take the same way.
-/
import Derived.Test.YtieffhkfefimeaaGreatDoorRunQ
import Derived.Test.YtieffhkfefimeaaGreatDoorRunT
namespace Go.Proofs.YtieffhkfefimeaaGreatDoor
open Go.RowKit Go.Shelf
set_option linter.unusedVariables false
set_option linter.unusedSimpArgs false

theorem u64_of' {n : Int} (h : (Lit.int .u64 n).wf = true) : ∃ m : Nat, n = (m : Int) ∧ m < 18446744073709551616 := by
  simp [Lit.wf] at h
  have h1 : IntKind.u64.min = 0 := rfl
  have h2 : IntKind.u64.max = 18446744073709551615 := rfl
  rw [h1, h2] at h
  exact ⟨n.toNat, by omega, by omega⟩
set_option maxRecDepth 100000 in
set_option maxHeartbeats 2000000 in
theorem takes_e (m : Int) (v x : Nat) (tr : Bool) (w : World) (hv : v < 18446744073709551616) (hx : x < 18446744073709551616) :
    Calls Tryz.prog 3 #[.int .i64 m, .int .u64 (v : Int), .bool tr, .int .u64 (x : Int)] w fun e w' => e = .returned (.bool true) ∧ Below w.heap.size w w' := by
  obtain ⟨t, ht⟩ : ∃ t, takesP m v tr x = t := ⟨_, rfl⟩
  have hT1 := fun W => takes_any m v tr x t W hv hx (Lib.hid ht)
  have hT2 := fun W => rtakes_any m v tr x t W hv hx (Lib.hid ht)
  have hA := fun W => alive24_any W
  clear ht
  have qt : (t == t) = true := by simp
  go_enter Tryz.func3, Tryz.ntmps3
  go_wp2_with (first | (go_at_call 8; refine (hA _).mono ?_; rintro e w1 ⟨rfl, hb1⟩) | (go_at_call 9; refine (hT1 _).mono ?_; rintro e9 w2 ⟨rfl, hb2⟩) | (go_at_call 10; refine (hT2 _).mono ?_; rintro e9 w3 ⟨rfl, hb3⟩))
  go_ret
  exact ⟨by simp, hb1.trans ((hb2.trans (hb3.mono hb2.size)).mono hb1.size)⟩
theorem runTakes_walk (a0 : Int) (a1 : Int) (a2 : Bool) (a3 : Int) (w0 : (Lit.int .i64 a0).wf = true) (w1 : (Lit.int .u64 a1).wf = true) (w3 : (Lit.int .u64 a3).wf = true) (w : World) :
    Calls Tryz.prog 3 #[.int .i64 a0, .int .u64 a1, .bool a2, .int .u64 a3] w fun e w' => e = .returned (.bool true) ∧ Below w.heap.size w w' := by
  obtain ⟨v, rfl, hv⟩ := u64_of' w1
  obtain ⟨x, rfl, hx⟩ := u64_of' w3
  exact takes_e a0 v x a2 w hv hx
end Go.Proofs.YtieffhkfefimeaaGreatDoor
