/-
  Library strings: Cut at a point, TrimPrefix at a plus.
-/
import Derived.Test.YtafmhoeammbemaaDoorMathD
import Derived.Test.YtafmhoeammbemaaDoorStrQ
namespace Go.Proofs.YtafmhoeammbemaaDoor
open Go.RowKit
set_option linter.unusedVariables false
set_option linter.unusedSimpArgs false

def pAt (l : List UInt8) : List UInt8 := l.takeWhile (· != 46)
def pOn (l : List UInt8) : List UInt8 := (l.dropWhile (· != 46)).tail
theorem on_none {l : List UInt8} (h : 46 ∉ l) : pOn l = [] := by
  have h1 := takeWhile_all l 46 h
  have h2 : l.takeWhile (· != 46) ++ l.dropWhile (· != 46) = l := List.takeWhile_append_dropWhile
  rw [h1] at h2
  unfold pOn
  rw [List.append_right_eq_self.1 h2]
  rfl

set_option maxHeartbeats 1000000 in
set_option maxRecDepth 100000 in
theorem pindex_any (l : List UInt8) (w : World) :
    Calls Tryd.prog 62 #[.string ⟨l.toArray⟩, .string ⟨#[46]⟩] w fun e w' => e = .returned (.int .i64 (Lib.indexByte l 46)) ∧ w' = w := by
  go_enter Tryd.func62, Tryd.ntmps62
  go_wp2_with fail
  · rename_i h
    have h1 : l = [46] := by have h0 : [46] = l := by simpa using h
                             exact h0.symm
    subst h1
    go_ret
    exact ⟨rfl, rfl⟩
  · refine (ibyte_any l _ w).mono ?_
    rintro e w' ⟨rfl, rfl⟩
    go_wp2_with fail
    go_ret
    exact ⟨rfl, rfl⟩

set_option maxHeartbeats 1000000 in
set_option maxRecDepth 100000 in
theorem pcut_no (l : List UInt8) (w : World) (h : 46 ∉ l) :
    Calls Tryd.prog 52 #[.string ⟨l.toArray⟩, .string ⟨#[46]⟩] w fun e w' => e = .returned (.tuple #[.string ⟨l.toArray⟩, .string ⟨#[]⟩, .bool false]) ∧ w' = w := by
  have hi := index_no h
  have HI := Lib.hid hi; clear hi
  go_enter Tryd.func52, Tryd.ntmps52
  go_wp2_with fail
  refine (pindex_any l _).mono ?_
  rintro e w' ⟨rfl, rfl⟩
  rw [HI.out]
  go_wp2_with fail
  go_ret3
  exact ⟨rfl, rfl⟩

set_option maxHeartbeats 1000000 in
set_option maxRecDepth 100000 in
theorem pcut_yes (l : List UInt8) (w : World) (h : 46 ∈ l) (hl : l.length ≤ 9223372036854775807) :
    Calls Tryd.prog 52 #[.string ⟨l.toArray⟩, .string ⟨#[46]⟩] w fun e w' => e = .returned (.tuple #[.string ⟨(pAt l).toArray⟩, .string ⟨(pOn l).toArray⟩, .bool true]) ∧ Below w.heap.size w w' := by
  obtain ⟨k, hk, hlt, h1, h2⟩ := index_yes h
  have HI := Lib.hid hk; clear hk
  have h3 : ((⟨l.toArray⟩ : ByteArray).extract 0 k) = ⟨(pAt l).toArray⟩ := by rw [bytes_extract]; unfold pAt; rw [← h1]; simp
  have h4 : ((⟨l.toArray⟩ : ByteArray).extract (k + 1) l.length) = ⟨(pOn l).toArray⟩ := by rw [bytes_extract]; unfold pOn; rw [← h2]; simp
  have hk1 : ((k : Nat) : Int) ≤ ((l.length : Nat) : Int) := by omega
  have hk2 : (0 : Int) ≤ ((k : Nat) : Int) := by omega
  have hk3 : ((k : Nat) : Int) + 1 ≤ ((l.length : Nat) : Int) := by omega
  have hk4 : (0 : Int) ≤ ((k : Nat) : Int) + 1 := by omega
  have hk5 : IntKind.i64.wrap (((k : Nat) : Int) + 1) = ((k : Nat) : Int) + 1 := by simp [IntKind.wrap, IntKind.bits, IntKind.signed]; omega
  have hk6 : (((k : Nat) : Int) + 1).toNat = k + 1 := by omega
  go_enter Tryd.func52, Tryd.ntmps52
  go_wp2_with fail
  refine (pindex_any l _).mono ?_
  rintro e w' ⟨rfl, rfl⟩
  rw [HI.out]
  go_wp2_with fail
  refine wp_region_seq (S := fun _ => True) [(true, 0), (true, 1), (true, 2), (true, 3), (true, 4), (true, 5), (true, 6), (true, 7), (true, 8), (true, 9), (true, 10), (true, 11)] (by kernel_rfl) (by kernel_rfl) (by kernel_rfl) (by kernel_rfl) (by kernel_rfl) (fun d _ _ _ _ h => by cases d <;> exact h) True.intro (fun _ => ?_)
  simp only [pickOps, List.append_eq, List.cons_append, List.nil_append, List.getElem?_toArray, List.getElem?_cons_succ, List.getElem?_cons_zero]
  repeat (first | (refine seq_take (v := ?_) (by rfl) ?_ ?_; rotate_left; (· intro w hSw; go_simp; all_goals with_reducible rfl); (try simp only [Act.put, List.setIfInBounds_toArray, List.set_cons_zero, List.set_cons_succ])))
  refine seq_end ?_
  go_wp2_with fail
  go_ret3
  exact ⟨rfl, (Below.refl _ _).drew⟩

set_option maxHeartbeats 1000000 in
set_option maxRecDepth 100000 in
/-- Cut at a point: the part ahead, the part behind, is there one? -/
theorem pcutat_any (l : List UInt8) (w : World) (hl : l.length ≤ 9223372036854775807) :
    Calls Tryd.prog 42 #[.string ⟨l.toArray⟩, .string ⟨#[46]⟩] w fun e w' => e = .returned (.tuple #[.string ⟨(pAt l).toArray⟩, .string ⟨(pOn l).toArray⟩, .bool (decide (46 ∈ l))]) ∧ Below w.heap.size w w' := by
  by_cases h : 46 ∈ l
  · rw [decide_eq_true h]
    have hc := pcut_yes l w h hl
    go_enter Tryd.func42, Tryd.ntmps42
    go_wp2_with fail
    refine hc.mono ?_
    rintro e w' ⟨rfl, hb⟩
    go_wp2_with fail
    go_ret3
    exact ⟨rfl, hb⟩
  · rw [decide_eq_false h]
    have hc := pcut_no l w h
    have ha : pAt l = l := takeWhile_all l 46 h
    have hb : pOn l = [] := on_none h
    rw [ha, hb]
    go_enter Tryd.func42, Tryd.ntmps42
    go_wp2_with fail
    refine hc.mono ?_
    rintro e w' ⟨rfl, rfl⟩
    go_wp2_with fail
    go_ret3
    exact ⟨rfl, Below.refl _ _⟩
end Go.Proofs.YtafmhoeammbemaaDoor
