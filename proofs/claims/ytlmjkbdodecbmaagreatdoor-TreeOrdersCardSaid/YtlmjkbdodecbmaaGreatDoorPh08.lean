/-
  Ph08: StrQ (what is needed of them).
-/
import Derived.Test.YtlmjkbdodecbmaaGreatDoorPh05
import Derived.Test.YtlmjkbdodecbmaaGreatDoorPh06
import Derived.Lib.Bytealg
import Derived.BigCall

namespace Go.Proofs.YtlmjkbdodecbmaaGreatDoor
open Go.RowKit
set_option linter.unusedVariables false
set_option linter.unusedSimpArgs false
theorem index_no {l : List UInt8} {c : UInt8} (h : c ∉ l) : Lib.indexByte l c = -1 := by
  induction l with
  | nil => rfl
  | cons b l ih =>
    simp only [List.mem_cons, not_or] at h
    unfold Lib.indexByte
    rw [if_neg (by simp; exact fun e => h.1 e.symm), ih h.2]; rfl
theorem index_yes {l : List UInt8} {c : UInt8} (h : c ∈ l) : ∃ k : Nat, Lib.indexByte l c = k ∧ k < l.length ∧ l.take k = l.takeWhile (· != c) ∧ l.drop (k + 1) = (l.dropWhile (· != c)).tail := by
  induction l with
  | nil => cases h
  | cons b l ih =>
    unfold Lib.indexByte
    by_cases hb : b = c
    · subst hb
      exact ⟨0, by simp, by simp, by simp, by simp⟩
    · have hb' : (b == c) = false := by simpa using hb
      rw [hb']
      rcases List.mem_cons.1 h with h1 | h1
      · exact (hb h1.symm).elim
      obtain ⟨k, h2, h3, h4, h5⟩ := ih h1
      refine ⟨k + 1, ?_, by simp; omega, ?_, ?_⟩
      · rw [h2, if_neg (by simp), if_neg (by simp)]; simp
      · simp [List.takeWhile_cons, hb, h4]
      · simp [List.dropWhile_cons, hb, h5]
set_option maxHeartbeats 1000000 in
set_option maxRecDepth 100000 in
theorem ibyte_any (l : List UInt8) (c : Int) (w : World) :
    Calls Tryz.prog 174 #[.string ⟨l.toArray⟩, .int .u8 c] w fun e w' => e = .returned (.int .i64 (Lib.indexByte l c.toNat.toUInt8)) ∧ w' = w := by
  go_enter Tryz.func174, Tryz.ntmps174
  go_wp2
  rw [run_callFunc_extern Tryz.func187 (by kernel_rfl) (by kernel_rfl) (by kernel_rfl) (e := Extern.BytealgIndexByte.indexByte) (by kernel_rfl), Lib.run_indexByteString]
  simp only [Result.andThen]
  rw [Oper.upon_value]
  go_wp2
  go_ret
  exact ⟨rfl, rfl⟩
set_option maxHeartbeats 1000000 in
set_option maxRecDepth 100000 in
theorem sindex_any (l : List UInt8) (w : World) :
    Calls Tryz.prog 155 #[.string ⟨l.toArray⟩, .string ⟨#[47]⟩] w fun e w' => e = .returned (.int .i64 (Lib.indexByte l 47)) ∧ w' = w := by
  go_enter Tryz.func155, Tryz.ntmps155
  go_wp2_with fail
  · rename_i h
    have h1 : l = [47] := by have h0 : [47] = l := by simpa using h
                             exact h0.symm
    subst h1
    go_ret
    exact ⟨rfl, rfl⟩
  · refine (ibyte_any l _ w).mono ?_
    rintro e w' ⟨rfl, rfl⟩
    go_wp2_with fail
    go_ret
    exact ⟨rfl, rfl⟩
set_option maxHeartbeats 1000000 in
set_option maxRecDepth 100000 in
theorem lcut_no (l : List UInt8) (w : World) (h : 47 ∉ l) :
    Calls Tryz.prog 135 #[.string ⟨l.toArray⟩, .string ⟨#[47]⟩] w fun e w' => e = .returned (.tuple #[.string ⟨l.toArray⟩, .string ⟨#[]⟩, .bool false]) ∧ w' = w := by
  have hi := index_no h
  have HI := Lib.hid hi; clear hi
  go_enter Tryz.func135, Tryz.ntmps135
  go_wp2_with fail
  refine (sindex_any l _).mono ?_
  rintro e w' ⟨rfl, rfl⟩
  rw [HI.out]
  go_wp2_with fail
  go_ret3
  exact ⟨rfl, rfl⟩
set_option maxHeartbeats 1000000 in
set_option maxRecDepth 100000 in
theorem lcut_yes (l : List UInt8) (w : World) (h : 47 ∈ l) (hl : l.length ≤ 9223372036854775807) :
    Calls Tryz.prog 135 #[.string ⟨l.toArray⟩, .string ⟨#[47]⟩] w fun e w' => e = .returned (.tuple #[.string ⟨(cutAt l).toArray⟩, .string ⟨(cutOn l).toArray⟩, .bool true]) ∧ Below w.heap.size w w' := by
  obtain ⟨k, hk, hlt, h1, h2⟩ := index_yes h
  have HI := Lib.hid hk; clear hk
  have h3 : ((⟨l.toArray⟩ : ByteArray).extract 0 k) = ⟨(cutAt l).toArray⟩ := by rw [bytes_extract]; unfold cutAt; rw [← h1]; simp
  have h4 : ((⟨l.toArray⟩ : ByteArray).extract (k + 1) l.length) = ⟨(cutOn l).toArray⟩ := by rw [bytes_extract]; unfold cutOn; rw [if_pos h, ← h2]; simp
  have hk1 : ((k : Nat) : Int) ≤ ((l.length : Nat) : Int) := by omega
  have hk2 : (0 : Int) ≤ ((k : Nat) : Int) := by omega
  have hk3 : ((k : Nat) : Int) + 1 ≤ ((l.length : Nat) : Int) := by omega
  have hk4 : (0 : Int) ≤ ((k : Nat) : Int) + 1 := by omega
  have hk5 : IntKind.i64.wrap (((k : Nat) : Int) + 1) = ((k : Nat) : Int) + 1 := by simp [IntKind.wrap, IntKind.bits, IntKind.signed]; omega
  have hk6 : (((k : Nat) : Int) + 1).toNat = k + 1 := by omega
  go_enter Tryz.func135, Tryz.ntmps135
  go_wp2_with fail
  refine (sindex_any l _).mono ?_
  rintro e w' ⟨rfl, rfl⟩
  rw [HI.out]
  go_wp2_with fail
  refine wp_region_seq (S := fun _ => True) [(true, 0), (true, 1), (true, 2), (true, 3), (true, 4), (true, 5), (true, 6), (true, 7), (true, 8), (true, 9), (true, 10), (true, 11)] (by kernel_rfl) (by kernel_rfl) (by kernel_rfl) (by kernel_rfl) (by kernel_rfl) (fun d _ _ _ _ h => by cases d <;> exact h) True.intro (fun _ => ?_)
  simp only [pickOps, List.append_eq, List.cons_append, List.nil_append, List.getElem?_toArray, List.getElem?_cons_succ, List.getElem?_cons_zero]
  repeat (first | (refine seq_take (v := ?_) (by rfl) ?_ ?_; rotate_left; (· intro w hSw; go_simp; all_goals with_reducible rfl); (try simp only [Act.put, List.setIfInBounds_toArray, List.set_cons_zero, List.set_cons_succ])))
  refine seq_end ?_
  go_wp2_with fail
  go_ret3
  exact ⟨rfl, (Below.refl _ _).drew⟩
set_option maxHeartbeats 1000000 in
set_option maxRecDepth 100000 in
/-- CutPrefix at a minus. -/
theorem prefix_any (l : List UInt8) (w : World) (hl : l.length ≤ 9223372036854775807) :
    Calls Tryz.prog 118 #[.string ⟨l.toArray⟩, .string ⟨#[45]⟩] w fun e w' => e = .returned (.tuple #[.string ⟨(cutNeg l).2.toArray⟩, .bool (cutNeg l).1]) ∧ w' = w := by
  cases l with
  | nil =>
    have hp : Calls Tryz.prog 134 #[.string ⟨#[]⟩, .string ⟨#[45]⟩] w fun e w' => e = .returned (.bool false) ∧ w' = w := by
      go_enter Tryz.func134, Tryz.ntmps134
      go_wp2
      go_ret
      exact ⟨rfl, rfl⟩
    go_enter Tryz.func118, Tryz.ntmps118
    go_wp2_with fail
    refine hp.mono ?_
    rintro e w' ⟨rfl, rfl⟩
    go_wp2_with fail
    go_ret2
    exact ⟨rfl, rfl⟩
  | cons c t =>
    simp only [List.length_cons] at hl
    have h1 : (1 : Int) ≤ ((t.length : Nat) : Int) + 1 := by omega
    have h2 : ((⟨(c :: t).toArray⟩ : ByteArray).extract 0 1) = ⟨#[c]⟩ := by rw [bytes_extract]; rfl
    have h3 : ((⟨(c :: t).toArray⟩ : ByteArray).extract 1 (t.length + 1)) = ⟨t.toArray⟩ := by rw [bytes_extract]; simp
    have hp : Calls Tryz.prog 134 #[.string ⟨(c :: t).toArray⟩, .string ⟨#[45]⟩] w fun e w' => e = .returned (.bool (c == 45)) ∧ w' = w := by
      go_enter Tryz.func134, Tryz.ntmps134
      go_wp2
      go_ret
      exact ⟨rfl, rfl⟩
    go_enter Tryz.func118, Tryz.ntmps118
    go_wp2_with fail
    refine hp.mono ?_
    rintro e w' ⟨rfl, rfl⟩
    by_cases hc : c = 45
    · subst hc
      go_wp2_with fail
      go_ret2
      exact ⟨rfl, rfl⟩
    · have hb : (c == 45) = false := by simpa using hc
      have hcn : cutNeg (c :: t) = (false, c :: t) := by unfold cutNeg; rw [if_neg (by simpa using hc)]
      rw [hb]
      go_wp2_with fail
      go_ret2
      exact ⟨ret_one (by rw [hcn]; rfl), rfl⟩
set_option maxHeartbeats 1000000 in
set_option maxRecDepth 100000 in
theorem cutprefix_any (l : List UInt8) (w : World) (hl : l.length ≤ 9223372036854775807) :
    Calls Tryz.prog 102 #[.string ⟨l.toArray⟩, .string ⟨#[45]⟩] w fun e w' => e = .returned (.tuple #[.string ⟨(cutNeg l).2.toArray⟩, .bool (cutNeg l).1]) ∧ Below w.heap.size w w' := by
  go_enter Tryz.func102, Tryz.ntmps102
  go_wp2_with fail
  refine (prefix_any l _ hl).mono ?_
  rintro e w' ⟨rfl, rfl⟩
  go_wp2_with fail
  go_ret2
  exact ⟨rfl, Below.refl _ _⟩
set_option maxHeartbeats 1000000 in
set_option maxRecDepth 100000 in
/-- Cut at a stroke: the part ahead, the part behind, is there one? -/
theorem cut_any (l : List UInt8) (w : World) (hl : l.length ≤ 9223372036854775807) :
    Calls Tryz.prog 119 #[.string ⟨l.toArray⟩, .string ⟨#[47]⟩] w fun e w' => e = .returned (.tuple #[.string ⟨(cutAt l).toArray⟩, .string ⟨(if 47 ∈ l then cutOn l else []).toArray⟩, .bool (decide (47 ∈ l))]) ∧ Below w.heap.size w w' := by
  by_cases h : 47 ∈ l
  · rw [if_pos h, decide_eq_true h]
    have hc := lcut_yes l w h hl
    go_enter Tryz.func119, Tryz.ntmps119
    go_wp2_with fail
    refine hc.mono ?_
    rintro e w' ⟨rfl, hb⟩
    go_wp2_with fail
    go_ret3
    exact ⟨rfl, hb⟩
  · rw [if_neg h, decide_eq_false h]
    have hc := lcut_no l w h
    have ha : cutAt l = l := takeWhile_all l 47 h
    rw [ha]
    go_enter Tryz.func119, Tryz.ntmps119
    go_wp2_with fail
    refine hc.mono ?_
    rintro e w' ⟨rfl, rfl⟩
    go_wp2_with fail
    go_ret3
    exact ⟨rfl, Below.refl _ _⟩
end Go.Proofs.YtlmjkbdodecbmaaGreatDoor
