/-
  Law 11's first call: alive answers true.
-/
import Derived.Test.YtjcldnkgidfifaaRtA
namespace Go.Proofs.Ytjcldnkgidfifaa
open Go.RowKit Go.Shelf
set_option linter.unusedVariables false
set_option linter.unusedSimpArgs false
attribute [local go_sem] Oper.semAt_some
theorem MsgStep.belowIn {B p : Nat} {v : Value} {a w w' : World} {l' : List (Fld × Int)} {e' : Int} (h : MsgStep B p v w l' e' w') (hw : Below a.heap.size a w) (ho : ∀ k, Ow p v k → a.heap.size ≤ k) : Below a.heap.size a w' := by
  obtain ⟨v', _, hk, _⟩ := h
  exact hw.trans ⟨hk.os, hk.tape, hk.output, hk.size, fun k hk9 => hk.same k (Nat.lt_of_lt_of_le hk9 hw.size) (fun h9 => by have := ho k h9; omega)⟩
def l300 : List Fld := [⟨3, 2, 0, 0, intsD [1, 300]⟩]
theorem ints300 : intsD [1, 300] = [1, 172, 2] := by
  have h1 : u64 1 = 1 := by decide
  have h2 : u64 300 = 300 := by decide
  simp only [intsD, List.flatMap_cons, List.flatMap_nil, h1, h2]
  rw [vbytes_lt (by decide), vbytes_ge (by decide), vbytes_lt (by decide)]
  rfl
theorem enc300 : l300.flatMap encF = [26, 3, 1, 172, 2] := by
  simp only [l300, ints300, List.flatMap_cons, List.flatMap_nil, encF]
  rw [vbytes_lt (by decide), if_neg (by decide), if_neg (by decide), if_neg (by decide), vbytes_lt (by decide)]
  rfl
theorem good300 : ∀ f ∈ l300, goodF f := by
  intro f hf
  simp only [l300, List.mem_cons, List.not_mem_nil, or_false] at hf
  subst hf
  rw [ints300]
  exact ⟨by rfl, by decide, rfl⟩
theorem step300 : intsM ([], 0) 3 [1, 300] = ([(⟨3, 2, 0, 0, intsD [1, 300]⟩, 0)], 0) := by
  unfold intsM stepM
  rw [if_neg (by decide), if_neg (by decide), if_pos (by rw [ints300]; rfl)]
  rfl
theorem msg300 : intsE (itemsE (msgL [26, 3, 1, 172, 2]) 3) = [1, 300] := by
  have h := intsE_msg (l := l300) 3 good300 (by rw [enc300]; decide)
  rw [enc300] at h
  rw [h]
  simp only [l300, intsF, List.filter_cons, List.filter_nil, List.flatMap_cons, List.flatMap_nil]
  have hg := getInts_intsD [1, 300] (by intro x hx; simp at hx; omega)
  simp [intsF, hg]
theorem mem300 {x : Fld × Int} (hx : x ∈ itemsE (msgL [26, 3, 1, 172, 2]) 3) : x.1.kind = 2 ∧ x.1.val = 0 ∧ x.1.data = intsD [1, 300] := by
  rw [← enc300] at hx
  obtain ⟨g, hg, h1, h2, h3, h4⟩ := msg_mem good300 (by rw [enc300]; decide) hx
  simp only [l300, List.mem_cons, List.not_mem_nil, or_false] at hg
  subst hg
  exact ⟨h2, h3, h4⟩
theorem badI300 : badI (itemsF [26, 3, 1, 172, 2]) = none := by
  rw [← enc300]; exact badI_enc good300 (by rw [enc300]; decide)
/-- Ints of a message whose fields of that number are good. -/
theorem ints_at {B p : Nat} {v : Value} {l : List (Fld × Int)} {e : Int} (num : Int) {w : World} (hm : MsgAt B w p v l e) (hll : l.length ≤ 1000000) (hgood : ∀ x ∈ itemsE l num, x.1.kind = 2 → getInts x.1.data ≠ none) (hcount : (intsE (itemsE l num)).length ≤ 1000000) (hval : ∀ x ∈ itemsE l num, x.1.val < 18446744073709551616 ∧ x.1.data.length ≤ 1000000000000) :
    Calls Try.prog 26 #[.pointer (some ⟨p, 0, none⟩), .int .i64 num] w fun e' w' => (∃ v, e' = .returned (.tuple #[v, diagV 0 0 []]) ∧ Owns w.heap.size 3 w' v (ivals .i64 (intsE (itemsE l num)))) ∧ Below w.heap.size w w' :=
  ints_walk 0 num 0 0 (some ⟨p, 0, none⟩) (itemsE l num) (Ow p v) w (fun w0 hb bm bn B0 hcm hcn => meach1_iter B p v l e num bm bn B0 w0 (hm.kept hb) hcm hcn hll) (fun k hk => (hm.ow k hk).2) hgood hcount hval
set_option maxRecDepth 100000 in
set_option maxHeartbeats 4000000 in
theorem alive11_any (w : World) : Calls Try.prog 7 #[] w fun e w' => e = .returned (.bool true) ∧ Below w.heap.size w w' := by
  go_enter Try.func7, Try.ntmps7
  go_wp2_with fail
  refine (new_any w).mono ?_
  rintro e w1 ⟨p, rfl, hm, hb1⟩
  go_wp2_with fail
  obtain ⟨w2, hw2⟩ : ∃ w2, w2 = w1.alloc (.cells #[.int .i64 1, .int .i64 300] 3) := ⟨_, rfl⟩
  have hb2 : Below w1.heap.size w1 w2 := by rw [hw2]; exact (Below.refl _ _).alloc (Nat.le_refl _) _
  have hrow : RowV (fun _ => False) w2 (.slice (some ⟨w1.heap.size, 0, none⟩) 2 2) (ivs [1, 300]) := by
    refine ⟨some ⟨w1.heap.size, 0, none⟩, 2, rfl, by decide, by decide, .inr ⟨w1.heap.size, 0, rfl, by rw [hw2]; simp, fun h => h, fun i x hx => ?_⟩⟩
    rw [hw2]
    match i, hx with
    | 0, hx => simp [ivs] at hx; subst hx; go_simp
    | 1, hx => simp [ivs] at hx; subst hx; go_simp
  rw [← hw2]
  clear hw2
  refine (putInts_any w.heap.size p (.slice none 0 0) _ [] 0 3 [1, 300] w2 (hm.kept hb2) ⟨_, hrow⟩ (by decide) (by decide)).mono ?_
  rintro e w3 ⟨rfl, hs⟩
  have hb3 := hs.belowIn (hb1.trans (hb2.mono hb1.size)) (fun k hk => (hm.ow k hk).1)
  obtain ⟨v3, hm3, _, _⟩ := hs
  rw [step300] at hm3
  simp only at hm3
  go_wp2_with fail
  have hR : (([26, 3, 1, 172, 2], 0) : List UInt8 × Int) = bytesR [(⟨3, 2, 0, 0, intsD [1, 300]⟩, 0)] 0 := by
    have h := bytesD_enc (l := [((⟨3, 2, 0, 0, intsD [1, 300]⟩ : Fld), (0 : Int))]) (fun x hx => good300 _ (by simp at hx; subst hx; simp [l300]))
    have h2 := enc300
    unfold l300 at h2
    simp only [List.map_cons, List.map_nil] at h
    rw [h2] at h
    unfold bytesR
    rw [h]
    rfl
  refine (bytes_any w.heap.size p v3 _ 0 0 [26, 3, 1, 172, 2] w3 hm3 (by intro x hx; simp at hx; subst hx; rw [ints300]; exact ⟨by decide, by decide⟩) (by decide) (Lib.hid hR)).mono ?_
  rintro e w4 ⟨rfl, hb4⟩
  go_wp2_with fail
  refine (parse_any [26, 3, 1, 172, 2] w4 (by decide)).mono ?_
  rintro e w5 ⟨h5, hb5⟩
  rcases h5 with ⟨_, p5, v5, rfl, hm5⟩ | ⟨x, hx, _⟩
  · have hb45 := (hb3.trans (hb4.mono hb3.size)).trans (hb5.mono (Nat.le_trans hb3.size hb4.size))
    obtain ⟨L, hL⟩ : ∃ L, L = msgL [26, 3, 1, 172, 2] := ⟨_, rfl⟩
    have hll : L.length ≤ 1000000 := by
      rw [hL]; unfold msgL; rw [dpsN_len]; exact Nat.le_trans (itemsF_len _) (by decide)
    rw [← hL] at hm5
    clear hm3 hR hm hrow
    go_wp2_with fail
    have hbw : Below w5.heap.size w5 (w5.alloc (.cells #[.int .i64 0, .int .i64 0, .string ⟨#[]⟩] 54)) := (Below.refl _ _).alloc (Nat.le_refl _) _
    have hI : intsE (itemsE L 3) = [1, 300] := by rw [hL]; exact msg300
    refine (ints_at 3 (hm5.kept hbw) hll (fun x hx hk => ?_) (by rw [hI]; decide) (fun x hx => ?_)).mono ?_
    · rw [hL] at hx
      rw [(mem300 hx).2.2, getInts_intsD [1, 300] (by intro x hx; simp at hx; omega)]
      simp
    · rw [hL] at hx
      obtain ⟨h1, h2, h3⟩ := mem300 hx
      rw [h2, h3, ints300]
      exact ⟨by decide, by decide⟩
    · rw [hI]
      rintro e w6 ⟨⟨v6, rfl, hO6⟩, hb6⟩
      rcases OwnsK.shape (K := 1) hO6 with ⟨rfl, hn⟩ | ⟨g, cap, rfl, h1, h2, h3, h4, h5, h6⟩
      · simp [ivals] at hn
      · have hc1 := h5 1 (by simp [ivals])
        simp only [ivals, List.map_cons, List.map_nil, List.getElem?_cons_succ, List.getElem?_cons_zero] at hc1
        have hl2 : (ivals .i64 [1, 300]).length = 2 := rfl
        rw [hl2]
        have hbf := hb45.trans ((hbw.trans (hb6.mono hbw.size)).mono hb45.size)
        clear h5 h6 hO6 hL hI hll hm5
        go_wp2_with fail
        go_ret
        exact ⟨rfl, hbf.alloc (by exact hbf.size) _⟩
  · rw [badI300] at hx; cases hx
end Go.Proofs.Ytjcldnkgidfifaa
