/-
  The laws' own book: Room, Short (BookN, over StrS).
-/
import Derived.Test.YtjcldnkgidfifaaStrS
import Derived.BigQuiet
import Derived.Deep.LoopGhost
import Derived.Deep.Cut
import Derived.BigRegion
import Derived.WalkKit
import Derived.ProofKit
import Derived.OwnWalk
namespace Go.Proofs.Ytjcldnkgidfifaa
open Go.RowKit
set_option linter.unusedVariables false
set_option linter.unusedSimpArgs false

/-- What is left of the room. -/
def roomL : Int → List Nat → Int
  | n, [] => n
  | n, k :: ks => if n < 0 ∨ n < (k : Int) then -1 else roomL (n - k) ks
theorem roomL_neg (ks : List Nat) {n : Int} (h : n < 0) : roomL n ks < 0 := by
  cases ks with
  | nil => exact h
  | cons k ks => unfold roomL; rw [if_pos (.inl h)]; omega
theorem roomL_drop {n : Int} {ks : List Nat} {i : Nat} (hi : i < ks.length) : roomL n (ks.drop i) = if n < 0 ∨ n < ((ks[i]?.getD 0 : Nat) : Int) then -1 else roomL (n - (ks[i]?.getD 0 : Nat)) (ks.drop (i + 1)) := by
  rw [List.drop_eq_getElem_cons hi, List.getElem?_eq_getElem hi]; rfl

set_option maxRecDepth 100000 in
set_option maxHeartbeats 1000000 in
theorem room_any (n : Int) (ao : Option Addr) (cap : Nat) (ks : List Nat) (w : World) (hn : -1 ≤ n) (hn2 : n ≤ 1000000000) (hc : Cells .i64 w ao ks) (hlen : ks.length ≤ 1000000) :
    Calls Try.prog 8 #[.int .i64 n, .slice ao ks.length cap] w fun e w' => e = .returned (.int .i64 (roomL n ks)) ∧ w = w' := by
  go_enter Try.func8, Try.ntmps8
  go_wp2_with fail
  go_loopg [0, 5] ks.length (fun gg nv iv wr => ∃ (m : Int) (i : Nat), i + gg = ks.length ∧ iv = .int .i64 (i : Int) ∧ nv = .int .i64 m ∧ -1 ≤ m ∧ m ≤ 1000000000 ∧ roomL m (ks.drop i) = roomL n ks ∧ w = wr)
  case atStart => exact ⟨n, 0, by omega, rfl, rfl, hn, hn2, rfl, rfl⟩
  case round =>
    obtain ⟨m, i, hi, rfl, rfl, hm1, hm2, hr, rfl⟩ := hrel
    by_cases hil : i < ks.length
    · rcases hc with h | ⟨b, off, rfl, hb, hcell⟩
      · rw [h] at hil; simp at hil
      have c1 := hcell i hil
      have hd := roomL_drop (n := m) hil
      rw [hd] at hr
      have q1 : (0 : Int) ≤ (i : Int) := by omega
      have q2 : (i : Int) < (ks.length : Int) := by omega
      generalize ks[i]?.getD 0 = k at *
      have HR := Lib.hid hr
      clear hr hd hcell
      by_cases hneg : m < 0
      · have HN := Lib.hid (show roomL n ks = -1 by rw [← HR.out, if_pos (.inl hneg)])
        go_wp2_with fail
        go_ret
        exact ⟨ret_one (by rw [HN.out]; rfl), rfl⟩
      · by_cases hlt : m < (k : Int)
        · have HN := Lib.hid (show roomL n ks = -1 by rw [← HR.out, if_pos (.inr hlt)])
          go_wp2_with fail
          go_ret
          exact ⟨ret_one (by rw [HN.out]; rfl), rfl⟩
        · have HN := Lib.hid (show roomL (m - k) (ks.drop (i + 1)) = roomL n ks by rw [← HR.out, if_neg (by omega)])
          go_wp2_with fail
          go_roundg (gk - 1)
          case measure => omega
          case rel => exact ⟨m - k, i + 1, by omega, by go_num, rfl, by omega, by omega, HN.out, rfl⟩
    · have hd : ks.drop i = [] := List.drop_of_length_le (by omega)
      rw [hd] at hr
      have HR := Lib.hid hr
      clear hr hd
      go_wp2_with fail
      go_ret
      exact ⟨ret_one (by rw [← HR.out]; rfl), rfl⟩

/-- How long the texts are, all together. -/
def total (ls : List (List UInt8)) : Nat := (ls.map List.length).sum
theorem total_drop {ls : List (List UInt8)} {i : Nat} (hi : i < ls.length) : total (ls.drop i) = (ls[i]?.getD []).length + total (ls.drop (i + 1)) := by
  unfold total
  rw [List.drop_eq_getElem_cons hi, List.getElem?_eq_getElem hi, List.map_cons, List.sum_cons]
  rfl
/-- Few enough, and short enough? -/
def shortB (most room : Nat) (ls : List (List UInt8)) : Bool := decide (ls.length ≤ most ∧ total ls ≤ room)
theorem shortB_yes {most room : Nat} {ls : List (List UInt8)} (h1 : ls.length ≤ most) (h2 : total ls ≤ room) : shortB most room ls = true := decide_eq_true ⟨h1, h2⟩
theorem shortB_no {most room : Nat} {ls : List (List UInt8)} (h : ¬ ls.length ≤ most ∨ ¬ total ls ≤ room) : shortB most room ls = false := decide_eq_false (fun h2 => h.elim (fun h3 => h3 h2.1) (fun h3 => h3 h2.2))
theorem total_mem {ls : List (List UInt8)} {l : List UInt8} (h : l ∈ ls) : l.length ≤ total ls := by
  unfold total
  induction ls with
  | nil => simp at h
  | cons x xs ih =>
    rcases List.mem_cons.1 h with rfl | h1
    · simp
    · have := ih h1; simp; omega

set_option maxRecDepth 100000 in
set_option maxHeartbeats 1000000 in
theorem short_any (most room : Nat) (sv : Value) (ls : List (List UInt8)) (w : World) (hs : Strs w sv ls) (hm : most ≤ 1000000) (hr : room ≤ 1000000000) (hlen : ∀ l ∈ ls, l.length ≤ maxLen) :
    Calls Try.prog 28 #[.int .i64 (most : Int), .int .i64 (room : Int), sv] w fun e w' => e = .returned (.bool (shortB most room ls)) ∧ Below w.heap.size w w' := by
  obtain ⟨so, sc, rfl, hs1, hs2, hs3⟩ := hs
  unfold maxLen at hs2 hlen
  by_cases hmost : ls.length ≤ most
  · have hmb : decide (most < ls.length) = false := decide_eq_false (by omega)
    go_enter Try.func28, Try.ntmps28
    go_wp2_with fail
    go_loopg [1, 7] ls.length (fun gg nv iv wr => ∃ (m : Int) (i : Nat), i + gg = ls.length ∧ iv = .int .i64 (i : Int) ∧ nv = .int .i64 m ∧ -1 ≤ m ∧ m ≤ 1000000000 ∧ (0 ≤ m → (total ls ≤ room ↔ (total (ls.drop i) : Int) ≤ m)) ∧ (m < 0 → ¬ total ls ≤ room) ∧ Below w.heap.size w wr)
    case atStart => exact ⟨room, 0, by omega, rfl, rfl, by omega, by omega, fun _ => by rw [List.drop_zero]; omega, fun h => by omega, Below.refl _ _⟩
    case round =>
      obtain ⟨m, i, hi, rfl, rfl, hm1, hm2, h0, hn, hbr⟩ := hrel
      by_cases hneg : m < 0
      · have hfin := Lib.hid (shortB_no (most := most) (.inr (hn hneg)))
        have hmn : ¬ (m ≥ 0) := by omega
        clear h0 hn
        by_cases hil : i < ls.length
        · go_wp2_with fail
          go_ret
          exact ⟨ret_one (congrArg Value.bool hfin.out.symm), hbr⟩
        · go_wp2_with fail
          go_ret
          exact ⟨ret_one (congrArg Value.bool hfin.out.symm), hbr⟩
      · have hmp : m ≥ 0 := by omega
        have h1 := h0 (by omega)
        by_cases hil : i < ls.length
        · rcases hs3 with h | ⟨b, off, rfl, hb, hc⟩
          · rw [h] at hil; simp at hil
          have cs := (hbr.cell (p := ⟨b, off + i, none⟩) hb).trans (hc i hil)
          have hll : (ls[i]?.getD []).length ≤ 9223372036854775807 := by
            rw [List.getElem?_eq_getElem hil]; exact hlen _ (List.getElem_mem hil)
          have htd := total_drop hil
          have q1 : (0 : Int) ≤ (i : Int) := by omega
          have q2 : (i : Int) < (ls.length : Int) := by omega
          obtain ⟨l, hle⟩ : ∃ l, l = ls[i]?.getD [] := ⟨_, rfl⟩
          rw [← hle] at cs hll htd
          have HC := Lib.hid hc
          obtain ⟨L, hL⟩ : ∃ L, L = l.length := ⟨_, rfl⟩
          have hsz : (⟨l.toArray⟩ : ByteArray).size = L := by rw [hL]; rfl
          rw [← hL] at hll htd
          have hcell : Cells .i64 (wr.alloc (.cells #[.int .i64 (L : Int)] 3)) (some ⟨wr.heap.size, 0, none⟩) [L] := one_cells wr L
          have hal : Below wr.heap.size wr (wr.alloc (.cells #[.int .i64 (L : Int)] 3)) := (Below.refl _ _).alloc (Nat.le_refl _) _
          have hro := room_any m (some ⟨wr.heap.size, 0, none⟩) 1 [L] _ hm1 hm2 hcell (by simp)
          have hrl : roomL m [L] = if m < 0 ∨ m < (L : Int) then -1 else m - L := rfl
          rw [hrl, List.length_singleton] at hro
          have HRO := Lib.hid hro
          have HTD := Lib.hid htd
          have HH := Lib.hid h1
          have HLL := Lib.hid hL
          clear hro hrl hcell htd h0 hn h1 hc hle hL
          go_wp2_with fail
          with_reducible refine HRO.out.mono ?_
          rintro e w2 ⟨rfl, rfl⟩
          by_cases hlt : m < (L : Int)
          · have hif : (if m < 0 ∨ m < (L : Int) then (-1 : Int) else m - L) = -1 := if_pos (.inr hlt)
            rw [hif]
            clear hif
            go_wp2_with fail
            go_roundg (gk - 1)
            case measure => omega
            case rel =>
              refine ⟨-1, i + 1, by omega, by go_num, rfl, by omega, by omega, fun h => by omega, fun _ => ?_, hbr.trans (hal.mono hbr.size)⟩
              intro h
              have := HH.out.1 h
              have := HTD.out
              omega
          · have hif : (if m < 0 ∨ m < (L : Int) then (-1 : Int) else m - L) = m - L := if_neg (by omega)
            rw [hif]
            clear hif
            go_wp2_with fail
            go_roundg (gk - 1)
            case measure => omega
            case rel =>
              refine ⟨m - L, i + 1, by omega, by go_num, rfl, by omega, by omega, fun _ => ?_, fun h => by omega, hbr.trans (hal.mono hbr.size)⟩
              have := HH.out
              have := HTD.out
              omega
        · have hd : ls.drop i = [] := List.drop_of_length_le (by omega)
          rw [hd] at h1
          have hfin := Lib.hid (shortB_yes hmost (h1.2 (by simp [total]; omega)))
          clear h0 hn h1 hd
          go_wp2_with fail
          go_ret
          exact ⟨ret_one (congrArg Value.bool hfin.out.symm), hbr⟩
  · have hfin := Lib.hid (shortB_no (room := room) (.inl hmost))
    go_enter Try.func28, Try.ntmps28
    go_wp2_with fail
    go_ret
    exact ⟨ret_one (congrArg Value.bool hfin.out.symm), Below.refl _ _⟩
end Go.Proofs.Ytjcldnkgidfifaa
