import Derived.Test.YtafmhoeammbemaaDoorComN
namespace Go.Proofs.YtafmhoeammbemaaDoor
open Go.RowKit
set_option linter.unusedVariables false
set_option linter.unusedSimpArgs false
/-- What is left of the room. -/
def roomL : Int → List Nat → Int
  | n, [] => n
  | n, k :: ks => if n < 0 ∨ n < (k : Int) then -1 else roomL (n - k) ks
theorem roomL_neg (ks : List Nat) {n : Int} (h : n < 0) : roomL n ks < 0 := by
  cases ks with
  | nil => exact h
  | cons k ks => unfold roomL; rw [if_pos (.inl h)]; omega
theorem roomL_drop {n : Int} {ks : List Nat} {i : Nat} (hi : i < ks.length) : roomL n (ks.drop i) = if n < 0 ∨ n < ((ks[i]?.getD 0 : Nat) : Int) then -1 else roomL (n - (ks[i]?.getD 0 : Nat)) (ks.drop (i + 1)) := by
  rw [List.drop_eq_getElem_cons hi, List.getElem?_eq_getElem hi]; rfl
set_option maxRecDepth 100000 in
set_option maxHeartbeats 1000000 in
theorem room_any (n : Int) (ao : Option Addr) (cap : Nat) (ks : List Nat) (w : World) (hn : -1 ≤ n) (hn2 : n ≤ 1000000000) (hc : Cells .i64 w ao ks) (hlen : ks.length ≤ 1000000) :
    Calls Tryd.prog 19 #[.int .i64 n, .slice ao ks.length cap] w fun e w' => e = .returned (.int .i64 (roomL n ks)) ∧ w = w' := by
  go_enter Tryd.func19, Tryd.ntmps19
  go_wp2_with fail
  go_loopg [0, 5] ks.length (fun gg nv iv wr => ∃ (m : Int) (i : Nat), i + gg = ks.length ∧ iv = .int .i64 (i : Int) ∧ nv = .int .i64 m ∧ -1 ≤ m ∧ m ≤ 1000000000 ∧ roomL m (ks.drop i) = roomL n ks ∧ w = wr)
  case atStart => exact ⟨n, 0, by omega, rfl, rfl, hn, hn2, rfl, rfl⟩
  case round =>
    obtain ⟨m, i, hi, rfl, rfl, hm1, hm2, hr, rfl⟩ := hrel
    by_cases hil : i < ks.length
    · rcases hc with h | ⟨b, off, rfl, hb, hcell⟩
      · rw [h] at hil; simp at hil
      have c1 := hcell i hil
      have hd := roomL_drop (n := m) hil
      rw [hd] at hr
      have q1 : (0 : Int) ≤ (i : Int) := by omega
      have q2 : (i : Int) < (ks.length : Int) := by omega
      generalize ks[i]?.getD 0 = k at *
      have HR := Lib.hid hr
      clear hr hd hcell
      by_cases hneg : m < 0
      · have HN := Lib.hid (show roomL n ks = -1 by rw [← HR.out, if_pos (.inl hneg)])
        go_wp2_with fail
        go_ret
        exact ⟨ret_one (by rw [HN.out]; rfl), rfl⟩
      · by_cases hlt : m < (k : Int)
        · have HN := Lib.hid (show roomL n ks = -1 by rw [← HR.out, if_pos (.inr hlt)])
          go_wp2_with fail
          go_ret
          exact ⟨ret_one (by rw [HN.out]; rfl), rfl⟩
        · have HN := Lib.hid (show roomL (m - k) (ks.drop (i + 1)) = roomL n ks by rw [← HR.out, if_neg (by omega)])
          go_wp2_with fail
          go_roundg (gk - 1)
          case measure => omega
          case rel => exact ⟨m - k, i + 1, by omega, by go_num, rfl, by omega, by omega, HN.out, rfl⟩
    · have hd : ks.drop i = [] := List.drop_of_length_le (by omega)
      rw [hd] at hr
      have HR := Lib.hid hr
      clear hr hd
      go_wp2_with fail
      go_ret
      exact ⟨ret_one (by rw [← HR.out]; rfl), rfl⟩
/-- How long the texts are, all together. -/
def total (ls : List (List UInt8)) : Nat := (ls.map List.length).sum
theorem total_drop {ls : List (List UInt8)} {i : Nat} (hi : i < ls.length) : total (ls.drop i) = (ls[i]?.getD []).length + total (ls.drop (i + 1)) := by
  unfold total
  rw [List.drop_eq_getElem_cons hi, List.getElem?_eq_getElem hi, List.map_cons, List.sum_cons]
  rfl
/-- Few enough, and short enough? -/
def shortB (most room : Nat) (ls : List (List UInt8)) : Bool := decide (ls.length ≤ most ∧ total ls ≤ room)
theorem shortB_yes {most room : Nat} {ls : List (List UInt8)} (h1 : ls.length ≤ most) (h2 : total ls ≤ room) : shortB most room ls = true := decide_eq_true ⟨h1, h2⟩
theorem shortB_no {most room : Nat} {ls : List (List UInt8)} (h : ¬ ls.length ≤ most ∨ ¬ total ls ≤ room) : shortB most room ls = false := decide_eq_false (fun h2 => h.elim (fun h3 => h3 h2.1) (fun h3 => h3 h2.2))
theorem total_mem {ls : List (List UInt8)} {l : List UInt8} (h : l ∈ ls) : l.length ≤ total ls := by
  unfold total
  induction ls with
  | nil => simp at h
  | cons x xs ih =>
    rcases List.mem_cons.1 h with rfl | h1
    · simp
    · have := ih h1; simp; omega
end Go.Proofs.YtafmhoeammbemaaDoor
