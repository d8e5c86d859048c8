/-
  EnsembleModes: its walk.
-/
import Derived.Test.YtieffhkfefimeaaOnxN
namespace Go.Proofs.Ytieffhkfefimeaa
open Go.RowKit
set_option linter.unusedVariables false
set_option linter.unusedSimpArgs false

def wantM (s : List UInt8) : Nat → Nat
  | 0 => 0
  | i + 1 => if modeW[i]?.getD [] = s then i + 1 else wantM s i
def okM (s : List UInt8) : Nat → Bool
  | 0 => false
  | i + 1 => decide (modeW[i]?.getD [] = s) || okM s i
def nameM (m : Int) : Nat → List UInt8
  | 0 => []
  | i + 1 => if m = (i : Int) + 1 then modeW[i]?.getD [] else nameM m i
theorem wantM_le (s : List UInt8) : ∀ i, wantM s i ≤ i
  | 0 => Nat.le_refl _
  | i + 1 => by unfold wantM; split; exact Nat.le_refl _; have := wantM_le s i; omega
theorem modes_said (s : List UInt8) : fidx (modeW.findIdx? (fun l => decide (l = s))) + 1 = (wantM s 7 : Int) ∧ decide (s ∈ modeW) = okM s 7 := by
  by_cases h : s ∈ modeW
  · simp only [modeW, List.mem_cons, List.not_mem_nil, or_false] at h
    rcases h with rfl | rfl | rfl | rfl | rfl | rfl | rfl <;> exact ⟨by decide, by decide⟩
  · have hn : ∀ i, modeW[i]?.getD [] = s → i < 7 → False := by
      intro i hi hl
      apply h
      rw [← hi, List.getElem?_eq_getElem (show i < modeW.length from hl), Option.getD_some]
      exact List.getElem_mem _
    have h1 : modeW.findIdx? (fun l => decide (l = s)) = none := by
      rw [List.findIdx?_eq_none_iff]
      intro x hx
      simp
      intro e; subst e; exact h hx
    have h2 : ∀ i, i ≤ 7 → wantM s i = 0 ∧ okM s i = false := by
      intro i
      induction i with
      | zero => intro _; exact ⟨rfl, rfl⟩
      | succ i ih =>
        intro hi
        obtain ⟨a, b⟩ := ih (by omega)
        have hne : ¬ modeW[i]?.getD [] = s := fun e => hn i e (by omega)
        exact ⟨by unfold wantM; rw [if_neg hne, a], by unfold okM; rw [decide_eq_false hne, b]; rfl⟩
    obtain ⟨a, b⟩ := h2 7 (Nat.le_refl _)
    rw [h1, a, b]
    exact ⟨rfl, by simp [h]⟩
theorem name_said (m : Int) : modeName m = nameM m 7 := by
  unfold modeName
  by_cases h : m < 1 ∨ 7 < m
  · rw [if_pos h]
    have : ∀ i : Nat, i ≤ 7 → nameM m i = [] := by
      intro i
      induction i with
      | zero => intro _; rfl
      | succ i ih => intro hi; unfold nameM; rw [if_neg (by omega)]; exact ih (by omega)
    exact (this 7 (Nat.le_refl _)).symm
  · rw [if_neg h]
    have : m = 1 ∨ m = 2 ∨ m = 3 ∨ m = 4 ∨ m = 5 ∨ m = 6 ∨ m = 7 := by omega
    rcases this with rfl | rfl | rfl | rfl | rfl | rfl | rfl <;> decide
theorem modes_cells (w : World) : ∀ i, i < 7 → (w.alloc (.cells #[.string ⟨#[66, 82, 65, 78, 67, 72, 95, 76, 69, 81]⟩, .string ⟨#[66, 82, 65, 78, 67, 72, 95, 76, 84]⟩, .string ⟨#[66, 82, 65, 78, 67, 72, 95, 71, 84, 69]⟩, .string ⟨#[66, 82, 65, 78, 67, 72, 95, 71, 84]⟩, .string ⟨#[66, 82, 65, 78, 67, 72, 95, 69, 81]⟩, .string ⟨#[66, 82, 65, 78, 67, 72, 95, 78, 69, 81]⟩, .string ⟨#[76, 69, 65, 70]⟩] 9)).cell? ⟨w.heap.size, i, none⟩ = some (.string ⟨(modeW[i]?.getD []).toArray⟩) := by
  intro i hi
  match i, hi with
  | 0, _ => go_simp; rfl
  | 1, _ => go_simp; rfl
  | 2, _ => go_simp; rfl
  | 3, _ => go_simp; rfl
  | 4, _ => go_simp; rfl
  | 5, _ => go_simp; rfl
  | 6, _ => go_simp; rfl
set_option maxRecDepth 100000 in
set_option maxHeartbeats 2000000 in
theorem ensembleModes_walk (a0 : ByteArray) (a1 : Int) (w0 : a0.size ≤ maxLen) (w1 : (Lit.int .i64 a1).wf = true) (w : World) :
    Calls Try.prog 3 #[.string a0, .int .i64 a1] w fun e w' => e = .returned (.bool true) ∧ Below w.heap.size w w' := by
  obtain ⟨⟨l⟩⟩ := a0
  by_cases hl : 60 < l.length
  · have hz : (60 : Int) < (l.length : Int) := by omega
    clear hl
    go_enter Try.func3, Try.ntmps3
    go_wp2_with (go_at_call 4; refine (alive22_any _).mono ?_; rintro e w2 ⟨rfl, hb2⟩)
    go_ret
    exact ⟨rfl, hb2⟩
  · have hz : ¬ (60 : Int) < (l.length : Int) := by omega
    clear hl
    obtain ⟨w2, hwE⟩ : ∃ W, W = w.alloc (.cells #[.string ⟨#[66, 82, 65, 78, 67, 72, 95, 76, 69, 81]⟩, .string ⟨#[66, 82, 65, 78, 67, 72, 95, 76, 84]⟩, .string ⟨#[66, 82, 65, 78, 67, 72, 95, 71, 84, 69]⟩, .string ⟨#[66, 82, 65, 78, 67, 72, 95, 71, 84]⟩, .string ⟨#[66, 82, 65, 78, 67, 72, 95, 69, 81]⟩, .string ⟨#[66, 82, 65, 78, 67, 72, 95, 78, 69, 81]⟩, .string ⟨#[76, 69, 65, 70]⟩] 9) := ⟨_, rfl⟩
    have hb2 : Below w.heap.size w w2 := by rw [hwE]; exact (Below.refl _ w).alloc (Nat.le_refl _) _
    obtain ⟨pn, hpE⟩ : ∃ p, p = w.heap.size := ⟨_, rfl⟩
    have hpl : pn < w2.heap.size := by rw [hwE, hpE]; simp
    have hc : ∀ i, i < 7 → w2.cell? ⟨pn, i, none⟩ = some (.string ⟨(modeW[i]?.getD []).toArray⟩) := by rw [hwE, hpE]; exact modes_cells w
    have HW := Lib.hid hwE; clear hwE
    go_enter Try.func3, Try.ntmps3
    go_wp2_with fail
    rw [← HW.out, ← hpE]
    clear HW hpE
    go_loopg [6, 7, 8, 9] 7 (fun gg wv ov nv iv wr => ∃ (i n : Nat) (b : Bool) (s : List UInt8), i + gg = 7 ∧ wv = .int .i64 (n : Int) ∧ ov = .bool b ∧ nv = .string ⟨s.toArray⟩ ∧ iv = .int .i64 (i : Int) ∧ n ≤ i ∧ Hid (n = wantM l i ∧ b = okM l i ∧ s = nameM a1 i) ∧ w2 = wr)
    case atStart => exact ⟨0, 0, false, [], by omega, rfl, rfl, rfl, rfl, Nat.le_refl _, Lib.hid ⟨rfl, rfl, rfl⟩, rfl⟩
    case round =>
      obtain ⟨i, n, b, s, hi, rfl, rfl, rfl, rfl, hni, HI, rfl⟩ := hrel
      by_cases hil : i < 7
      · have hzi : (i : Int) < 7 := by omega
        have hzi0 : (0 : Int) ≤ (i : Int) := by omega
        have cy := hc i hil
        obtain ⟨y, hy⟩ : ∃ y, modeW[i]?.getD [] = y := ⟨_, rfl⟩
        rw [hy] at cy
        have HY := Lib.hid hy
        clear hy hc
        by_cases q : y = l
        · have q1 : (y == l) = true := by simp [q]
          have HW2 : Hid (i + 1 = wantM l (i + 1) ∧ true = okM l (i + 1)) := Lib.hid ⟨by unfold wantM; rw [HY.out, if_pos q], by unfold okM; rw [HY.out, decide_eq_true q]; rfl⟩
          clear q
          by_cases q2 : a1 = (i : Int) + 1
          · have q3 : (a1 == (i : Int) + 1) = true := by rw [q2]; exact beq_self_eq_true _
            have HN2 : Hid (y = nameM a1 (i + 1)) := Lib.hid (by unfold nameM; rw [HY.out, if_pos q2])
            clear q2
            go_wp2_with fail
            go_roundg (gk - 1)
            case measure => omega
            case rel => exact ⟨i + 1, i + 1, true, y, by omega, by first | rfl | go_num, rfl, rfl, by first | rfl | go_num, by omega, Lib.hid ⟨HW2.out.1, HW2.out.2, HN2.out⟩, rfl⟩
          · have q3 : (a1 == (i : Int) + 1) = false := by simp [q2]
            have HN2 : Hid (s = nameM a1 (i + 1)) := Lib.hid (by unfold nameM; rw [if_neg q2]; exact HI.out.2.2)
            clear q2
            go_wp2_with fail
            go_roundg (gk - 1)
            case measure => omega
            case rel => exact ⟨i + 1, i + 1, true, s, by omega, by first | rfl | go_num, rfl, rfl, by first | rfl | go_num, by omega, Lib.hid ⟨HW2.out.1, HW2.out.2, HN2.out⟩, rfl⟩
        · have q1 : (y == l) = false := by simp [q]
          have HW2 : Hid (n = wantM l (i + 1) ∧ b = okM l (i + 1)) := Lib.hid ⟨by unfold wantM; rw [HY.out, if_neg q]; exact HI.out.1, by unfold okM; rw [HY.out, decide_eq_false q]; exact HI.out.2.1⟩
          clear q
          by_cases q2 : a1 = (i : Int) + 1
          · have q3 : (a1 == (i : Int) + 1) = true := by rw [q2]; exact beq_self_eq_true _
            have HN2 : Hid (y = nameM a1 (i + 1)) := Lib.hid (by unfold nameM; rw [HY.out, if_pos q2])
            clear q2
            go_wp2_with fail
            go_roundg (gk - 1)
            case measure => omega
            case rel => exact ⟨i + 1, n, b, y, by omega, rfl, rfl, rfl, by first | rfl | go_num, by omega, Lib.hid ⟨HW2.out.1, HW2.out.2, HN2.out⟩, rfl⟩
          · have q3 : (a1 == (i : Int) + 1) = false := by simp [q2]
            have HN2 : Hid (s = nameM a1 (i + 1)) := Lib.hid (by unfold nameM; rw [if_neg q2]; exact HI.out.2.2)
            clear q2
            go_wp2_with fail
            go_roundg (gk - 1)
            case measure => omega
            case rel => exact ⟨i + 1, n, b, s, by omega, rfl, rfl, rfl, by first | rfl | go_num, by omega, Lib.hid ⟨HW2.out.1, HW2.out.2, HN2.out⟩, rfl⟩
      · have hzi : ¬ (i : Int) < 7 := by omega
        have hi7 : i = 7 := by omega
        have h1 := modes_said l
        have h2 := name_said a1
        have hM := fun W => mode_any l W (n : Int) b (Lib.hid (by rw [h1.1, HI.out.1, hi7])) (Lib.hid (by rw [h1.2, HI.out.2.1, hi7]))
        have hN := fun W => modeName_any a1 W s (Lib.hid (by rw [h2, HI.out.2.2, hi7]))
        have q1 : ((n : Int) == (n : Int)) = true := beq_self_eq_true _
        have q2 : (b == b) = true := beq_self_eq_true _
        have q3 : (s == s) = true := beq_self_eq_true _
        clear h1 h2 HI hc
        go_wp2_with (first | (go_at_call 5; refine (hM _).mono ?_; rintro e w3 ⟨rfl, hb3⟩) | (go_at_call 4; refine (alive22_any _).mono ?_; rintro e w4 ⟨rfl, hb4⟩) | (go_at_call 6; refine (hN _).mono ?_; rintro e w5 ⟨rfl, hb5⟩))
        go_ret
        have p4 := hb2.trans ((hb3.trans (hb4.mono hb3.size)).mono hb2.size)
        exact ⟨rfl, p4.trans (hb5.mono p4.size)⟩
end Go.Proofs.Ytieffhkfefimeaa
