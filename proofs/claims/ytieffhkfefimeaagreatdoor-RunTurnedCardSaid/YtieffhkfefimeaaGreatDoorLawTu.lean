/-
  LawTu: the texts MathRt LawRu LawRv, one behind the other.
-/
import Derived.Test.YtieffhkfefimeaaGreatDoorRunQ

/-
  A mode and its opposite, in plain mathematics.
-/
namespace Go.Proofs.YtieffhkfefimeaaGreatDoor
open Go.RowKit
set_option linter.unusedVariables false

/-- Is a pattern of binary32 that of no number? -/
def nanB (x : Nat) : Bool := decide (x / 8388608 % 256 = 255) && decide (x % 8388608 ≠ 0)
theorem nan_kind (x : Nat) : nanB x = decide (dkind 8 23 x = 4) := by
  have hf : finf 8 23 = 2139095040 := by decide
  have h2 : (2 : Nat) ^ (8 + 23) = 2147483648 := by decide
  have h1 : dkind 8 23 x = 4 ↔ 2139095040 < x % 2147483648 := by
    unfold dkind
    rw [hf, h2]
    constructor
    · intro h
      split at h
      · assumption
      · split at h
        · split at h <;> cases h
        · cases h
    · intro h; rw [if_pos h]
  unfold nanB
  rw [Bool.eq_iff_iff]
  simp only [Bool.and_eq_true, decide_eq_true_eq, h1]
  omega
structure Turned (n m tr a b : Bool) : Prop where
  nan : n = true → a = tr ∧ b = tr
  none : n = false → m = true → a = false ∧ b = false
  one : n = false → m = false → b = !a
theorem turned (i : Nat) (v x : Nat) (tr : Bool) (m1 m2 : Int) (h : (m1 = 1 ∧ m2 = 4) ∨ (m1 = 2 ∧ m2 = 3) ∨ (m1 = 5 ∧ m2 = 6)) : Turned (nanB x) (nanB v) tr (takesP m1 v tr x) (takesP m2 v tr x) := by
  rw [nan_kind, nan_kind]
  refine ⟨fun hn => ?_, fun hn hm => ?_, fun hn hm => ?_⟩
  · have h1 := of_decide_eq_true hn
    unfold takesP takesK
    rw [if_pos h1, if_pos h1]
    exact ⟨rfl, rfl⟩
  · have h1 := of_decide_eq_false hn
    have h2 := of_decide_eq_true hm
    unfold takesP takesK
    rw [if_neg h1, if_neg h1, if_pos h2, if_pos h2]
    exact ⟨rfl, rfl⟩
  · have h1 := of_decide_eq_false hn
    have h2 := of_decide_eq_false hm
    unfold takesP takesK
    rw [if_neg h1, if_neg h1, if_neg h2, if_neg h2]
    generalize pcmp (dkind 8 23 x) (dkind 8 23 v) (dval' 8 23 x) (dval' 8 23 v) = c
    rcases h with ⟨rfl, rfl⟩ | ⟨rfl, rfl⟩ | ⟨rfl, rfl⟩
    · show decide (0 < c) = !decide (c ≤ 0)
      by_cases h9 : c ≤ 0
      · rw [decide_eq_true h9, decide_eq_false (by omega)]; rfl
      · rw [decide_eq_false h9, decide_eq_true (by omega)]; rfl
    · show decide (0 ≤ c) = !decide (c < 0)
      by_cases h9 : c < 0
      · rw [decide_eq_true h9, decide_eq_false (by omega)]; rfl
      · rw [decide_eq_false h9, decide_eq_true (by omega)]; rfl
    · show decide (¬ c = 0) = !decide (c = 0)
      by_cases h9 : c = 0
      · rw [decide_eq_true h9, decide_eq_false (by omega)]; rfl
      · rw [decide_eq_false h9, decide_eq_true (by omega)]; rfl
theorem Turned.ok {n m tr a b : Bool} (h : Turned n m tr a b) : ((n && (a != tr || b != tr)) || ((!n && m && (a || b)) || (!n && !m && (a == b)))) = false := by
  cases n
  · cases m
    · have := h.one rfl rfl
      subst this
      cases a <;> rfl
    · obtain ⟨h1, h2⟩ := h.none rfl rfl
      subst h1 h2
      rfl
  · obtain ⟨h1, h2⟩ := h.nan rfl
    subst h1 h2
    cases b <;> cases m <;> rfl
end Go.Proofs.YtieffhkfefimeaaGreatDoor

/-
  RunTurned: the walk.
-/
namespace Go.Proofs.YtieffhkfefimeaaGreatDoor
open Go.RowKit
set_option linter.unusedVariables false
set_option linter.unusedSimpArgs false

theorem exp_part {x : Nat} (h : x < 18446744073709551616) : bits .and .u64 ((x : Int) / 8388608) 255 = ((x / 8388608 % 256 : Nat) : Int) := by
  have := and_mask (x := x / 8388608) (k := 8) (by omega) (by decide)
  simpa using this
theorem frac_part {x : Nat} (h : x < 18446744073709551616) : bits .and .u64 (x : Int) 8388607 = ((x % 8388608 : Nat) : Int) := by
  have := and_mask (x := x) (k := 23) (by omega) (by decide)
  simpa using this
set_option maxRecDepth 100000 in
set_option maxHeartbeats 2000000 in
theorem turned_e (v x : Nat) (tr : Bool) (w : World) (hv : v < 18446744073709551616) (hx : x < 18446744073709551616) :
    Calls Tryz.prog 4 #[.int .u64 (v : Int), .int .u64 (x : Int), .bool tr] w fun e w' => e = .returned (.bool true) ∧ Below w.heap.size w w' := by
  have q1 := exp_part hv
  have q2 := frac_part hv
  have q3 := exp_part hx
  have q4 := frac_part hx
  obtain ⟨N, hN⟩ : ∃ N, nanB x = N := ⟨_, rfl⟩
  obtain ⟨M, hM⟩ : ∃ M, nanB v = M := ⟨_, rfl⟩
  have key := fun m1 m2 h => turned 0 v x tr m1 m2 h
  rw [hN, hM] at key
  have HN := Lib.hid hN
  have HM := Lib.hid hM
  clear hN hM
  go_enter Tryz.func4, Tryz.ntmps4
  go_upto_region 3 with (go_at_call 8; refine (alive24_any _).mono ?_; rintro e w1 ⟨rfl, hb1⟩)
  obtain ⟨w2, hwE⟩ : ∃ W, W = w1.alloc (.cells #[.int .i64 1, .int .i64 4, .int .i64 2, .int .i64 3, .int .i64 5, .int .i64 6] 25) := ⟨_, rfl⟩
  have hb2 : Below w1.heap.size w1 w2 := by rw [hwE]; exact (Below.refl _ w1).alloc (Nat.le_refl _) _
  obtain ⟨pb, hpE⟩ : ∃ p, p = w1.heap.size := ⟨_, rfl⟩
  have hbp : BoxL w2 pb [.int .i64 1, .int .i64 4, .int .i64 2, .int .i64 3, .int .i64 5, .int .i64 6] := by rw [hwE, hpE]; exact BoxL.new w1 _ _
  have HW := Lib.hid hwE; clear hwE
  go_upto_region 4 with fail
  rw [← HW.out, ← hpE]
  clear HW hpE
  have hbf := hb1.trans (hb2.mono hb1.size)
  clear hb1 hb2
  have nx : N = (decide ((x : Int) / 8388608 % 256 = 255) && decide ((x : Int) % 8388608 ≠ 0)) := by
    rw [← HN.out]; unfold nanB; rw [Bool.eq_iff_iff]; simp only [Bool.and_eq_true, decide_eq_true_eq]; omega
  have nv : M = (decide ((v : Int) / 8388608 % 256 = 255) && decide ((v : Int) % 8388608 ≠ 0)) := by
    rw [← HM.out]; unfold nanB; rw [Bool.eq_iff_iff]; simp only [Bool.and_eq_true, decide_eq_true_eq]; omega
  clear HN HM
  obtain ⟨xe, hxe⟩ : ∃ z : Int, z = (x : Int) / 8388608 % 256 := ⟨_, rfl⟩
  obtain ⟨xf, hxf⟩ : ∃ z : Int, z = (x : Int) % 8388608 := ⟨_, rfl⟩
  obtain ⟨ve, hve⟩ : ∃ z : Int, z = (v : Int) / 8388608 % 256 := ⟨_, rfl⟩
  obtain ⟨vf, hvf⟩ : ∃ z : Int, z = (v : Int) % 8388608 := ⟨_, rfl⟩
  have p3 : bits .and .u64 ((x : Int) / 8388608) 255 = xe := by rw [q3, hxe]; omega
  have p4 : bits .and .u64 (x : Int) 8388607 = xf := by rw [q4, hxf]; omega
  have p1 : bits .and .u64 ((v : Int) / 8388608) 255 = ve := by rw [q1, hve]; omega
  have p2 : bits .and .u64 (v : Int) 8388607 = vf := by rw [q2, hvf]; omega
  rw [← hxe, ← hxf] at nx
  rw [← hve, ← hvf] at nv
  clear q1 q2 q3 q4 hxe hxf hve hvf
  have HX := Lib.hid nx
  have HV := Lib.hid nv
  clear nx nv
  have cx : (∃ b : Bool, (xe == 255) = b ∧ ((xf != 0) = N ∨ b = false) ∧ (b = false → N = false)) := by
    refine ⟨(xe == 255), rfl, ?_, ?_⟩
    · rw [HX.out]; by_cases h : xe = 255 <;> by_cases h2 : xf = 0 <;> simp [h, h2]
    · intro h; rw [HX.out]; have h3 : xe ≠ 255 := by simpa using h
      simp [h3]
  have cv : (∃ b : Bool, (ve == 255) = b ∧ ((vf != 0) = M ∨ b = false) ∧ (b = false → M = false)) := by
    refine ⟨(ve == 255), rfl, ?_, ?_⟩
    · rw [HV.out]; by_cases h : ve = 255 <;> by_cases h2 : vf = 0 <;> simp [h, h2]
    · intro h; rw [HV.out]; have h3 : ve ≠ 255 := by simpa using h
      simp [h3]
  clear HX HV
  obtain ⟨bx, ex1, ex2, ex3⟩ := cx
  obtain ⟨bv, ev1, ev2, ev3⟩ := cv
  have st : ∀ (T8 : Bool), True := fun _ => trivial
  rcases Bool.eq_false_or_eq_true bx with hbx | hbx
  all_goals
    rcases Bool.eq_false_or_eq_true bv with hbv | hbv
  all_goals
    subst hbx
    subst hbv
    (try (have ex4 := ex3 rfl; subst ex4))
    (try (have ev4 := ev3 rfl; subst ev4))
    (try (have ex4 : (xf != 0) = N := by simpa using ex2))
    (try (have ev4 : (vf != 0) = M := by simpa using ev2))
    clear ex2 ex3 ev2 ev3
    go_upto_region 5 with fail
    go_upto_region 6 with fail
    clear p1 p2 p3 p4
    (try clear ex4)
    (try clear ev4)
    clear ex1 ev1
    go_wp2_with fail
    go_loopg [10] 3 (fun gg iv wr => ∃ (i : Nat), i + gg = 3 ∧ iv = .int .i64 (i : Int) ∧ Below w2.heap.size w2 wr)
    case atStart => exact ⟨0, by omega, rfl, Below.refl _ _⟩
    case round =>
      obtain ⟨i, hi, rfl, hbr⟩ := hrel
      replace hbp := hbp.kept hbr
      by_cases hil : i < 3
      · have hi3 : i = 0 ∨ i = 1 ∨ i = 2 := by omega
        have e0 := hbp.cell 0 _ rfl
        have e1 := hbp.cell 1 _ rfl
        have e2 := hbp.cell 2 _ rfl
        have e3 := hbp.cell 3 _ rfl
        have e4 := hbp.cell 4 _ rfl
        have e5 := hbp.cell 5 _ rfl
        clear hil
        rcases hi3 with rfl | rfl | rfl
        · obtain ⟨a, ha⟩ : ∃ a, takesP 1 v tr x = a := ⟨_, rfl⟩
          obtain ⟨b, hb⟩ : ∃ b, takesP 4 v tr x = b := ⟨_, rfl⟩
          have hk := key 1 4 (.inl ⟨rfl, rfl⟩)
          rw [ha, hb] at hk
          have hT1 := fun W => takes_any 1 v tr x a W hv hx (Lib.hid ha)
          have hT2 := fun W => takes_any 4 v tr x b W hv hx (Lib.hid hb)
          clear ha hb key
          go_upto_region 10 with (go_at_call 9; refine (hT1 _).mono ?_; rintro e9 w3 ⟨rfl, hb3⟩)
          replace e0 := (hb3.cell (p := ⟨pb, 0, none⟩) (by have := hbp.lt; exact this)).trans e0
          replace e1 := (hb3.cell (p := ⟨pb, 1, none⟩) (by have := hbp.lt; exact this)).trans e1
          replace e2 := (hb3.cell (p := ⟨pb, 2, none⟩) (by have := hbp.lt; exact this)).trans e2
          replace e3 := (hb3.cell (p := ⟨pb, 3, none⟩) (by have := hbp.lt; exact this)).trans e3
          replace e4 := (hb3.cell (p := ⟨pb, 4, none⟩) (by have := hbp.lt; exact this)).trans e4
          replace e5 := (hb3.cell (p := ⟨pb, 5, none⟩) (by have := hbp.lt; exact this)).trans e5
          go_upto_region 11 with (go_at_call 9; refine (hT2 _).mono ?_; rintro e9 w4 ⟨rfl, hb4⟩)
          have hbr4 := hbr.trans ((hb3.trans (hb4.mono hb3.size)).mono hbr.size)
          clear e0 e1 e2 e3 e4 e5 hT1 hT2
          clear hbp
          (try cases N) <;> (try cases M) <;> cases tr <;> cases a <;> cases b
          all_goals
            first
            | exact absurd hk.ok (by decide)
            | (clear hk; go_wp2_with fail; go_roundg (gk - 1); (case measure => omega); (case rel => exact ⟨1, by omega, by go_num, hbr4⟩))
        · obtain ⟨a, ha⟩ : ∃ a, takesP 2 v tr x = a := ⟨_, rfl⟩
          obtain ⟨b, hb⟩ : ∃ b, takesP 3 v tr x = b := ⟨_, rfl⟩
          have hk := key 2 3 (.inr (.inl ⟨rfl, rfl⟩))
          rw [ha, hb] at hk
          have hT1 := fun W => takes_any 2 v tr x a W hv hx (Lib.hid ha)
          have hT2 := fun W => takes_any 3 v tr x b W hv hx (Lib.hid hb)
          clear ha hb key
          go_upto_region 10 with (go_at_call 9; refine (hT1 _).mono ?_; rintro e9 w3 ⟨rfl, hb3⟩)
          replace e0 := (hb3.cell (p := ⟨pb, 0, none⟩) (by have := hbp.lt; exact this)).trans e0
          replace e1 := (hb3.cell (p := ⟨pb, 1, none⟩) (by have := hbp.lt; exact this)).trans e1
          replace e2 := (hb3.cell (p := ⟨pb, 2, none⟩) (by have := hbp.lt; exact this)).trans e2
          replace e3 := (hb3.cell (p := ⟨pb, 3, none⟩) (by have := hbp.lt; exact this)).trans e3
          replace e4 := (hb3.cell (p := ⟨pb, 4, none⟩) (by have := hbp.lt; exact this)).trans e4
          replace e5 := (hb3.cell (p := ⟨pb, 5, none⟩) (by have := hbp.lt; exact this)).trans e5
          go_upto_region 11 with (go_at_call 9; refine (hT2 _).mono ?_; rintro e9 w4 ⟨rfl, hb4⟩)
          have hbr4 := hbr.trans ((hb3.trans (hb4.mono hb3.size)).mono hbr.size)
          clear e0 e1 e2 e3 e4 e5 hT1 hT2
          clear hbp
          (try cases N) <;> (try cases M) <;> cases tr <;> cases a <;> cases b
          all_goals
            first
            | exact absurd hk.ok (by decide)
            | (clear hk; go_wp2_with fail; go_roundg (gk - 1); (case measure => omega); (case rel => exact ⟨2, by omega, by go_num, hbr4⟩))
        · obtain ⟨a, ha⟩ : ∃ a, takesP 5 v tr x = a := ⟨_, rfl⟩
          obtain ⟨b, hb⟩ : ∃ b, takesP 6 v tr x = b := ⟨_, rfl⟩
          have hk := key 5 6 (.inr (.inr ⟨rfl, rfl⟩))
          rw [ha, hb] at hk
          have hT1 := fun W => takes_any 5 v tr x a W hv hx (Lib.hid ha)
          have hT2 := fun W => takes_any 6 v tr x b W hv hx (Lib.hid hb)
          clear ha hb key
          go_upto_region 10 with (go_at_call 9; refine (hT1 _).mono ?_; rintro e9 w3 ⟨rfl, hb3⟩)
          replace e0 := (hb3.cell (p := ⟨pb, 0, none⟩) (by have := hbp.lt; exact this)).trans e0
          replace e1 := (hb3.cell (p := ⟨pb, 1, none⟩) (by have := hbp.lt; exact this)).trans e1
          replace e2 := (hb3.cell (p := ⟨pb, 2, none⟩) (by have := hbp.lt; exact this)).trans e2
          replace e3 := (hb3.cell (p := ⟨pb, 3, none⟩) (by have := hbp.lt; exact this)).trans e3
          replace e4 := (hb3.cell (p := ⟨pb, 4, none⟩) (by have := hbp.lt; exact this)).trans e4
          replace e5 := (hb3.cell (p := ⟨pb, 5, none⟩) (by have := hbp.lt; exact this)).trans e5
          go_upto_region 11 with (go_at_call 9; refine (hT2 _).mono ?_; rintro e9 w4 ⟨rfl, hb4⟩)
          have hbr4 := hbr.trans ((hb3.trans (hb4.mono hb3.size)).mono hbr.size)
          clear e0 e1 e2 e3 e4 e5 hT1 hT2
          clear hbp
          (try cases N) <;> (try cases M) <;> cases tr <;> cases a <;> cases b
          all_goals
            first
            | exact absurd hk.ok (by decide)
            | (clear hk; go_wp2_with fail; go_roundg (gk - 1); (case measure => omega); (case rel => exact ⟨3, by omega, by go_num, hbr4⟩))
      · obtain rfl : i = 3 := by omega
        go_wp2_with fail
        go_ret
        exact ⟨rfl, hbf.trans (hbr.mono hbf.size)⟩
end Go.Proofs.YtieffhkfefimeaaGreatDoor

/-
  RunTurned: the walk, for what came in.
-/
namespace Go.Proofs.YtieffhkfefimeaaGreatDoor
open Go.RowKit
theorem u64_of {n : Int} (h : (Lit.int .u64 n).wf = true) : ∃ m : Nat, n = (m : Int) ∧ m < 18446744073709551616 := by
  simp [Lit.wf] at h
  have h1 : IntKind.u64.min = 0 := rfl
  have h2 : IntKind.u64.max = 18446744073709551615 := rfl
  rw [h1, h2] at h
  exact ⟨n.toNat, by omega, by omega⟩
theorem runTurned_walk (a0 a1 : Int) (a2 : Bool) (w0 : (Lit.int .u64 a0).wf = true) (w1 : (Lit.int .u64 a1).wf = true) (w : World) :
    Calls Tryz.prog 4 #[.int .u64 a0, .int .u64 a1, .bool a2] w fun e w' => e = .returned (.bool true) ∧ Below w.heap.size w w' := by
  obtain ⟨v, rfl, hv⟩ := u64_of w0
  obtain ⟨x, rfl, hx⟩ := u64_of w1
  exact turned_e v x a2 w hv hx
end Go.Proofs.YtieffhkfefimeaaGreatDoor
