/-
  TargetPlain: the walk.
-/
import Derived.Test.YtnajnbgjmgkcoaaDoorTarB
namespace Go.Proofs.YtnajnbgjmgkcoaaDoor
open Go.RowKit
set_option linter.unusedVariables false
set_option linter.unusedSimpArgs false
attribute [local go_sem] field_nat

set_option maxRecDepth 100000 in
set_option maxHeartbeats 1000000 in
/-- TargetPlain, of long texts. -/
theorem targetPlain_early (mn mx num : List UInt8) (w : World) (hc : decide ((300 : Int) < wrap64 (wrap64 ((mn.length : Int) + (mx.length : Int)) + (num.length : Int))) = true) :
    Calls Tryd.prog 3 #[.string ⟨mn.toArray⟩, .string ⟨mx.toArray⟩, .string ⟨num.toArray⟩] w fun e w' => e = .returned (.bool true) ∧ Below w.heap.size w w' := by
  go_enter Tryd.func3, Tryd.ntmps3
  go_wp2_with fail
  refine (alive17_any _).mono ?_
  rintro e w1 ⟨rfl, hb⟩
  have hbf := hb
  clear hb
  go_wp2_with fail
  go_ret
  exact ⟨rfl, hbf⟩

set_option maxRecDepth 100000 in
set_option maxHeartbeats 1000000 in
/-- TargetPlain, of no number. -/
theorem targetPlain_none (mn mx num : List UInt8) (b9 : Bool) (w : World) (hc : decide ((300 : Int) < wrap64 (wrap64 ((mn.length : Int) + (mx.length : Int)) + (num.length : Int))) = false) (h1 : mn.length ≤ maxL) (h2 : mx.length ≤ maxL) (h3 : num.length ≤ maxL) (HA : Hid (tapply [] [] [] [] 0 num = [])) (HB : Hid (tvalid mn mx [] [] 0 = b9)) :
    Calls Tryd.prog 3 #[.string ⟨mn.toArray⟩, .string ⟨mx.toArray⟩, .string ⟨num.toArray⟩] w fun e w' => e = .returned (.bool true) ∧ Below w.heap.size w w' := by
  go_enter Tryd.func3, Tryd.ntmps3
  go_wp2_with fail
  refine (alive17_any _).mono ?_
  rintro e w1 ⟨rfl, hb⟩
  have hbf := hb
  clear hb
  go_wp2_with fail
  refine (apply_t [] [] [] [] num [] 0 _ HA (by decide) (by decide) (by decide) (by decide) h3).mono ?_
  rintro e w2 ⟨rfl, hb⟩
  replace hbf := hbf.trans (hb.mono hbf.size)
  clear hb
  obtain ⟨w3, hwE⟩ : ∃ W, W = (w2.alloc (.cells #[.string ⟨mn.toArray⟩, .string ⟨mx.toArray⟩, .string ⟨#[]⟩, .string ⟨#[]⟩, .int .i64 0] 25)) := ⟨_, rfl⟩
  have hb : Below w2.heap.size w2 w3 := by rw [hwE]; exact ((Below.refl _ w2).alloc (Nat.le_refl _) _)
  obtain ⟨pg, hpg⟩ : ∃ p, p = w2.heap.size := ⟨_, rfl⟩
  have hbg : Box5 w3 pg (Value.string ⟨mn.toArray⟩) (Value.string ⟨mx.toArray⟩) (Value.string ⟨#[]⟩) (Value.string ⟨#[]⟩) (Value.int .i64 0) := by rw [hwE, hpg]; exact ⟨by go_simp, by go_simp, by go_simp, by go_simp, by go_simp, by go_simp, by go_simp, by go_simp, by go_simp, by go_simp⟩
  have HP : Hid (w.heap.size ≤ pg) := Lib.hid (by have h9 := hbf.size; omega)
  have HW := Lib.hid hwE; clear hwE
  go_upto_region 7 with fail
  rw [← HW.out, ← hpg]
  clear hpg HW
  replace hbf := hbf.trans (hb.mono hbf.size)
  clear hb
  have eg0 := hbg.c0
  have eg1 := hbg.c1
  have eg2 := hbg.c2
  have eg3 := hbg.c3
  have eg4 := hbg.c4
  go_wp2_with fail
  refine (valid17_b mn mx [] [] 0 b9 _ HB h1 h2 (by decide) (by decide)).mono ?_
  rintro e w4 ⟨rfl, hb⟩
  clear eg0 eg1 eg2 eg3 eg4
  replace hbg := hbg.kept hb
  replace hbf := hbf.trans (hb.mono hbf.size)
  clear hb
  cases b9
  case false =>
    go_wp2_with fail
    go_ret
    exact ⟨rfl, hbf⟩
  case true =>
    go_wp2_with fail
    go_ret
    exact ⟨rfl, hbf⟩

set_option maxRecDepth 100000 in
set_option maxHeartbeats 1000000 in
/-- TargetPlain. -/
theorem targetPlain_some (mn mx num : List UInt8) (b9 : Bool) (w : World) (hc : decide ((300 : Int) < wrap64 (wrap64 ((mn.length : Int) + (mx.length : Int)) + (num.length : Int))) = false) (hne : num ≠ []) (h1 : mn.length ≤ maxL) (h2 : mx.length ≤ maxL) (h3 : num.length ≤ maxL) (HA : Hid (tapply [] [] [] [] 0 num = num)) (HB : Hid (tvalid mn mx [] [] 0 = b9)) (HL : Hid (b9 = true → tapply mn mx [] [] 0 num ≠ [] ∧ tapply mn mx [] [] 0 (tapply mn mx [] [] 0 num) = tapply mn mx [] [] 0 num ∧ (tapply mn mx [] [] 0 num = num ∨ tapply mn mx [] [] 0 num = mn ∨ tapply mn mx [] [] 0 num = mx))) :
    Calls Tryd.prog 3 #[.string ⟨mn.toArray⟩, .string ⟨mx.toArray⟩, .string ⟨num.toArray⟩] w fun e w' => e = .returned (.bool true) ∧ Below w.heap.size w w' := by
  have hnb : (num == []) = false := nil_beq hne
  have hnn : (num == num) = true := beq_self_eq_true _
  go_enter Tryd.func3, Tryd.ntmps3
  go_wp2_with fail
  refine (alive17_any _).mono ?_
  rintro e w1 ⟨rfl, hb⟩
  have hbf := hb
  clear hb
  go_wp2_with fail
  refine (apply_t [] [] [] [] num num 0 _ HA (by decide) (by decide) (by decide) (by decide) h3).mono ?_
  rintro e w2 ⟨rfl, hb⟩
  replace hbf := hbf.trans (hb.mono hbf.size)
  clear hb
  obtain ⟨w3, hwE⟩ : ∃ W, W = (w2.alloc (.cells #[.string ⟨mn.toArray⟩, .string ⟨mx.toArray⟩, .string ⟨#[]⟩, .string ⟨#[]⟩, .int .i64 0] 25)) := ⟨_, rfl⟩
  have hb : Below w2.heap.size w2 w3 := by rw [hwE]; exact ((Below.refl _ w2).alloc (Nat.le_refl _) _)
  obtain ⟨pg, hpg⟩ : ∃ p, p = w2.heap.size := ⟨_, rfl⟩
  have hbg : Box5 w3 pg (Value.string ⟨mn.toArray⟩) (Value.string ⟨mx.toArray⟩) (Value.string ⟨#[]⟩) (Value.string ⟨#[]⟩) (Value.int .i64 0) := by rw [hwE, hpg]; exact ⟨by go_simp, by go_simp, by go_simp, by go_simp, by go_simp, by go_simp, by go_simp, by go_simp, by go_simp, by go_simp⟩
  have HP : Hid (w.heap.size ≤ pg) := Lib.hid (by have h9 := hbf.size; omega)
  have HW := Lib.hid hwE; clear hwE
  go_upto_region 7 with fail
  rw [← HW.out, ← hpg]
  clear hpg HW
  replace hbf := hbf.trans (hb.mono hbf.size)
  clear hb
  have eg0 := hbg.c0
  have eg1 := hbg.c1
  have eg2 := hbg.c2
  have eg3 := hbg.c3
  have eg4 := hbg.c4
  go_wp2_with fail
  refine (valid17_b mn mx [] [] 0 b9 _ HB h1 h2 (by decide) (by decide)).mono ?_
  rintro e w4 ⟨rfl, hb⟩
  clear eg0 eg1 eg2 eg3 eg4
  replace hbg := hbg.kept hb
  replace hbf := hbf.trans (hb.mono hbf.size)
  clear hb
  cases b9
  case false =>
    go_wp2_with fail
    go_ret
    exact ⟨rfl, hbf⟩
  case true =>
    obtain ⟨T1, hT1⟩ : ∃ T, tapply mn mx [] [] 0 num = T := ⟨_, rfl⟩
    obtain ⟨l1, l2, l3⟩ := HL.out rfl
    rw [hT1] at l1 l2 l3
    have H1 := Lib.hid hT1
    have H2 := Lib.hid l2
    have ht1 : (T1 == []) = false := nil_beq l1
    have ht2 : (T1 == T1) = true := beq_self_eq_true _
    have hlen : T1.length ≤ maxL := by rcases l3 with h | h | h <;> (rw [h]; assumption)
    clear hT1 l1 l2
    have eg0 := hbg.c0
    have eg1 := hbg.c1
    have eg2 := hbg.c2
    have eg3 := hbg.c3
    have eg4 := hbg.c4
    go_wp2_with fail
    refine (apply_t mn mx [] [] num T1 0 _ H1 h1 h2 (by decide) (by decide) h3).mono ?_
    rintro e w5 ⟨rfl, hb⟩
    clear eg0 eg1 eg2 eg3 eg4
    replace hbg := hbg.kept hb
    replace hbf := hbf.trans (hb.mono hbf.size)
    clear hb
    have eg0 := hbg.c0
    have eg1 := hbg.c1
    have eg2 := hbg.c2
    have eg3 := hbg.c3
    have eg4 := hbg.c4
    go_wp2_with fail
    refine (apply_t mn mx [] [] T1 T1 0 _ H2 h1 h2 (by decide) (by decide) hlen).mono ?_
    rintro e w6 ⟨rfl, hb⟩
    clear eg0 eg1 eg2 eg3 eg4
    replace hbg := hbg.kept hb
    replace hbf := hbf.trans (hb.mono hbf.size)
    clear hb
    by_cases h : T1 = num
    case pos =>
      have e1 : (T1 == num) = true := by rw [beq_iff_eq]; exact h
      go_wp2_with fail
      go_ret
      exact ⟨rfl, hbf⟩
    case neg =>
      have e1 : (T1 == num) = false := by rw [beq_eq_false_iff_ne]; exact h
      by_cases h9 : T1 = mn
      case pos =>
        subst h9
        go_wp2_with fail
        go_ret
        exact ⟨rfl, hbf⟩
      case neg =>
        have e2 : (T1 == mn) = false := by rw [beq_eq_false_iff_ne]; exact h9
        have e3 : (T1 == mx) = true := by rw [beq_iff_eq]; rcases l3 with g | g | g; exact (h g).elim; exact (h9 g).elim; exact g
        go_wp2_with fail
        go_ret
        exact ⟨rfl, hbf⟩

theorem tok_len {l : List UInt8} (h : tok l = true) : l.length ≤ 2402 := by
  rcases tok_le h with h | h
  · rw [h]; exact Nat.zero_le _
  · exact tis_len h
theorem targetPlain_walk (a0 a1 a2 : ByteArray) (w0 : a0.size ≤ maxLen) (w1 : a1.size ≤ maxLen) (w2 : a2.size ≤ maxLen) (w : World) :
    Calls Tryd.prog 3 #[.string a0, .string a1, .string a2] w fun e w' => e = .returned (.bool true) ∧ Below w.heap.size w w' := by
  obtain ⟨mn, rfl, e0⟩ := bytes_of a0
  obtain ⟨mx, rfl, e1⟩ := bytes_of a1
  obtain ⟨num, rfl, e2⟩ := bytes_of a2
  have h1 : mn.length ≤ maxL := by unfold maxLen at w0; unfold maxL; simp at w0; omega
  have h2 : mx.length ≤ maxL := by unfold maxLen at w1; unfold maxL; simp at w1; omega
  have h3 : num.length ≤ maxL := by unfold maxLen at w2; unfold maxL; simp at w2; omega
  clear w0 w1 w2
  by_cases hc : (300 : Int) < wrap64 (wrap64 ((mn.length : Int) + (mx.length : Int)) + (num.length : Int))
  · exact targetPlain_early mn mx num w (decide_eq_true hc)
  · have hp := plain_a num
    by_cases hn : tis num = true
    · rw [if_pos hn] at hp
      refine targetPlain_some mn mx num _ w (decide_eq_false hc) (tis_ne hn) h1 h2 h3 (Lib.hid hp) (Lib.hid rfl) (Lib.hid fun hv => plain_law ?_ hn hv)
      obtain ⟨_, _, k1, k2, _⟩ := tvalid_parts hv
      have j1 := tok_len k1
      have j2 := tok_len k2
      have j3 := tis_len hn
      unfold wrap64 at hc
      omega
    · rw [if_neg hn] at hp
      exact targetPlain_none mn mx num _ w (decide_eq_false hc) h1 h2 h3 (Lib.hid hp) (Lib.hid rfl)
end Go.Proofs.YtnajnbgjmgkcoaaDoor
