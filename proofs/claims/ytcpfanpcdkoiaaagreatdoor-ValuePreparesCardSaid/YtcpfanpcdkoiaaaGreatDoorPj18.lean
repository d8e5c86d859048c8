/-
  Pj18: FldF (what is needed of them).
-/
import Derived.Test.YtcpfanpcdkoiaaaGreatDoorPj06
import Derived.Test.YtcpfanpcdkoiaaaGreatDoorPj17
import Derived.Laws.StructEq
import Derived.OwnWalk
set_option maxRecDepth 100000
set_option linter.unusedVariables false
set_option linter.unusedSimpArgs false

namespace Go.Proofs.YtcpfanpcdkoiaaaGreatDoor
open Go.RowKit


attribute [local go_sem] field_nat
instance : DecidableEq V3 := fun a b => decidable_of_iff (a.k = b.k ∧ a.n = b.n ∧ a.c = b.c) ⟨fun h => by cases a; cases b; obtain ⟨h1, h2, h3⟩ := h; dsimp only at h1 h2 h3; subst h1 h2 h3; rfl, fun h => by subst h; exact ⟨rfl, rfl, rfl⟩⟩
theorem sv_step {us vs : List V3} {i : Nat} (h1 : us.length = vs.length) (hi : i < us.length) (he : us[i]? = vs[i]?) (hp : us.take i = vs.take i) : us.take (i + 1) = vs.take (i + 1) := by
 rw [List.take_add_one, List.take_add_one, he, hp]
set_option maxHeartbeats 2000000 in
theorem sameVals_any (ao bo : Option Addr) (n m ac bc : Nat) (us vs : List V3) (b : Bool) (w : World) (hn : n = us.length) (hm : m = vs.length) (hu : Vals w ao us) (hv : Vals w bo vs) (hl : us.length ≤ 9223372036854775807) (HB : Hid (b = decide (us = vs))) :
  Calls Tryz.prog 16 #[.slice ao n ac, .slice bo m bc] w fun e w' => e = .returned (.bool b) ∧ Below w.heap.size w w' := by
 by_cases hlen : us.length = vs.length
 ·have hmn : m = n := by omega
  subst hmn
  have HM := Lib.hid hm
  have HN := Lib.hid hn
  have HLE : Hid (us.length = vs.length) := Lib.hid hlen
  have hml : m ≤ 9223372036854775807 := by omega
  have HU := Lib.hid hu
  have HV := Lib.hid hv
  clear hn hm hlen hl hu hv
  go_enter Tryz.func16, Tryz.ntmps16
  go_wp2_with fail
  go_loopg [5] m (fun gg iv wr => ∃ (i : Nat), i + gg = m ∧ iv = .int .i64 (i : Int) ∧ Hid (us.take i = vs.take i) ∧ Below w.heap.size w wr)
  case atStart => exact ⟨0, by omega, rfl, Lib.hid rfl, Below.refl _ _⟩
  case round =>
   obtain ⟨i, hi, rfl, HT, hbf⟩ := hrel
   by_cases hil : ¬ i < m
   case pos =>
    have hb2 : b = true := by
     rw [HB.out]
     have h := HT.out
     rw [List.take_of_length_le (by have := HN.out; omega), List.take_of_length_le (by have := HM.out; omega)] at h
     exact decide_eq_true h
    have HB2 := Lib.hid hb2
    have hii : ¬ ((i : Nat) : Int) < ((m : Nat) : Int) := by omega
    clear hb2
    go_wp2_with fail
    go_ret
    exact ⟨ret_one (congrArg Value.bool HB2.out.symm), hbf⟩
   case neg =>
    have hil9 : i < m := by omega
    have hii : ((i : Nat) : Int) < ((m : Nat) : Int) := by omega
    have hqi : (0 : Int) ≤ (i : Int) := by omega
    obtain ⟨u, hu9⟩ : ∃ u, us[i]? = some u := ⟨_, List.getElem?_eq_getElem (by have := HN.out; omega)⟩
    obtain ⟨v, hv9⟩ : ∃ u, vs[i]? = some u := ⟨_, List.getElem?_eq_getElem (by have := HM.out; omega)⟩
    obtain ⟨ab, aoff, ha, c0, c1, c2⟩ := HU.out i u hu9
    obtain ⟨bb, boff, hbo, d0, d1, d2⟩ := HV.out i v hv9
    have HU9 := Lib.hid hu9
    have HV9 := Lib.hid hv9
    subst ha hbo
    replace c0 := c0.kept hbf
    replace c1 := c1.kept hbf
    replace c2 := c2.kept hbf
    replace d0 := d0.kept hbf
    replace d1 := d1.kept hbf
    replace d2 := d2.kept hbf
    obtain ⟨k1, n1, s1⟩ := u
    obtain ⟨k2, n2, s2⟩ := v
    clear hil hu9 hv9
    by_cases hall : k1 = k2 ∧ n1 = n2 ∧ s1 = s2
    ·obtain ⟨rfl, rfl, rfl⟩ := hall
     have HT2 : Hid (us.take (i + 1) = vs.take (i + 1)) := Lib.hid (sv_step HLE.out (by have := HN.out; omega) (by rw [HU9.out, HV9.out]) HT.out)
     go_wp2_with fail
     refine wp_region_seq (S := fun w' => CellV w' ab (aoff + i * 3) (.int .i64 k1) ∧ CellV w' ab (aoff + i * 3 + 1) (.string ⟨n1.toArray⟩) ∧ CellV w' ab (aoff + i * 3 + 2) (.string ⟨s1.toArray⟩) ∧ CellV w' bb (boff + i * 3) (.int .i64 k1) ∧ CellV w' bb (boff + i * 3 + 1) (.string ⟨n1.toArray⟩) ∧ CellV w' bb (boff + i * 3 + 2) (.string ⟨s1.toArray⟩)) [(true, 0), (true, 1), (true, 2), (true, 3), (true, 4), (true, 5), (true, 6), (true, 7), (true, 8), (true, 9)] (by kernel_rfl) (by kernel_rfl) (by kernel_rfl) (by kernel_rfl) (by kernel_rfl) (fun d _ _ _ _ h => by cases d <;> exact h) ⟨c0.drew, c1.drew, c2.drew, d0.drew, d1.drew, d2.drew⟩ (fun _ => ?_)
     simp only [pickOps, List.append_eq, List.cons_append, List.nil_append, List.getElem?_toArray, List.getElem?_cons_succ, List.getElem?_cons_zero]
     have hb : Below wr.heap.size wr wr.drew := (Below.refl _ _).drew
     generalize wr.drew = wd at hb ⊢
     replace hbf := hbf.trans (hb.mono hbf.size)
     clear hb
     repeat (first | (refine seq_take (v := ?_) (by rfl) ?_ ?_; rotate_left; (· intro w hSw; (try dsimp only at hSw); obtain ⟨⟨q0⟩, ⟨q1⟩, ⟨q2⟩, ⟨q3⟩, ⟨q4⟩, ⟨q5⟩⟩ := hSw; go_simp; all_goals with_reducible rfl); (try simp only [Act.put, List.setIfInBounds_toArray, List.set_cons_zero, List.set_cons_succ])) | (refine seq_leave (by rfl) ?_; (try simp only [Act.put, List.setIfInBounds_toArray, List.set_cons_zero, List.set_cons_succ])))
     refine seq_end ?_
     go_wp2_with fail
     go_roundg (gk - 1)
     case measure => omega
     case rel => exact ⟨i + 1, by omega, by go_num, HT2, hbf⟩
    ·have hb2 : b = false := by
      rw [HB.out]
      refine decide_eq_false fun e => hall ?_
      have h1 := HU9.out
      have h2 := HV9.out
      rw [e] at h1
      rw [h1] at h2
      cases h2
      exact ⟨rfl, rfl, rfl⟩
     have HB2 := Lib.hid hb2
     clear hb2
     by_cases hk : k1 = k2
     ·subst hk
      by_cases hn : n1 = n2
      ·subst hn
       have hs : ¬ s1 = s2 := fun h => hall ⟨rfl, rfl, h⟩
       have hsb : (s1 == s2) = false := by rw [beq_eq_false_iff_ne]; exact hs
       clear hall
       go_wp2_with fail
       refine wp_region_seq (S := fun w' => CellV w' ab (aoff + i * 3) (.int .i64 k1) ∧ CellV w' ab (aoff + i * 3 + 1) (.string ⟨n1.toArray⟩) ∧ CellV w' ab (aoff + i * 3 + 2) (.string ⟨s1.toArray⟩) ∧ CellV w' bb (boff + i * 3) (.int .i64 k1) ∧ CellV w' bb (boff + i * 3 + 1) (.string ⟨n1.toArray⟩) ∧ CellV w' bb (boff + i * 3 + 2) (.string ⟨s2.toArray⟩)) [(true, 0), (true, 1), (true, 2), (true, 3), (true, 4), (true, 5), (true, 6), (true, 7), (true, 8), (true, 9)] (by kernel_rfl) (by kernel_rfl) (by kernel_rfl) (by kernel_rfl) (by kernel_rfl) (fun d _ _ _ _ h => by cases d <;> exact h) ⟨c0.drew, c1.drew, c2.drew, d0.drew, d1.drew, d2.drew⟩ (fun _ => ?_)
       simp only [pickOps, List.append_eq, List.cons_append, List.nil_append, List.getElem?_toArray, List.getElem?_cons_succ, List.getElem?_cons_zero]
       have hb : Below wr.heap.size wr wr.drew := (Below.refl _ _).drew
       generalize wr.drew = wd at hb ⊢
       replace hbf := hbf.trans (hb.mono hbf.size)
       clear hb
       repeat (first | (refine seq_take (v := ?_) (by rfl) ?_ ?_; rotate_left; (· intro w hSw; (try dsimp only at hSw); obtain ⟨⟨q0⟩, ⟨q1⟩, ⟨q2⟩, ⟨q3⟩, ⟨q4⟩, ⟨q5⟩⟩ := hSw; go_simp; all_goals with_reducible rfl); (try simp only [Act.put, List.setIfInBounds_toArray, List.set_cons_zero, List.set_cons_succ])) | (refine seq_leave (by rfl) ?_; (try simp only [Act.put, List.setIfInBounds_toArray, List.set_cons_zero, List.set_cons_succ])))
       refine seq_end ?_
       go_wp2_with fail
       go_ret
       exact ⟨ret_one (congrArg Value.bool HB2.out.symm), hbf⟩
      ·have hnb : (n1 == n2) = false := by rw [beq_eq_false_iff_ne]; exact hn
       clear hall
       go_wp2_with fail
       refine wp_region_seq (S := fun w' => CellV w' ab (aoff + i * 3) (.int .i64 k1) ∧ CellV w' ab (aoff + i * 3 + 1) (.string ⟨n1.toArray⟩) ∧ CellV w' ab (aoff + i * 3 + 2) (.string ⟨s1.toArray⟩) ∧ CellV w' bb (boff + i * 3) (.int .i64 k1) ∧ CellV w' bb (boff + i * 3 + 1) (.string ⟨n2.toArray⟩) ∧ CellV w' bb (boff + i * 3 + 2) (.string ⟨s2.toArray⟩)) [(true, 0), (true, 1), (true, 2), (true, 3), (true, 4), (true, 5), (true, 6), (true, 7), (true, 8), (true, 9)] (by kernel_rfl) (by kernel_rfl) (by kernel_rfl) (by kernel_rfl) (by kernel_rfl) (fun d _ _ _ _ h => by cases d <;> exact h) ⟨c0.drew, c1.drew, c2.drew, d0.drew, d1.drew, d2.drew⟩ (fun _ => ?_)
       simp only [pickOps, List.append_eq, List.cons_append, List.nil_append, List.getElem?_toArray, List.getElem?_cons_succ, List.getElem?_cons_zero]
       have hb : Below wr.heap.size wr wr.drew := (Below.refl _ _).drew
       generalize wr.drew = wd at hb ⊢
       replace hbf := hbf.trans (hb.mono hbf.size)
       clear hb
       repeat (first | (refine seq_take (v := ?_) (by rfl) ?_ ?_; rotate_left; (· intro w hSw; (try dsimp only at hSw); obtain ⟨⟨q0⟩, ⟨q1⟩, ⟨q2⟩, ⟨q3⟩, ⟨q4⟩, ⟨q5⟩⟩ := hSw; go_simp; all_goals with_reducible rfl); (try simp only [Act.put, List.setIfInBounds_toArray, List.set_cons_zero, List.set_cons_succ])) | (refine seq_leave (by rfl) ?_; (try simp only [Act.put, List.setIfInBounds_toArray, List.set_cons_zero, List.set_cons_succ])))
       refine seq_end ?_
       go_wp2_with fail
       go_ret
       exact ⟨ret_one (congrArg Value.bool HB2.out.symm), hbf⟩
     ·have hkb : (k1 == k2) = false := by rw [beq_eq_false_iff_ne]; exact hk
      clear hall
      go_wp2_with fail
      refine wp_region_seq (S := fun w' => CellV w' ab (aoff + i * 3) (.int .i64 k1) ∧ CellV w' ab (aoff + i * 3 + 1) (.string ⟨n1.toArray⟩) ∧ CellV w' ab (aoff + i * 3 + 2) (.string ⟨s1.toArray⟩) ∧ CellV w' bb (boff + i * 3) (.int .i64 k2) ∧ CellV w' bb (boff + i * 3 + 1) (.string ⟨n2.toArray⟩) ∧ CellV w' bb (boff + i * 3 + 2) (.string ⟨s2.toArray⟩)) [(true, 0), (true, 1), (true, 2), (true, 3), (true, 4), (true, 5), (true, 6), (true, 7), (true, 8), (true, 9)] (by kernel_rfl) (by kernel_rfl) (by kernel_rfl) (by kernel_rfl) (by kernel_rfl) (fun d _ _ _ _ h => by cases d <;> exact h) ⟨c0.drew, c1.drew, c2.drew, d0.drew, d1.drew, d2.drew⟩ (fun _ => ?_)
      simp only [pickOps, List.append_eq, List.cons_append, List.nil_append, List.getElem?_toArray, List.getElem?_cons_succ, List.getElem?_cons_zero]
      have hb : Below wr.heap.size wr wr.drew := (Below.refl _ _).drew
      generalize wr.drew = wd at hb ⊢
      replace hbf := hbf.trans (hb.mono hbf.size)
      clear hb
      repeat (first | (refine seq_take (v := ?_) (by rfl) ?_ ?_; rotate_left; (· intro w hSw; (try dsimp only at hSw); obtain ⟨⟨q0⟩, ⟨q1⟩, ⟨q2⟩, ⟨q3⟩, ⟨q4⟩, ⟨q5⟩⟩ := hSw; go_simp; all_goals with_reducible rfl); (try simp only [Act.put, List.setIfInBounds_toArray, List.set_cons_zero, List.set_cons_succ])) | (refine seq_leave (by rfl) ?_; (try simp only [Act.put, List.setIfInBounds_toArray, List.set_cons_zero, List.set_cons_succ])))
      refine seq_end ?_
      go_wp2_with fail
      go_ret
      exact ⟨ret_one (congrArg Value.bool HB2.out.symm), hbf⟩
 ·have hb2 : b = false := by
   rw [HB.out]
   exact decide_eq_false fun e => hlen (by rw [e])
  have HB2 := Lib.hid hb2
  have hne : (((n : Nat) : Int) != ((m : Nat) : Int)) = true := by rw [bne_iff_ne]; omega
  clear hb2 hn hm hlen hl hu hv
  go_enter Tryz.func16, Tryz.ntmps16
  go_wp2_with fail
  go_ret
  exact ⟨ret_one (congrArg Value.bool HB2.out.symm), Below.refl _ _⟩
theorem E_val : ElemK Tryz.prog 23 30 (.agg #[.int .i64 0, .string ⟨#[]⟩, .string ⟨#[]⟩]) 3 40 := elemK_of Tryz.underlying23 (by kernel_rfl) rfl (by decide)
def vcells (us : List V3) : List Value := us.flatMap fun u => [.int .i64 u.k, .string ⟨u.n.toArray⟩, .string ⟨u.c.toArray⟩]
theorem vcells_snoc (us : List V3) (u : V3) : vcells (us ++ [u]) = vcells us ++ [.int .i64 u.k, .string ⟨u.n.toArray⟩, .string ⟨u.c.toArray⟩] := by
 unfold vcells; rw [List.flatMap_append]; rfl
theorem vcells_len (us : List V3) : (vcells us).length = us.length * 3 := by
 induction us with
 | nil => rfl
 | cons u us ih => unfold vcells at ih ⊢; rw [List.flatMap_cons, List.length_append, ih, List.length_cons]; simp; omega
theorem vcells_get : ∀ (us : List V3) (i : Nat) (u : V3), us[i]? = some u → (vcells us)[i * 3]? = some (.int .i64 u.k) ∧ (vcells us)[i * 3 + 1]? = some (.string ⟨u.n.toArray⟩) ∧ (vcells us)[i * 3 + 2]? = some (.string ⟨u.c.toArray⟩) := by
 intro us
 induction us with
 | nil => intro i u h; simp at h
 | cons x us ih =>
  intro i u h
  have e : vcells (x :: us) = [.int .i64 x.k, .string ⟨x.n.toArray⟩, .string ⟨x.c.toArray⟩] ++ vcells us := by unfold vcells; rw [List.flatMap_cons]
  cases i with
  | zero => simp at h; subst h; rw [e]; exact ⟨rfl, rfl, rfl⟩
  | succ i =>
   simp at h
   obtain ⟨h1, h2, h3⟩ := ih i u h
   rw [e]
   refine ⟨?_, ?_, ?_⟩
   ·rw [List.getElem?_append_right (by simp; omega)]; simp only [List.length_cons, List.length_nil]; rw [show (i + 1) * 3 - (0 + 1 + 1 + 1) = i * 3 by omega]; exact h1
   ·rw [List.getElem?_append_right (by simp; omega)]; simp only [List.length_cons, List.length_nil]; rw [show (i + 1) * 3 + 1 - (0 + 1 + 1 + 1) = i * 3 + 1 by omega]; exact h2
   ·rw [List.getElem?_append_right (by simp; omega)]; simp only [List.length_cons, List.length_nil]; rw [show (i + 1) * 3 + 2 - (0 + 1 + 1 + 1) = i * 3 + 2 by omega]; exact h3
theorem OwnsK.vals {base : Nat} {e : TypeId} {w : World} {v : Value} {n : Nat} {us : List V3} (h : OwnsK 3 base e w v n (vcells us)) : ∃ ao cap, v = .slice ao us.length cap ∧ n = us.length ∧ Vals w ao us ∧ us.length ≤ cap ∧ cap ≤ maxLen ∧ (ao = none → cap = 0) := by
 have hl := h.len
 rw [vcells_len] at hl
 have hn : n = us.length := by omega
 subst hn
 rcases h.shape with ⟨rfl, h0⟩ | ⟨g, cap, rfl, h1, h2, h3, h4, h5, _⟩
 ·refine ⟨none, 0, by rw [h0], rfl, fun i u hi => ?_, by omega, Nat.zero_le _, fun _ => rfl⟩
  rw [List.eq_nil_of_length_eq_zero h0] at hi
  simp at hi
 ·refine ⟨_, cap, rfl, rfl, fun i u hi => ?_, h3, h4, fun h => by cases h⟩
  have hil := (List.getElem?_eq_some_iff.1 hi).1
  obtain ⟨c0, c1, c2⟩ := vcells_get us i u hi
  refine ⟨g, 0, rfl, ⟨?_⟩, ⟨?_⟩, ⟨?_⟩⟩
  ·rw [Nat.zero_add, h5 _ (by omega), c0]
  ·rw [Nat.zero_add, h5 _ (by omega), c1]
  ·rw [Nat.zero_add, h5 _ (by omega), c2]
theorem heap_set_ne {w : World} {b i : Nat} {u : Value} {g : Nat} (h : g ≠ b) : (w.setCell ⟨b, i, none⟩ u).heap[g]? = w.heap[g]? := by
 have hk := (Keep.refl (fun k => k = b) w).set b i u (.inl rfl)
 by_cases hg : g < w.heap.size
 ·exact hk.same g hg h
 ·have h1 : w.heap.size ≤ g := Nat.le_of_not_lt hg
  rw [Array.getElem?_eq_none (by simp [World.setCell]; exact h1), Array.getElem?_eq_none h1]
theorem OwnsK.set3 {K base : Nat} {e : TypeId} {w : World} {v : Value} {n p : Nat} {xs : List Value} {u0 u1 u2 : Value} (h : OwnsK K base e w v n xs) (hne : ∀ g, v.ownBlock = some g → g ≠ p) : OwnsK K base e (((w.setCell ⟨p, 0, none⟩ u0).setCell ⟨p, 1, none⟩ u1).setCell ⟨p, 2, none⟩ u2) v n xs :=
 h.block fun g hg => by rw [heap_set_ne (hne g hg), heap_set_ne (hne g hg), heap_set_ne (hne g hg)]
theorem FldAt.set3 {w : World} {b o p : Nat} {x : FV} {u0 u1 u2 : Value} (h : FldAt w b o x) (hne : b ≠ p) : FldAt (((w.setCell ⟨p, 0, none⟩ u0).setCell ⟨p, 1, none⟩ u1).setCell ⟨p, 2, none⟩ u2) b o x := by
 have hg : (((w.setCell ⟨p, 0, none⟩ u0).setCell ⟨p, 1, none⟩ u1).setCell ⟨p, 2, none⟩ u2).heap[b]? = w.heap[b]? := by rw [heap_set_ne hne, heap_set_ne hne, heap_set_ne hne]
 exact ⟨by simp [World.setCell]; exact h.lt, fun j v hj => (World.cell?_of_block (a := ⟨b, o + j, none⟩) hg).trans (h.c j v hj)⟩
theorem validF_l (nm : List UInt8) (fk : Int) (vals : List (List UInt8)) (rk : Int) (rn rc : List UInt8) (inv : Int) (vo : Option Addr) (vc : Nat) (b : Bool) (w : World) (hs : Strs w (.slice vo vals.length vc) vals) (hrn : Hid (rn.length ≤ 1000000)) (HB : Hid (b = validF ⟨nm, fk, vals, ⟨rk, rn, rc⟩, inv⟩)) :
  Calls Tryz.prog 8 #[.agg #[.string ⟨nm.toArray⟩, .int .i64 fk, .slice vo vals.length vc, .int .i64 rk, .string ⟨rn.toArray⟩, .string ⟨rc.toArray⟩, .int .i64 inv]] w fun e w' => e = .returned (.bool b) ∧ Below w.heap.size w w' := validF_any ⟨⟨nm, fk, vals, ⟨rk, rn, rc⟩, inv⟩, vo, vc⟩ b w hs hrn.out HB
theorem fit_l (nm : List UInt8) (fk : Int) (vals : List (List UInt8)) (rk : Int) (rn rc : List UInt8) (inv : Int) (vo : Option Addr) (vc : Nat) (k : Int) (n c : List UInt8) (b : Bool) (w : World) (hs : Strs w (.slice vo vals.length vc) vals) (HB : Hid (fitB ⟨nm, fk, vals, ⟨rk, rn, rc⟩, inv⟩ ⟨k, n, c⟩ = b)) :
  Calls Tryz.prog 10 #[.agg #[.string ⟨nm.toArray⟩, .int .i64 fk, .slice vo vals.length vc, .int .i64 rk, .string ⟨rn.toArray⟩, .string ⟨rc.toArray⟩, .int .i64 inv], valV k n c] w fun e w' => e = .returned (.bool b) ∧ Below w.heap.size w w' := fit_any ⟨⟨nm, fk, vals, ⟨rk, rn, rc⟩, inv⟩, vo, vc⟩ k n c b w hs (Lib.hid HB.out.symm)
theorem inv_l (nm : List UInt8) (fk : Int) (vals : List (List UInt8)) (rk : Int) (rn rc : List UInt8) (inv : Int) (vo : Option Addr) (vc : Nat) (k : Int) (n c : List UInt8) (uk : Int) (un uc : List UInt8) (b : Bool) (w : World) (HU : Hid (invP ⟨nm, fk, vals, ⟨rk, rn, rc⟩, inv⟩ ⟨k, n, c⟩ = (⟨uk, un, uc⟩, b))) :
  Calls Tryz.prog 40 #[.agg #[.string ⟨nm.toArray⟩, .int .i64 fk, .slice vo vals.length vc, .int .i64 rk, .string ⟨rn.toArray⟩, .string ⟨rc.toArray⟩, .int .i64 inv], valV k n c] w fun e w' => e = .returned (.tuple #[valV uk un uc, .bool b]) ∧ Below w.heap.size w w' := invalid_any ⟨⟨nm, fk, vals, ⟨rk, rn, rc⟩, inv⟩, vo, vc⟩ k n c uk un uc b w HU
theorem prep1_inv {f : F5} {v u : V3} {b : Bool} (h0 : v.k ≠ 0) (hf : fitB f v = false) (hu : invP f v = (u, b)) : prep1 f v = if b = true then some (if u.k = 0 then f.r else u) else none := by
 unfold prep1
 rw [if_pos ⟨h0, hf⟩]
 unfold invP at hu
 cases hi : invV f v with
 | none => rw [hi] at hu; cases hu; rfl
 | some x => rw [hi] at hu; cases hu; rfl
theorem prep1_stay {f : F5} {v : V3} (h0 : v.k ≠ 0) (hf : fitB f v = true) : prep1 f v = some v := prep1_fit hf
theorem prep1_miss {f : F5} {v : V3} (h0 : v.k = 0) : prep1 f v = some f.r := by
 unfold prep1
 rw [if_neg (by simp [h0]), Option.map_some, if_pos h0]
theorem prepL_at {fs : List F5} {vs : List V3} {i : Nat} {f : F5} {v : V3} (hf : fs[i]? = some f) (hv : vs[i]? = some v) : prepL (fs.drop i) (vs.drop i) = (prep1 f v).bind fun u => (prepL (fs.drop (i + 1)) (vs.drop (i + 1))).map fun us => u :: us := by
 rw [List.drop_eq_getElem_cons (List.getElem?_eq_some_iff.1 hf).1, List.drop_eq_getElem_cons (List.getElem?_eq_some_iff.1 hv).1, (List.getElem?_eq_some_iff.1 hf).2, (List.getElem?_eq_some_iff.1 hv).2]
 rfl
theorem allOk_at {fs : List F5} {vs : List V3} {i : Nat} {f : F5} {v : V3} (hf : fs[i]? = some f) (hv : vs[i]? = some v) : allOk (fs.drop i) (vs.drop i) = ((validF f && vvalid v.k v.n v.c) && allOk (fs.drop (i + 1)) (vs.drop (i + 1))) := by
 rw [List.drop_eq_getElem_cons (List.getElem?_eq_some_iff.1 hf).1, List.drop_eq_getElem_cons (List.getElem?_eq_some_iff.1 hv).1, (List.getElem?_eq_some_iff.1 hf).2, (List.getElem?_eq_some_iff.1 hv).2]
 unfold allOk
 rw [List.zip_cons_cons, List.all_cons]
def prepGo (us : List V3) (o : Option (List V3)) : Option (List V3) := o.map fun r => us ++ r
theorem prepGo_some {us : List V3} {u : V3} {o : Option (List V3)} : prepGo us ((some u).bind fun u => o.map fun us => u :: us) = prepGo (us ++ [u]) o := by
 unfold prepGo
 cases o with
 | none => rfl
 | some r => simp
set_option maxHeartbeats 4000000 in
theorem prepare_any (ao : Option Addr) (cap nx : Nat) (xs : List FV) (ro : Option Addr) (rcap : Nat) (vs us9 : List V3) (ok9 : Bool) (c9 : Int) (w : World) (hnx : nx = xs.length) (hf : Hid (Flds w ao xs)) (hv : Hid (Vals w ro vs)) (hfl : Hid (∀ x ∈ xs, x.f.r.n.length ≤ 1000000)) (hvl : Hid (∀ v ∈ vs, v.n.length ≤ 1000000)) (hxm : xs.length ≤ 1000000) (HP : Hid (prepV (xs.map (·.f)) vs = (us9, ok9, c9))) :
  Calls Tryz.prog 14 #[.slice ao nx cap, .slice ro vs.length rcap] w fun e w' => ∃ r, e = .returned (.tuple #[r, .bool ok9, .int .i64 c9]) ∧ OwnsK 3 w.heap.size 30 w' r us9.length (vcells us9) ∧ Below w.heap.size w w' := by
 have hbf : Below w.heap.size w w := Below.refl _ _
 by_cases hl : nx = vs.length
 case neg =>
  have h9 := HP.out
  unfold prepV at h9
  rw [if_pos (by rw [List.length_map, ← hnx]; exact hl)] at h9
  cases h9
  have hne : (((nx : Nat) : Int) != ((vs.length : Nat) : Int)) = true := by rw [bne_iff_ne]; omega
  clear HP hl hnx hxm
  go_enter Tryz.func14, Tryz.ntmps14
  go_wp2_with fail
  (try go_step3)
  (try go_wp2_with fail)
  (try go_step3)
  (try go_wp2_with fail)
  (try rw [Exit.noGoto_ret])
  go_ret3
  exact ⟨_, rfl, OwnsK.nil _ _ _ _, hbf⟩
 case pos =>
 have HL : Hid (xs.length = vs.length) := Lib.hid (by rw [← hnx]; exact hl)
 have hvm : vs.length ≤ 1000000 := by omega
 subst hl
 have HP2 : Hid ((if allOk (xs.map (·.f)) vs = false then (([] : List V3), false, (1 : Int)) else match prepL (xs.map (·.f)) vs with | none => ([], false, 0) | some us => (us, true, 0)) = (us9, ok9, c9)) := Lib.hid (by
  have h9 := HP.out
  unfold prepV at h9
  rw [if_neg (by rw [List.length_map, HL.out]; simp)] at h9
  exact h9)
 clear HP hnx hxm
 go_enter Tryz.func14, Tryz.ntmps14
 go_wp2_with fail
 (try go_step3)
 (try go_wp2_with fail)
 (try go_step3)
 (try go_wp2_with fail)
 go_loopg [21] vs.length (fun gg iv wr => ∃ (i : Nat), i + gg = vs.length ∧ iv = .int .i64 (i : Int) ∧ Hid (allOk ((xs.map (·.f)).drop i) (vs.drop i) = allOk (xs.map (·.f)) vs) ∧ Below w.heap.size w wr)
 case atStart => exact ⟨0, by omega, rfl, Lib.hid rfl, hbf⟩
 clear hbf
 case round =>
  obtain ⟨i, hi, rfl, HA, hbf⟩ := hrel
  by_cases hil : ¬ i < vs.length
  case neg =>
   have hil9 : i < vs.length := by omega
   have hii : ((i : Nat) : Int) < ((vs.length : Nat) : Int) := by omega
   have hqi : (0 : Int) ≤ (i : Int) := by omega
   obtain ⟨x, hx9⟩ : ∃ x, xs[i]? = some x := ⟨_, List.getElem?_eq_getElem (by have := HL.out; omega)⟩
   obtain ⟨v, hv9⟩ : ∃ v, vs[i]? = some v := ⟨_, List.getElem?_eq_getElem hil9⟩
   have hmem : x ∈ xs := List.mem_of_getElem? hx9
   have hrn : Hid (x.f.r.n.length ≤ 1000000) := Lib.hid (hfl.out x hmem)
   have hnl : Hid (v.n.length ≤ 1000000) := Lib.hid (hvl.out v (List.mem_of_getElem? hv9))
   have hfx : (xs.map (·.f))[i]? = some x.f := by rw [List.getElem?_map, hx9]; rfl
   obtain ⟨b, off, ha, hfa⟩ := hf.out.at hx9
   obtain ⟨rb, roff, har, v0, v1, v2⟩ := hv.out i v hv9
   have hst := (hf.out.2 x hmem).below hbf
   replace hfa := hfa.kept hbf
   replace v0 := (v0.kept hbf).cell
   replace v1 := (v1.kept hbf).cell
   replace v2 := (v2.kept hbf).cell
   obtain ⟨⟨nm, fk, vals, ⟨rk, rn, rc⟩, inv⟩, vo, vc⟩ := x
   obtain ⟨k, n, c⟩ := v
   dsimp only at hrn hnl hst hfx
   subst ha har
   obtain ⟨d1, hd1⟩ : ∃ d, d = validF ⟨nm, fk, vals, ⟨rk, rn, rc⟩, inv⟩ := ⟨_, rfl⟩
   obtain ⟨d2, hd2⟩ : ∃ d, vvalid k n c = d := ⟨_, rfl⟩
   have HA2 : Hid (((d1 && d2) && allOk ((xs.map (·.f)).drop (i + 1)) (vs.drop (i + 1))) = allOk (xs.map (·.f)) vs) := Lib.hid (by rw [← HA.out, allOk_at hfx hv9, hd1, ← hd2])
   have HD1 := Lib.hid hd1
   have HD2 := Lib.hid hd2
   clear hil hmem hx9 hv9 hfx hd1 hd2 HA
   obtain ⟨w1, hwE, hb0, _, pv, hpE, hbv⟩ := boxV wr k n c
   have HPV : Hid (w.heap.size ≤ pv) := Lib.hid (by rw [hpE]; exact hbf.size)
   have HW := Lib.hid hwE; clear hwE
   go_upto_region 6 with fail
   rw [← HW.out, ← hpE]
   clear HW hpE v0 v1 v2
   replace hbf := hbf.trans (hb0.mono hbf.size)
   replace hfa := hfa.kept hb0
   replace hst := hst.below hb0
   obtain ⟨g0, g1, g2, g3, g4, g5, g6⟩ := hfa.c7
   clear hb0
   go_wp2_with fail
   (with_reducible refine (validF_l nm fk vals rk rn rc inv vo vc d1 _ hst hrn HD1).mono ?_)
   rintro e w2 ⟨rfl, hb2⟩
   replace hbf := hbf.trans (hb2.mono hbf.size)
   replace hbv := hbv.kept hb2
   clear g0 g1 g2 g3 g4 g5 g6 hb2 hst hfa
   have v0 := hbv.c0
   have v1 := hbv.c1
   have v2 := hbv.c2
   cases d1
   ·have hp3 := HP2.out
    rw [if_pos (by rw [← HA2.out]; simp)] at hp3
    cases hp3
    go_wp2_with fail
    (try go_step3)
    (try go_wp2_with fail)
    (try go_step3)
    (try go_wp2_with fail)
    (try rw [Exit.noGoto_ret])
    go_ret3
    exact ⟨_, rfl, OwnsK.nil _ _ _ _, hbf⟩
   ·go_wp2_with fail
    (with_reducible refine (vvalid_h k n c d2 _ HD2 hnl).mono ?_)
    rintro e w3 ⟨rfl, hb3⟩
    replace hbf := hbf.trans (hb3.mono hbf.size)
    clear v0 v1 v2 hb3 hbv
    cases d2
    ·have hp3 := HP2.out
     rw [if_pos (by rw [← HA2.out]; simp)] at hp3
     cases hp3
     go_wp2_with fail
     (try go_step3)
     (try go_wp2_with fail)
     (try go_step3)
     (try go_wp2_with fail)
     (try rw [Exit.noGoto_ret])
     go_ret3
     exact ⟨_, rfl, OwnsK.nil _ _ _ _, hbf⟩
    ·have HA3 : Hid (allOk ((xs.map (·.f)).drop (i + 1)) (vs.drop (i + 1)) = allOk (xs.map (·.f)) vs) := Lib.hid (by rw [← HA2.out]; simp)
     go_wp2_with fail
     go_roundg (gk - 1)
     case measure => omega
     case rel => exact ⟨i + 1, by omega, by go_num, HA3, hbf⟩
  case pos =>
  have hall : allOk (xs.map (·.f)) vs = true := by
   rw [← HA.out, List.drop_eq_nil_of_le (show vs.length ≤ i by omega)]
   unfold allOk; rw [List.zip_nil_right]; rfl
  have HP3 : Hid ((match prepL (xs.map (·.f)) vs with | none => (([] : List V3), false, (0 : Int)) | some us => (us, true, 0)) = (us9, ok9, c9)) := Lib.hid (by
   have h := HP2.out
   rw [if_neg (by rw [hall]; simp)] at h
   exact h)
  have hii : ¬ ((i : Nat) : Int) < ((vs.length : Nat) : Int) := by omega
  clear hall HA HP2
  go_wp2_with fail
  (try go_step3)
  (try go_wp2_with fail)
  (try go_step3)
  (try go_wp2_with fail)
  clear hii hil hi
  obtain ⟨w5, hw5⟩ : ∃ W, W = wr := ⟨_, rfl⟩; subst hw5
  go_loopg [9, 10, 40] vs.length (fun gg ov bv iv wr => ∃ (i : Nat) (us : List V3) (uo : Option Addr) (un uc : Nat), i + gg = vs.length ∧ us.length = i ∧ ov = .slice uo un uc ∧ bv = .bool false ∧ iv = .int .i64 (i : Int) ∧ OwnsK 3 w.heap.size 30 wr (.slice uo un uc) us.length (vcells us) ∧ Hid (prepGo us (prepL ((xs.map (·.f)).drop i) (vs.drop i)) = prepL (xs.map (·.f)) vs) ∧ Below w.heap.size w wr)
  case atStart => exact ⟨0, [], none, 0, 0, by omega, rfl, rfl, rfl, rfl, OwnsK.nil _ _ _ _, Lib.hid (by unfold prepGo; simp), hbf⟩
  clear hbf
  case round =>
   obtain ⟨i, us, uo, un, uc, hi, hul0, rfl, rfl, rfl, hO, HR, hbf⟩ := hrel
   have HUL := Lib.hid hul0
   have hum : us.length ≤ 1000000 := by omega
   clear hul0
   by_cases hil : ¬ i < vs.length
   case pos =>
    have hre : prepL (xs.map (·.f)) vs = some us := by
     rw [← HR.out, List.drop_eq_nil_of_le (show vs.length ≤ i by omega)]
     unfold prepGo
     cases (xs.map (·.f)).drop i <;> simp [prepL]
    have hp := HP3.out
    rw [hre] at hp
    cases hp
    have hii : ¬ ((i : Nat) : Int) < ((vs.length : Nat) : Int) := by omega
    clear hre
    go_wp2_with fail
    (try go_step3)
    (try go_wp2_with fail)
    (try go_step3)
    (try go_wp2_with fail)
    (try rw [Exit.noGoto_ret])
    go_ret3
    exact ⟨_, rfl, hO, hbf⟩
   case neg =>
    have hil9 : i < vs.length := by omega
    have hii : ((i : Nat) : Int) < ((vs.length : Nat) : Int) := by omega
    have hqi : (0 : Int) ≤ (i : Int) := by omega
    obtain ⟨x, hx9⟩ : ∃ x, xs[i]? = some x := ⟨_, List.getElem?_eq_getElem (by have := HL.out; omega)⟩
    obtain ⟨v, hv9⟩ : ∃ v, vs[i]? = some v := ⟨_, List.getElem?_eq_getElem hil9⟩
    have hmem : x ∈ xs := List.mem_of_getElem? hx9
    have hrn : Hid (x.f.r.n.length ≤ 1000000) := Lib.hid (hfl.out x hmem)
    have hnl : Hid (v.n.length ≤ 1000000) := Lib.hid (hvl.out v (List.mem_of_getElem? hv9))
    have hfx : (xs.map (·.f))[i]? = some x.f := by rw [List.getElem?_map, hx9]; rfl
    obtain ⟨b, off, ha, hfa⟩ := hf.out.at hx9
    obtain ⟨rb, roff, har, v0, v1, v2⟩ := hv.out i v hv9
    have hst := (hf.out.2 x hmem).below hbf
    replace hfa := hfa.kept hbf
    replace v0 := (v0.kept hbf).cell
    replace v1 := (v1.kept hbf).cell
    replace v2 := (v2.kept hbf).cell
    obtain ⟨⟨nm, fk, vals, ⟨rk, rn, rc⟩, inv⟩, vo, vc⟩ := x
    obtain ⟨k, n, c⟩ := v
    dsimp only at hrn hnl hst hfx
    subst ha har
    have HR1 : Hid (prepGo us ((prep1 ⟨nm, fk, vals, ⟨rk, rn, rc⟩, inv⟩ ⟨k, n, c⟩).bind fun u => (prepL ((xs.map (·.f)).drop (i + 1)) (vs.drop (i + 1))).map fun us => u :: us) = prepL (xs.map (·.f)) vs) := Lib.hid (by rw [← HR.out, prepL_at hfx hv9])
    clear hil hmem hx9 hv9 hfx HR
    obtain ⟨w1, hwE, hb0, _, pv, hpE, hbv⟩ := boxV wr k n c
    have HPV : Hid (w.heap.size ≤ pv) := Lib.hid (by rw [hpE]; exact hbf.size)
    have HW := Lib.hid hwE; clear hwE
    have HNE : Hid (∀ g, (Value.slice uo un uc).ownBlock = some g → g ≠ pv) := Lib.hid (fun g hg => by have := (hO.lt g hg).2; omega)
    have HFB : Hid (b ≠ pv) := Lib.hid (by have := hfa.lt; omega)
    go_upto_region 14 with fail
    rw [← HW.out, ← hpE]
    clear HW hpE v0 v1 v2
    replace hbf := hbf.trans (hb0.mono hbf.size)
    replace hfa := hfa.kept hb0
    replace hst := hst.below hb0
    replace hO := hO.kept hb0
    clear hb0
    by_cases hk0 : k = 0
    case pos =>
     subst hk0
     have HR2 : Hid (prepGo (us ++ [⟨rk, rn, rc⟩]) (prepL ((xs.map (·.f)).drop (i + 1)) (vs.drop (i + 1))) = prepL (xs.map (·.f)) vs) := Lib.hid (by rw [← HR1.out, prep1_miss rfl, prepGo_some])
     clear HR1 hst
     refine wp_region_seq (S := fun w' => Box3 w' pv (.int .i64 0) (.string ⟨n.toArray⟩) (.string ⟨c.toArray⟩) ∧ FldAt w' b (off + i * 7) ⟨⟨nm, fk, vals, ⟨rk, rn, rc⟩, inv⟩, vo, vc⟩) [(true, 0), (true, 1), (true, 2), (true, 3), (true, 4), (true, 5), (true, 6), (true, 7), (true, 8), (false, 9), (true, 10), (true, 11)] (by kernel_rfl) (by kernel_rfl) (by kernel_rfl) (by kernel_rfl) (by kernel_rfl) (fun d _ _ _ _ h => by cases d <;> exact h) ⟨hbv.drew, hfa.drew⟩ (fun _ => ?_)
     simp only [pickOps, List.append_eq, List.cons_append, List.nil_append, List.getElem?_toArray, List.getElem?_cons_succ, List.getElem?_cons_zero]
     have hb : Below w1.heap.size w1 w1.drew := (Below.refl _ _).drew
     generalize w1.drew = wd at hb ⊢
     replace hbv := hbv.kept hb
     replace hfa := hfa.kept hb
     replace hO := hO.kept hb
     replace hbf := hbf.trans (hb.mono hbf.size)
     clear hb
     repeat (first | (refine seq_take (v := ?_) (by rfl) ?_ ?_; rotate_left; (· intro w hSw; (try dsimp only at hSw); obtain ⟨⟨v0, v1, v2, _, _, _⟩, hFA⟩ := hSw; obtain ⟨g0, g1, g2, g3, g4, g5, g6⟩ := hFA.c7; clear hFA; go_simp; all_goals with_reducible rfl); (try simp only [Act.put, List.setIfInBounds_toArray, List.set_cons_zero, List.set_cons_succ])) | (refine seq_leave (by rfl) ?_; (try simp only [Act.put, List.setIfInBounds_toArray, List.set_cons_zero, List.set_cons_succ])))
     refine seq_pass (by rfl) ⟨hbv, hfa⟩ ?_
     repeat (first | (refine seq_take (v := ?_) (by rfl) ?_ ?_; rotate_left; (· intro w hSw; (try dsimp only at hSw); obtain ⟨⟨v0, v1, v2, _, _, _⟩, hFA⟩ := hSw; obtain ⟨g0, g1, g2, g3, g4, g5, g6⟩ := hFA.c7; clear hFA; go_simp; all_goals with_reducible rfl); (try simp only [Act.put, List.setIfInBounds_toArray, List.set_cons_zero, List.set_cons_succ])) | (refine seq_leave (by rfl) ?_; (try simp only [Act.put, List.setIfInBounds_toArray, List.set_cons_zero, List.set_cons_succ])))
     refine seq_end ?_
     have f0 := hbv.f0
     have f1 := hbv.f1
     have f2 := hbv.f2
     have c0 := hbv.c0
     have c1 := hbv.c1
     have c2 := hbv.c2
     obtain ⟨g0, g1, g2, g3, g4, g5, g6⟩ := hfa.c7
     clear g0 g1 g2 g6
     go_upto_region 21 with fail
     clear f0 f1 f2 c0 c1 c2 g3 g4 g5
     obtain ⟨wz, hwE⟩ : ∃ W, W = (((wd.setCell ⟨pv, 0, none⟩ (.int .i64 rk)).setCell ⟨pv, 1, none⟩ (.string ⟨rn.toArray⟩)).setCell ⟨pv, 2, none⟩ (.string ⟨rc.toArray⟩)) := ⟨_, rfl⟩
     have hO2 := hO.set3 (p := pv) (u0 := .int .i64 rk) (u1 := .string ⟨rn.toArray⟩) (u2 := .string ⟨rc.toArray⟩) HNE.out
     have hbf2 := below_set3 (u0 := .int .i64 rk) (u1 := .string ⟨rn.toArray⟩) (u2 := .string ⟨rc.toArray⟩) hbf HPV.out
     have hbv2 := hbv.set3 (u0 := .int .i64 rk) (u1 := .string ⟨rn.toArray⟩) (u2 := .string ⟨rc.toArray⟩)
     rw [← hwE] at hO2 hbf2 hbv2 ⊢
     clear hwE hO hbf hbv hfa
     have c0 := hbv2.c0
     have c1 := hbv2.c1
     have c2 := hbv2.c2
     have hul : us.length ≤ 1000000 := hum
     go_upto_region 22 with (at_builtin; refine append1KO E_val hO2 rfl rfl rfl rfl rfl (by simp [Value.oneCell']) (by omega) (by unfold maxLen; omega) hbf2.size ?_; intro v9 w9 hO9 hb9 hg9 hn9; clear hg9 hn9; replace hO9 : OwnsK 3 w.heap.size 30 w9 v9 (us.length + 1) (vcells (us ++ [(⟨rk, rn, rc⟩ : V3)])) := (by rw [vcells_snoc]; exact hO9); obtain ⟨ao9, cap9, rfl, _, _, _⟩ := hO9.slice)
     have hbf9 := hbf2.trans hb9
     have hO10 : OwnsK 3 w.heap.size 30 w9 (.slice ao9 (us.length + 1) cap9) (us ++ [(⟨rk, rn, rc⟩ : V3)]).length (vcells (us ++ [(⟨rk, rn, rc⟩ : V3)])) := by rw [List.length_append]; exact hO9
     go_wp2_with fail
     go_roundg (gk - 1)
     case measure => omega
     case rel => exact ⟨i + 1, us ++ [(⟨rk, rn, rc⟩ : V3)], ao9, us.length + 1, cap9, by omega, by have := HUL.out; simp; omega, rfl, rfl, by go_num, hO10, HR2, hbf9⟩
    case neg =>
     have hkb : (k != 0) = true := by rw [bne_iff_ne]; exact hk0
     have hkb2 : (k == 0) = false := by rw [beq_eq_false_iff_ne]; exact hk0
     obtain ⟨d, hd⟩ : ∃ d, fitB ⟨nm, fk, vals, ⟨rk, rn, rc⟩, inv⟩ ⟨k, n, c⟩ = d := ⟨_, rfl⟩
     have HD := Lib.hid hd
     clear hd
     refine wp_region_seq (S := fun w' => Box3 w' pv (.int .i64 k) (.string ⟨n.toArray⟩) (.string ⟨c.toArray⟩) ∧ FldAt w' b (off + i * 7) ⟨⟨nm, fk, vals, ⟨rk, rn, rc⟩, inv⟩, vo, vc⟩) [(true, 0), (true, 1), (true, 2), (true, 3), (true, 4), (true, 5), (true, 6), (true, 7), (true, 8), (false, 9), (true, 10), (true, 11)] (by kernel_rfl) (by kernel_rfl) (by kernel_rfl) (by kernel_rfl) (by kernel_rfl) (fun d _ _ _ _ h => by cases d <;> exact h) ⟨hbv.drew, hfa.drew⟩ (fun _ => ?_)
     simp only [pickOps, List.append_eq, List.cons_append, List.nil_append, List.getElem?_toArray, List.getElem?_cons_succ, List.getElem?_cons_zero]
     have hb : Below w1.heap.size w1 w1.drew := (Below.refl _ _).drew
     generalize w1.drew = wd at hb ⊢
     replace hbv := hbv.kept hb
     replace hfa := hfa.kept hb
     replace hst := hst.below hb
     replace hO := hO.kept hb
     replace hbf := hbf.trans (hb.mono hbf.size)
     clear hb
     repeat (first | (refine seq_take (v := ?_) (by rfl) ?_ ?_; rotate_left; (· intro w hSw; (try dsimp only at hSw); obtain ⟨⟨v0, v1, v2, _, _, _⟩, hFA⟩ := hSw; obtain ⟨g0, g1, g2, g3, g4, g5, g6⟩ := hFA.c7; clear hFA; go_simp; all_goals with_reducible rfl); (try simp only [Act.put, List.setIfInBounds_toArray, List.set_cons_zero, List.set_cons_succ])) | (refine seq_leave (by rfl) ?_; (try simp only [Act.put, List.setIfInBounds_toArray, List.set_cons_zero, List.set_cons_succ])))
     refine seq_step (by rfl) (fun K hK => ?_)
     go_simp
     go_at_call 10
     (with_reducible refine (fit_l nm fk vals rk rn rc inv vo vc k n c d _ hst HD).mono ?_)
     rintro e w3 ⟨rfl, hb⟩
     replace hbv := hbv.kept hb
     replace hfa := hfa.kept hb
     replace hst := hst.below hb
     replace hO := hO.kept hb
     replace hbf := hbf.trans (hb.mono hbf.size)
     clear hb
     first | refine hK.out _ _ ⟨hbv, hfa⟩ (fun _ => ?_) | (go_wp2_with fail; refine hK.out _ _ ⟨hbv, hfa⟩ (fun _ => ?_))
     clear hK K
     (try simp only [Act.put, List.setIfInBounds_toArray, List.set_cons_zero, List.set_cons_succ])
     repeat (first | (refine seq_take (v := ?_) (by rfl) ?_ ?_; rotate_left; (· intro w hSw; (try dsimp only at hSw); obtain ⟨⟨v0, v1, v2, _, _, _⟩, hFA⟩ := hSw; obtain ⟨g0, g1, g2, g3, g4, g5, g6⟩ := hFA.c7; clear hFA; go_simp; all_goals with_reducible rfl); (try simp only [Act.put, List.setIfInBounds_toArray, List.set_cons_zero, List.set_cons_succ])) | (refine seq_leave (by rfl) ?_; (try simp only [Act.put, List.setIfInBounds_toArray, List.set_cons_zero, List.set_cons_succ])))
     refine seq_end ?_
     cases d
     case true =>
      have HR2 : Hid (prepGo (us ++ [⟨k, n, c⟩]) (prepL ((xs.map (·.f)).drop (i + 1)) (vs.drop (i + 1))) = prepL (xs.map (·.f)) vs) := Lib.hid (by rw [← HR1.out, prep1_stay hk0 HD.out, prepGo_some])
      clear HR1 hst
      have f0 := hbv.f0
      have f1 := hbv.f1
      have f2 := hbv.f2
      have c0 := hbv.c0
      have c1 := hbv.c1
      have c2 := hbv.c2
      clear hfa
      have hul : us.length ≤ 1000000 := hum
      go_upto_region 22 with (at_builtin; refine append1KO E_val hO rfl rfl rfl rfl rfl (by simp [Value.oneCell']) (by omega) (by unfold maxLen; omega) hbf.size ?_; intro v9 w9 hO9 hb9 hg9 hn9; clear hg9 hn9; replace hO9 : OwnsK 3 w.heap.size 30 w9 v9 (us.length + 1) (vcells (us ++ [(⟨k, n, c⟩ : V3)])) := (by rw [vcells_snoc]; exact hO9); obtain ⟨ao9, cap9, rfl, _, _, _⟩ := hO9.slice)
      have hbf9 := hbf.trans hb9
      have hO10 : OwnsK 3 w.heap.size 30 w9 (.slice ao9 (us.length + 1) cap9) (us ++ [(⟨k, n, c⟩ : V3)]).length (vcells (us ++ [(⟨k, n, c⟩ : V3)])) := by rw [List.length_append]; exact hO9
      go_wp2_with fail
      go_roundg (gk - 1)
      case measure => omega
      case rel => exact ⟨i + 1, us ++ [(⟨k, n, c⟩ : V3)], ao9, us.length + 1, cap9, by omega, by have := HUL.out; simp; omega, rfl, rfl, by go_num, hO10, HR2, hbf9⟩
     case false =>
      obtain ⟨⟨⟨uk, un9, uc9⟩, ok⟩, hu⟩ : ∃ u, invP ⟨nm, fk, vals, ⟨rk, rn, rc⟩, inv⟩ ⟨k, n, c⟩ = u := ⟨_, rfl⟩
      have HU := Lib.hid hu
      have HR3 : Hid (prepGo us ((if ok = true then some (if uk = 0 then ⟨rk, rn, rc⟩ else ⟨uk, un9, uc9⟩) else none).bind fun u => (prepL ((xs.map (·.f)).drop (i + 1)) (vs.drop (i + 1))).map fun us => u :: us) = prepL (xs.map (·.f)) vs) := Lib.hid (by rw [← HR1.out, prep1_inv hk0 HD.out hu])
      clear HR1 hu HD hkb hkb2 hst
      go_wp2_with fail
      refine wp_region_seq (S := fun w' => FldAt w' b (off + i * 7) ⟨⟨nm, fk, vals, ⟨rk, rn, rc⟩, inv⟩, vo, vc⟩) [(true, 0), (true, 1), (true, 2), (true, 3), (false, 4), (false, 5), (true, 6), (true, 7), (true, 8), (false, 9), (true, 10)] (by kernel_rfl) (by kernel_rfl) (by kernel_rfl) (by kernel_rfl) (by kernel_rfl) (fun d _ _ _ _ h => by cases d <;> exact h) hfa.drew (fun _ => ?_)
      simp only [pickOps, List.append_eq, List.cons_append, List.nil_append, List.getElem?_toArray, List.getElem?_cons_succ, List.getElem?_cons_zero]
      have hb : Below w3.heap.size w3 w3.drew := (Below.refl _ _).drew
      generalize w3.drew = wd at hb ⊢
      replace hbv := hbv.kept hb
      replace hfa := hfa.kept hb
      replace hO := hO.kept hb
      replace hbf := hbf.trans (hb.mono hbf.size)
      clear hb
      repeat (first | (refine seq_take (v := ?_) (by rfl) ?_ ?_; rotate_left; (· intro w hSw; (try dsimp only at hSw); have hFA := hSw; obtain ⟨g0, g1, g2, g3, g4, g5, g6⟩ := hFA.c7; clear hFA; go_simp; all_goals with_reducible rfl); (try simp only [Act.put, List.setIfInBounds_toArray, List.set_cons_zero, List.set_cons_succ])) | (refine seq_leave (by rfl) ?_; (try simp only [Act.put, List.setIfInBounds_toArray, List.set_cons_zero, List.set_cons_succ])))
      refine seq_step (by rfl) (fun K hK => ?_)
      go_simp
      have hb : Below wd.heap.size wd wd := Below.refl _ _
      have v0 := hbv.c0
      have v1 := hbv.c1
      have v2 := hbv.c2
      go_simp
      clear v0 v1 v2
      replace hbv := hbv.kept hb
      replace hfa := hfa.kept hb
      replace hO := hO.kept hb
      replace hbf := hbf.trans (hb.mono hbf.size)
      clear hb
      first | refine hK.out _ _ hfa (fun _ => ?_) | (go_wp2_with fail; refine hK.out _ _ hfa (fun _ => ?_))
      clear hK K
      (try simp only [Act.put, List.setIfInBounds_toArray, List.set_cons_zero, List.set_cons_succ])
      repeat (first | (refine seq_take (v := ?_) (by rfl) ?_ ?_; rotate_left; (· intro w hSw; (try dsimp only at hSw); have hFA := hSw; obtain ⟨g0, g1, g2, g3, g4, g5, g6⟩ := hFA.c7; clear hFA; go_simp; all_goals with_reducible rfl); (try simp only [Act.put, List.setIfInBounds_toArray, List.set_cons_zero, List.set_cons_succ])) | (refine seq_leave (by rfl) ?_; (try simp only [Act.put, List.setIfInBounds_toArray, List.set_cons_zero, List.set_cons_succ])))
      refine seq_step (by rfl) (fun K hK => ?_)
      go_simp
      go_at_call 40
      (with_reducible refine (inv_l nm fk vals rk rn rc inv vo vc k n c uk un9 uc9 ok _ HU).mono ?_)
      rintro e w4 ⟨rfl, hb⟩
      replace hbv := hbv.kept hb
      replace hfa := hfa.kept hb
      replace hO := hO.kept hb
      replace hbf := hbf.trans (hb.mono hbf.size)
      clear hb
      first | refine hK.out _ _ hfa (fun _ => ?_) | (go_wp2_with fail; refine hK.out _ _ hfa (fun _ => ?_))
      clear hK K
      (try simp only [Act.put, List.setIfInBounds_toArray, List.set_cons_zero, List.set_cons_succ])
      repeat (first | (refine seq_take (v := ?_) (by rfl) ?_ ?_; rotate_left; (· intro w hSw; (try dsimp only at hSw); have hFA := hSw; obtain ⟨g0, g1, g2, g3, g4, g5, g6⟩ := hFA.c7; clear hFA; go_simp; all_goals with_reducible rfl); (try simp only [Act.put, List.setIfInBounds_toArray, List.set_cons_zero, List.set_cons_succ])) | (refine seq_leave (by rfl) ?_; (try simp only [Act.put, List.setIfInBounds_toArray, List.set_cons_zero, List.set_cons_succ])))
      refine seq_step (by rfl) (fun K hK => ?_)
      go_simp
      have e0 := hbv.c0
      have e1 := hbv.c1
      have e2 := hbv.c2
      have f0 := hbv.f0
      have f1 := hbv.f1
      have f2 := hbv.f2
      go_simp
      clear e0 e1 e2 f0 f1 f2
      obtain ⟨wy, hwE⟩ : ∃ W, W = (((w4.setCell ⟨pv, 0, none⟩ (.int .i64 uk)).setCell ⟨pv, 1, none⟩ (.string ⟨un9.toArray⟩)).setCell ⟨pv, 2, none⟩ (.string ⟨uc9.toArray⟩)) := ⟨_, rfl⟩
      have hO2 := hO.set3 (p := pv) (u0 := .int .i64 uk) (u1 := .string ⟨un9.toArray⟩) (u2 := .string ⟨uc9.toArray⟩) HNE.out
      have hbf2 := below_set3 (u0 := .int .i64 uk) (u1 := .string ⟨un9.toArray⟩) (u2 := .string ⟨uc9.toArray⟩) hbf HPV.out
      have hbv2 := hbv.set3 (u0 := .int .i64 uk) (u1 := .string ⟨un9.toArray⟩) (u2 := .string ⟨uc9.toArray⟩)
      have hfa2 := hfa.set3 (p := pv) (u0 := .int .i64 uk) (u1 := .string ⟨un9.toArray⟩) (u2 := .string ⟨uc9.toArray⟩) HFB.out
      rw [← hwE] at hO2 hbf2 hbv2 hfa2 ⊢
      clear hwE hO hbf hbv hfa
      have hO := hO2
      have hbf := hbf2
      have hbv := hbv2
      have hfa := hfa2
      clear hO2 hbf2 hbv2 hfa2
      have hb : Below wy.heap.size wy wy := Below.refl _ _
      replace hbv := hbv.kept hb
      replace hfa := hfa.kept hb
      replace hO := hO.kept hb
      replace hbf := hbf.trans (hb.mono hbf.size)
      clear hb
      first | refine hK.out _ _ hfa (fun _ => ?_) | (go_wp2_with fail; refine hK.out _ _ hfa (fun _ => ?_))
      clear hK K
      (try simp only [Act.put, List.setIfInBounds_toArray, List.set_cons_zero, List.set_cons_succ])
      repeat (first | (refine seq_take (v := ?_) (by rfl) ?_ ?_; rotate_left; (· intro w hSw; (try dsimp only at hSw); have hFA := hSw; obtain ⟨g0, g1, g2, g3, g4, g5, g6⟩ := hFA.c7; clear hFA; go_simp; all_goals with_reducible rfl); (try simp only [Act.put, List.setIfInBounds_toArray, List.set_cons_zero, List.set_cons_succ])) | (refine seq_leave (by rfl) ?_; (try simp only [Act.put, List.setIfInBounds_toArray, List.set_cons_zero, List.set_cons_succ])))
      refine seq_end ?_
      cases ok
      case false =>
       have hp := HP3.out
       rw [show prepL (xs.map (·.f)) vs = none from by rw [← HR3.out]; rfl] at hp
       cases hp
       go_wp2_with fail
       (try go_step3)
       (try go_wp2_with fail)
       (try go_step3)
       (try go_wp2_with fail)
       (try rw [Exit.noGoto_ret])
       go_ret3
       exact ⟨_, rfl, OwnsK.nil _ _ _ _, hbf⟩
      case true =>
       by_cases hu0 : uk = 0
       case pos =>
        subst hu0
        have HR2 : Hid (prepGo (us ++ [⟨rk, rn, rc⟩]) (prepL ((xs.map (·.f)).drop (i + 1)) (vs.drop (i + 1))) = prepL (xs.map (·.f)) vs) := Lib.hid (by rw [← HR3.out, if_pos rfl, if_pos rfl, prepGo_some])
        clear HR3
        have f0 := hbv.f0
        have f1 := hbv.f1
        have f2 := hbv.f2
        have c0 := hbv.c0
        have c1 := hbv.c1
        have c2 := hbv.c2
        obtain ⟨g0, g1, g2, g3, g4, g5, g6⟩ := hfa.c7
        clear g0 g1 g2 g6
        go_upto_region 21 with fail
        clear f0 f1 f2 c0 c1 c2 g3 g4 g5
        obtain ⟨wz, hwE⟩ : ∃ W, W = (((wy.setCell ⟨pv, 0, none⟩ (.int .i64 rk)).setCell ⟨pv, 1, none⟩ (.string ⟨rn.toArray⟩)).setCell ⟨pv, 2, none⟩ (.string ⟨rc.toArray⟩)) := ⟨_, rfl⟩
        have hO2 := hO.set3 (p := pv) (u0 := .int .i64 rk) (u1 := .string ⟨rn.toArray⟩) (u2 := .string ⟨rc.toArray⟩) HNE.out
        have hbf2 := below_set3 (u0 := .int .i64 rk) (u1 := .string ⟨rn.toArray⟩) (u2 := .string ⟨rc.toArray⟩) hbf HPV.out
        have hbv2 := hbv.set3 (u0 := .int .i64 rk) (u1 := .string ⟨rn.toArray⟩) (u2 := .string ⟨rc.toArray⟩)
        rw [← hwE] at hO2 hbf2 hbv2 ⊢
        clear hwE hO hbf hbv hfa
        have c0 := hbv2.c0
        have c1 := hbv2.c1
        have c2 := hbv2.c2
        have hul : us.length ≤ 1000000 := hum
        go_upto_region 22 with (at_builtin; refine append1KO E_val hO2 rfl rfl rfl rfl rfl (by simp [Value.oneCell']) (by omega) (by unfold maxLen; omega) hbf2.size ?_; intro v9 w9 hO9 hb9 hg9 hn9; clear hg9 hn9; replace hO9 : OwnsK 3 w.heap.size 30 w9 v9 (us.length + 1) (vcells (us ++ [(⟨rk, rn, rc⟩ : V3)])) := (by rw [vcells_snoc]; exact hO9); obtain ⟨ao9, cap9, rfl, _, _, _⟩ := hO9.slice)
        have hbf9 := hbf2.trans hb9
        have hO10 : OwnsK 3 w.heap.size 30 w9 (.slice ao9 (us.length + 1) cap9) (us ++ [(⟨rk, rn, rc⟩ : V3)]).length (vcells (us ++ [(⟨rk, rn, rc⟩ : V3)])) := by rw [List.length_append]; exact hO9
        go_wp2_with fail
        go_roundg (gk - 1)
        case measure => omega
        case rel => exact ⟨i + 1, us ++ [(⟨rk, rn, rc⟩ : V3)], ao9, us.length + 1, cap9, by omega, by have := HUL.out; simp; omega, rfl, rfl, by go_num, hO10, HR2, hbf9⟩
       case neg =>
        have hub : (uk == 0) = false := by rw [beq_eq_false_iff_ne]; exact hu0
        have HR2 : Hid (prepGo (us ++ [⟨uk, un9, uc9⟩]) (prepL ((xs.map (·.f)).drop (i + 1)) (vs.drop (i + 1))) = prepL (xs.map (·.f)) vs) := Lib.hid (by rw [← HR3.out, if_pos rfl, if_neg hu0, prepGo_some])
        clear HR3
        have f0 := hbv.f0
        have f1 := hbv.f1
        have f2 := hbv.f2
        have c0 := hbv.c0
        have c1 := hbv.c1
        have c2 := hbv.c2
        clear hfa
        have hul : us.length ≤ 1000000 := hum
        go_upto_region 22 with (at_builtin; refine append1KO E_val hO rfl rfl rfl rfl rfl (by simp [Value.oneCell']) (by omega) (by unfold maxLen; omega) hbf.size ?_; intro v9 w9 hO9 hb9 hg9 hn9; clear hg9 hn9; replace hO9 : OwnsK 3 w.heap.size 30 w9 v9 (us.length + 1) (vcells (us ++ [(⟨uk, un9, uc9⟩ : V3)])) := (by rw [vcells_snoc]; exact hO9); obtain ⟨ao9, cap9, rfl, _, _, _⟩ := hO9.slice)
        have hbf9 := hbf.trans hb9
        have hO10 : OwnsK 3 w.heap.size 30 w9 (.slice ao9 (us.length + 1) cap9) (us ++ [(⟨uk, un9, uc9⟩ : V3)]).length (vcells (us ++ [(⟨uk, un9, uc9⟩ : V3)])) := by rw [List.length_append]; exact hO9
        go_wp2_with fail
        go_roundg (gk - 1)
        case measure => omega
        case rel => exact ⟨i + 1, us ++ [(⟨uk, un9, uc9⟩ : V3)], ao9, us.length + 1, cap9, by omega, by have := HUL.out; simp; omega, rfl, rfl, by go_num, hO10, HR2, hbf9⟩
end Go.Proofs.YtcpfanpcdkoiaaaGreatDoor
