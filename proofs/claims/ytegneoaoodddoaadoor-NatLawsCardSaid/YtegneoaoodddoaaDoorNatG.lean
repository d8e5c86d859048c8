/-
  nat: walks (7): Cmp.
-/
import Derived.Test.YtegneoaoodddoaaDoorNatD
import Derived.Test.YtegneoaoodddoaaDoorMathD
import Derived.Deep.LoopGhost
import Derived.Deep.DeepCutAuto
import Derived.Deep.RegionHeld3
namespace Go.Proofs.YtegneoaoodddoaaDoor
open Go.RowKit
set_option linter.unusedVariables false
set_option linter.unusedSimpArgs false
attribute [local go_sem] and_low field_nat

def EqFrom (xs ys : List Nat) (k : Nat) : Prop := ∀ j : Nat, k ≤ j → xs[j]?.getD 0 = ys[j]?.getD 0
theorem EqFrom.start (xs ys : List Nat) (k : Nat) (h1 : xs.length ≤ k) (h2 : ys.length ≤ k) : EqFrom xs ys k := fun j hj => by
  rw [List.getElem?_eq_none (by omega), List.getElem?_eq_none (by omega)]

theorem cmp_lt {a b k : Nat} (h : EqFrom (limbs a) (limbs b) (k + 1)) (hk : (limbs a)[k]?.getD 0 < (limbs b)[k]?.getD 0) : cmpI a b = -1 := by
  have := val_lt_of_top (limbs_lt a) (limbs_lt b) (fun j hj => h j hj) hk
  rw [val_limbs, val_limbs] at this
  unfold cmpI; rw [if_pos this]
theorem cmp_gt {a b k : Nat} (h : EqFrom (limbs a) (limbs b) (k + 1)) (hk : (limbs b)[k]?.getD 0 < (limbs a)[k]?.getD 0) : cmpI a b = 1 := by
  have := val_lt_of_top (limbs_lt b) (limbs_lt a) (fun j hj => (h j hj).symm) hk
  rw [val_limbs, val_limbs] at this
  unfold cmpI; rw [if_neg (by omega), if_pos this]
theorem cmp_eq {a b : Nat} (h : EqFrom (limbs a) (limbs b) 0) : cmpI a b = 0 := by
  have := val_ext (n := (limbs a).length + (limbs b).length) (by omega) (by omega) (fun j => h j (Nat.zero_le _))
  rw [val_limbs, val_limbs] at this
  unfold cmpI; rw [if_neg (by omega), if_neg (by omega)]

theorem held_next {wr w1 w2 : World} {p q : Nat} {u v : Value} (hb : Below w1.heap.size w1 w2) (h : w1.cell? ⟨p, 0, none⟩ = some u ∧ w1.cell? ⟨q, 0, none⟩ = some v ∧ Below wr.heap.size wr w1) :
    w2.cell? ⟨p, 0, none⟩ = some u ∧ w2.cell? ⟨q, 0, none⟩ = some v ∧ Below wr.heap.size wr w2 :=
  ⟨(hb.cell (p := ⟨p, 0, none⟩) (World.block_lt_of_cell? w1 ⟨p, 0, none⟩ h.1)).trans h.1, (hb.cell (p := ⟨q, 0, none⟩) (World.block_lt_of_cell? w1 ⟨q, 0, none⟩ h.2.1)).trans h.2.1, h.2.2.trans (hb.mono h.2.2.size)⟩
theorem held_nat {wr w1 : World} {p q : Nat} {u v x : Value} {n : Nat} (hn : NatIs wr x n) (h : w1.cell? ⟨p, 0, none⟩ = some u ∧ w1.cell? ⟨q, 0, none⟩ = some v ∧ Below wr.heap.size wr w1) : NatIs w1 x n := hn.below h.2.2

set_option maxRecDepth 100000 in
set_option maxHeartbeats 1000000 in
theorem cmp_any (va vb : Value) (a b : Nat) (w : World) (ha : NatIs w va a) (hb : NatIs w vb b) :
    Calls Tryd.prog 34 #[va, vb] w fun e w' => e = .returned (.int .i64 (cmpI a b)) ∧ Below w.heap.size w w' := by
  obtain ⟨ao, ca, rfl, ha1, ha2, ha3, ha4⟩ := ha.open
  obtain ⟨bo, cb, rfl, hb1, hb2, hb3, hb4⟩ := hb.open
  obtain ⟨m, hm⟩ : ∃ m, m = max (limbs a).length (limbs b).length := ⟨_, rfl⟩
  have hm1 : (limbs a).length ≤ m := by omega
  have hm2 : (limbs b).length ≤ m := by omega
  have hm3 : m ≤ 9223372036854775807 := by omega
  have hst := EqFrom.start _ _ m hm1 hm2
  have HM := Lib.hid hm
  have hla : (limbs a).length ≤ 9223372036854775807 := by omega
  have hlb : (limbs b).length ≤ 9223372036854775807 := by omega
  clear hm ha1 ha2 ha3 ha4 hb1 hb2 hb3 hb4 hm1 hm2
  have HS := Lib.hid hst; clear hst
  go_enter Tryd.func34, Tryd.ntmps34
  obtain ⟨w0, hw0⟩ : ∃ w0, w0 = (w.alloc (.cells #[.slice ao (limbs a).length ca] 25)).alloc (.cells #[.slice bo (limbs b).length cb] 25) := ⟨_, rfl⟩
  have hbel : Below w.heap.size w w0 := by
    rw [hw0]; exact ((Below.refl _ w).alloc (Nat.le_refl _) _).alloc (by simp <;> omega) _
  have hsz0 : w0.heap.size = w.heap.size + 2 := by rw [hw0]; simp
  have hba : Box w0 w.heap.size (.slice ao (limbs a).length ca) := by
    rw [hw0]; exact ⟨by go_simp, by go_simp, by simp <;> omega⟩
  have hbb : Box w0 (w.heap.size + 1) (.slice bo (limbs b).length cb) := by
    rw [hw0]; exact ⟨by go_simp, by go_simp, by simp <;> omega⟩
  have ha0 := ha.below hbel
  have hb0 := hb.below hbel
  have HW := Lib.hid hw0; clear hw0
  have HSZ := Lib.hid hsz0
  go_wp2
  all_goals
    go_loopg [5] m (fun gg iv wr => gg ≤ 9223372036854775807 ∧ iv = .int .i64 ((gg : Int) - 1) ∧ EqFrom (limbs a) (limbs b) gg ∧ Below w0.heap.size w0 wr)
    case atStart =>
      refine ⟨hm3, congrArg (Value.int .i64) ?_, HS.out, by rw [HW.out]; exact Below.refl _ _⟩
      have := HM.out
      omega
    case round =>
      obtain ⟨hgg, rfl, heq, hbr⟩ := hrel
      have HE := Lib.hid heq; clear heq
      rcases Nat.eq_zero_or_pos gk with rfl | hpos
      · go_wp2
        go_ret
        exact ⟨ret_one (congrArg (Value.int .i64) (cmp_eq HE.out).symm), hbel.trans (hbr.mono hbel.size)⟩
      · obtain ⟨k, rfl⟩ : ∃ k, gk = k + 1 := ⟨gk - 1, by omega⟩
        have har := ha0.below hbr
        have hbr' := hb0.below hbr
        have hbar := hba.kept hbr
        have hbbr := hbb.kept hbr
        have e1 := hbar.cell
        have e2 := hbbr.cell
        have ek : ((k + 1 : Nat) : Int) - 1 = (k : Int) := by omega
        rw [ek]
        have hk9 : k ≤ 9223372036854775807 := by omega
        clear HW HM HS ek
        go_wp2_with fail
        go_region_held3 (fun w' => w'.cell? ⟨w.heap.size, 0, none⟩ = some (.slice ao (limbs a).length ca) ∧ w'.cell? ⟨w.heap.size + 1, 0, none⟩ = some (.slice bo (limbs b).length cb) ∧ Below wr.heap.size wr w')
          (first | assumption | exact ⟨e1, e2, (Below.refl _ _).drew⟩)
          (first
            | (go_at_call_of 58 (Value.slice ao (limbs a).length ca); refine (at_any _ a k _ (held_nat har (by assumption)) hk9).mono ?_; rintro e w' ⟨rfl, hb'⟩; have hS := held_next hb' (by assumption))
            | (go_at_call_of 58 (Value.slice bo (limbs b).length cb); refine (at_any _ b k _ (held_nat hbr' (by assumption)) hk9).mono ?_; rintro e w' ⟨rfl, hb'⟩; have hS := held_next hb' (by assumption)))
        have hw3 := hS.2.2
        have hwb := hbr.trans (hw3.mono hbr.size)
        have hwf := hbel.trans (hwb.mono hbel.size)
        have hlt0 := fun h : (limbs a)[k]?.getD 0 < (limbs b)[k]?.getD 0 => cmp_lt HE.out h
        have hgt0 := fun h : (limbs b)[k]?.getD 0 < (limbs a)[k]?.getD 0 => cmp_gt HE.out h
        have heq0 : (limbs a)[k]?.getD 0 = (limbs b)[k]?.getD 0 → EqFrom (limbs a) (limbs b) k := fun h j hj => by
          rcases Nat.lt_or_ge k j with h1 | h1
          · exact HE.out j h1
          · obtain rfl : j = k := by omega
            exact h
        have HL := Lib.hid hlt0
        have HG := Lib.hid hgt0
        have HQ := Lib.hid heq0
        generalize (limbs a)[k]?.getD 0 = xa at *
        generalize (limbs b)[k]?.getD 0 = xb at *
        clear hlt0 hgt0 heq0 HE hS hw3
        by_cases hlt : xa < xb
        · go_wp2
          go_ret
          exact ⟨ret_one (congrArg (Value.int .i64) (HL.out hlt).symm), hwf⟩
        · by_cases hgt : xb < xa
          · go_wp2
            go_ret
            exact ⟨ret_one (congrArg (Value.int .i64) (HG.out hgt).symm), hwf⟩
          · go_wp2
            go_roundg k
            case measure => omega
            case rel => exact ⟨hk9, rfl, HQ.out (by omega), hwb⟩
end Go.Proofs.YtegneoaoodddoaaDoor
