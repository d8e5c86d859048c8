/-
  nat: walks (14): Halves, and what its iterator tells.
-/
import Derived.RangeFuncNested
import Derived.RangeFuncBound
import Derived.RangeFuncCalls
import Derived.RangeFuncLeaves
import Derived.Shelf.Abstract
import Derived.Shelf.RegionOpen
import Derived.WalkKit
import Derived.OwnWalkIn
import Derived.TacticsInMore
import Derived.LoopNIn
import Derived.LoopIn
import Derived.Sort.LoopGhostIn
import Derived.Test.YtegneoaoodddoaaDoorRangeA
import Derived.Test.YtegneoaoodddoaaDoorNatL
namespace Go.Proofs.YtegneoaoodddoaaDoor
open Go.RowKit Go.Shelf
set_option linter.unusedVariables false
set_option linter.unusedSimpArgs false
attribute [local go_sem] Oper.semAt_some

/-- Numbers lie on. -/
def KeepNat (W W' : World) : Prop := ∀ v n, NatIs W v n → NatIs W' v n
theorem KeepNat.trans {A C D : World} (h : KeepNat A C) (h' : KeepNat C D) : KeepNat A D := fun v n hn => h' v n (h v n hn)

/-- All cells that hold limbs hold them still. -/
theorem KeepNat.of_cells {A C : World} (hs : A.heap.size ≤ C.heap.size) (h : ∀ p n, A.cell? p = some (.int .u32 n) → C.cell? p = some (.int .u32 n)) : KeepNat A C := by
  rintro v n ⟨sv, rfl, ao, cap, h1, h2, h3, h4, h5⟩
  refine ⟨sv, rfl, ao, cap, h1, h2, h3, h4, ?_⟩
  rcases h5 with h5 | ⟨b, off, h6, h7, h8⟩
  · exact .inl h5
  · refine .inr ⟨b, off, h6, Nat.lt_of_lt_of_le h7 hs, fun i hi => ?_⟩
    exact h _ _ (h8 i hi)
theorem KeepNat.below {A C : World} (h : Below A.heap.size A C) : KeepNat A C := fun v n hn => hn.below h
theorem Ext.block {B : Nat} {A C : World} (h : Ext B A C) {p : Addr} {v : Value} (hp : A.cell? p = some v) : C.heap[p.block]? = A.heap[p.block]? := by
  unfold World.cell? at hp
  split at hp
  · rename_i hb
    rw [hb]; exact h.cells _ _ hb rfl
  · cases hp
theorem Ext.cell {B : Nat} {A C : World} (h : Ext B A C) {p : Addr} {v : Value} (hp : A.cell? p = some v) : C.cell? p = some v :=
  (World.cell?_of_block (h.block hp)).trans hp
theorem KeepNat.ext {B : Nat} {A C : World} (h : Ext B A C) : KeepNat A C := KeepNat.of_cells h.size fun p n hp => h.cell hp
theorem Box.ext {B : Nat} {A C : World} {b : Nat} {v : Value} (hx : Box A b v) (h : Ext B A C) : Box C b v :=
  ⟨h.cell hx.cell, (World.frozen?_of_block (h.block hx.cell)).trans hx.free, Nat.lt_of_lt_of_le hx.lt h.size⟩
theorem Box.foot {S S' : Nat → Prop} {A C : World} {b : Nat} {v : Value} (hx : Box A b v) (h : Foot S S' A C) (hs : ¬ S b) : Box C b v :=
  have e := h.same b hx.lt hs
  ⟨(World.cell?_of_block (a := ⟨b, 0, none⟩) e).trans hx.cell, (World.frozen?_of_block (a := ⟨b, 0, none⟩) e).trans hx.free, Nat.lt_of_lt_of_le hx.lt h.size⟩

def halvesL (a : Nat) : List Nat := (List.range (blen a)).map fun i => a / 2 ^ i
theorem halvesL_length (a : Nat) : (halvesL a).length = blen a := by simp [halvesL]
theorem halvesL_take {a i : Nat} (h : i < blen a) : (halvesL a).take i ++ [a / 2 ^ i] = (halvesL a).take (i + 1) := by
  rw [List.take_add_one]
  congr 1
  simp [halvesL, h]
theorem halve_zero {a i : Nat} (h : i ≤ blen a) : a / 2 ^ i = 0 ↔ i = blen a := by
  have h1 : a / 2 ^ i = 0 ↔ a < 2 ^ i := by
    rw [Nat.div_eq_zero_iff]
    have : 0 < 2 ^ i := Nat.two_pow_pos i
    omega
  rw [h1, ← blen_le_iff]
  omega

theorem limbs_div_le {a k m : Nat} (h : (limbs a).length ≤ m) : (limbs (a / 2 ^ k)).length ≤ m :=
  Nat.le_trans (limbs_length_mono (Nat.div_le_self _ _)) h
theorem shift_one (va : Value) (a : Nat) (w : World) (ha : NatIs w va a) (hla : (limbs a).length ≤ 1000000) :
    Calls Tryd.prog 30 #[va, .int .i64 (-1)] w fun e w' => ∃ r, e = .returned r ∧ NatIs w' r (a / 2) ∧ Below w.heap.size w w' := by
  have := shift_neg va a 1 w ha hla (by omega) (by omega)
  rwa [Nat.pow_one, show (-((1 : Nat) : Int)) = -1 from rfl] at this

set_option maxRecDepth 100000 in
set_option maxHeartbeats 1000000 in
theorem halves1_iter (va : Value) (a b B : Nat) (w : World) (ha : NatIs w (.agg #[va]) a) (hla : (limbs a).length ≤ 1000000) (hc : w.cell? ⟨b, 0, none⟩ = some va) (hB : b < B) (hBw : B ≤ w.heap.size) :
    Iter Tryd.prog 54 #[.pointer (some ⟨b, 0, none⟩)] NatIs (halvesL a) B KeepNat w := by
  intro l J Jx S0 W1 hW1 hS0 hJ hJx hY h0
  have hc1 := (hW1.cell (p := ⟨b, 0, none⟩) (by show b < _; omega)).trans hc
  have ha1 := ha.below hW1
  obtain ⟨ao, ca, hva, _, _, _, _⟩ := ha.open
  cases hva
  refine callsIn_of_wp Tryd.func54 rfl (by trivial) ?_ rfl
  simp only [IterArgs, Tryd.ntmps54, List.size_toArray, List.length_cons, List.length_nil, Nat.reduceAdd, Nat.reduceSub, Array.replicate_succ, Array.replicate_zero, List.push_toArray, List.append_toArray, List.nil_append, List.cons_append]
  gi_wp2_with fail
  gi_loopg [3] (blen a) (fun g p wr => ∃ (bx : Nat) (S : Nat → Prop) (sv : Value), p = .pointer (some ⟨bx, 0, none⟩) ∧ g ≤ blen a ∧ Box wr bx sv ∧ NatIs wr (.agg #[sv]) (a / 2 ^ (blen a - g)) ∧
    J ((halvesL a).take (blen a - g)) S wr ∧ ¬ S bx ∧ Top S wr ∧ Foot S0 S W1 wr)
  case atStart =>
    have hb0 : Below W1.heap.size W1 (W1.alloc (.cells #[Value.slice ao (limbs a).length ca] 25)) := (Below.refl _ W1).alloc (Nat.le_refl _) _
    refine ⟨W1.heap.size, S0, .slice ao (limbs a).length ca, rfl, Nat.le_refl _, ⟨by go_simp, by go_simp, by simp⟩, ?_, ?_, fun h => by have := (hS0 _ h).2; omega, fun k hk => by have := (hS0 _ hk).2; simp; omega, Foot.of_below hb0⟩
    · rw [Nat.sub_self, Nat.pow_zero, Nat.div_one]; exact ha1.below hb0
    · rw [Nat.sub_self]; exact hJ _ _ _ _ h0 hb0
  case round =>
    obtain ⟨bx, S, sv, rfl, hg, hbx, hn, hJs, hSb, hT, hF⟩ := hrel
    obtain ⟨ao, ca, hva, _, _, _, _⟩ := hn.open
    cases hva
    have e1 := hbx.cell
    gi_wp2_with fail
    refine ⟨trivial, rfl, callsIn_wide.2 ((zero_any _ _ wr hn).mono ?_)⟩
    rintro e w1 ⟨rfl, hb1⟩
    have hbx1 := hbx.kept hb1
    have hn1 := hn.below hb1
    have hJ1 := hJ _ _ _ _ hJs hb1
    have hT1 : Top S w1 := fun k hk => Nat.lt_of_lt_of_le (hT k hk) hb1.size
    have hF1 := hF.trans (Foot.of_below (S := S) hb1)
    have e2 := hbx1.cell
    clear e1
    by_cases h0 : a / 2 ^ (blen a - gk) = 0
    · have hgk : gk = 0 := by rw [halve_zero (by omega)] at h0; omega
      have HZ := Lib.hid h0; clear h0
      simp only [HZ.out]
      gi_wp2
      go_end0
      refine ⟨⟨_, rfl⟩, .inl ⟨S, ?_, hF1⟩⟩
      rw [hgk, Nat.sub_zero, List.take_of_length_le (by rw [halvesL_length]; exact Nat.le_refl _)] at hJ1
      exact hJ1
    · have hgk : 0 < gk := by rcases Nat.eq_zero_or_pos gk with h | h; exact (h0 ((halve_zero (by omega)).2 (by omega))).elim; exact h
      have ht := halvesL_take (a := a) (i := blen a - gk) (by omega)
      obtain ⟨fn, tmps, assign, body, hy, hR⟩ := hY _ _ _ _ _ hJ1 hn1 (by rw [ht]; exact List.take_prefix _ _)
      gi_wp2
      refine ⟨rfl, hR.mono ?_⟩
      rintro e W3 (⟨rfl, S3, hJ3, hF3, hT3, hK3⟩ | ⟨rfl, S3, hJ3, hF3⟩)
      · have hbx3 := hbx1.foot hF3 hSb
        have hn3 := hK3 _ _ hn1
        have e3 := hbx3.cell
        obtain ⟨W4, hw4⟩ : ∃ W4, W4 = W3.alloc (Obj.cells #[Value.slice ao (limbs (a / 2 ^ (blen a - gk))).length ca] 25) := ⟨_, rfl⟩
        have hb4 : Below W3.heap.size W3 W4 := by rw [hw4]; exact (Below.refl _ W3).alloc (Nat.le_refl _) _
        have hbx4 : Box W4 W3.heap.size (Value.slice ao (limbs (a / 2 ^ (blen a - gk))).length ca) := by rw [hw4]; exact ⟨by go_simp, by go_simp, by simp⟩
        have HW := Lib.hid hw4; clear hw4
        gi_wp2_with fail
        rw [← HW.out]
        refine ⟨trivial, rfl, callsIn_wide.2 ((shift_one _ _ _ (hn3.below hb4) (limbs_div_le hla)).mono ?_)⟩
        rintro e w5 ⟨r, rfl, hn5, hb5⟩
        obtain ⟨ro, rc, rfl, _, _, _, _⟩ := hn5.open
        have hbx5 := hbx4.kept hb5
        have e5 := hbx5.cell
        have hfin := (hb4.trans (hb5.mono hb4.size)).setCell (p := ⟨W3.heap.size, 0, none⟩) (Nat.le_refl _) (.slice ro (limbs (a / 2 ^ (blen a - (gk - 1)))).length rc)
        have f5 := hbx5.free
        have hi : a / 2 ^ (blen a - gk) / 2 = a / 2 ^ (blen a - (gk - 1)) := by
          rw [Nat.div_div_eq_div_mul, ← Nat.pow_succ]
          congr 2
          omega
        rw [hi] at hn5 ⊢
        clear hi
        gi_wp2
        gi_roundg (gk - 1)
        case measure => omega
        case rel =>
          refine ⟨W3.heap.size, S3, _, rfl, by omega, hbx5.set _, hn5.set _ _ (fun n e => by rw [e5] at e; cases e), ?_, ?_, ?_, ?_⟩
          · rw [ht, show blen a - gk + 1 = blen a - (gk - 1) by omega] at hJ3
            exact hJ _ _ _ _ hJ3 hfin
          · intro h; have := hT3 _ h; omega
          · exact fun k hk => Nat.lt_of_lt_of_le (hT3 k hk) hfin.size
          · exact (hF1.trans hF3).trans (Foot.of_below hfin)
      · gi_wp2
        refine bodyPost_ret (results_none rfl _ _ _) rfl ?_
        exact ⟨⟨_, rfl⟩, .inr ⟨_, _, by rw [ht]; exact List.take_prefix _ _, hJ3, hF1.trans hF3⟩⟩
end Go.Proofs.YtegneoaoodddoaaDoor
