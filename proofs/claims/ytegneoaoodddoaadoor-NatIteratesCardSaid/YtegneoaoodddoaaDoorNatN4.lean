/-
  NatN4: the texts NatM NatN NatO, one behind the other.
-/
import Derived.RangeFuncNested
import Derived.RangeFuncBound
import Derived.RangeFuncCalls
import Derived.RangeFuncLeaves
import Derived.Shelf.Abstract
import Derived.Shelf.RegionOpen
import Derived.WalkKit
import Derived.OwnWalkIn
import Derived.TacticsInMore
import Derived.LoopNIn
import Derived.LoopIn
import Derived.Sort.LoopGhostIn
import Derived.Test.YtegneoaoodddoaaDoorRangeN
import Derived.Test.YtegneoaoodddoaaDoorNatN3
import Derived.Test.YtegneoaoodddoaaDoorNatN2
import Derived.Test.YtegneoaoodddoaaDoorNatN1

/-
  nat: walks (14): Halves, and what its iterator tells.
-/
namespace Go.Proofs.YtegneoaoodddoaaDoor
open Go.RowKit Go.Shelf
set_option linter.unusedVariables false
set_option linter.unusedSimpArgs false
attribute [local go_sem] Oper.semAt_some

/-- Numbers lie on. -/
def KeepNat (W W' : World) : Prop := ∀ v n, NatIs W v n → NatIs W' v n
theorem KeepNat.trans {A C D : World} (h : KeepNat A C) (h' : KeepNat C D) : KeepNat A D := fun v n hn => h' v n (h v n hn)

/-- All cells that hold limbs hold them still. -/
theorem KeepNat.of_cells {A C : World} (hs : A.heap.size ≤ C.heap.size) (h : ∀ p n, A.cell? p = some (.int .u32 n) → C.cell? p = some (.int .u32 n)) : KeepNat A C := by
  rintro v n ⟨sv, rfl, ao, cap, h1, h2, h3, h4, h5⟩
  refine ⟨sv, rfl, ao, cap, h1, h2, h3, h4, ?_⟩
  rcases h5 with h5 | ⟨b, off, h6, h7, h8⟩
  · exact .inl h5
  · refine .inr ⟨b, off, h6, Nat.lt_of_lt_of_le h7 hs, fun i hi => ?_⟩
    exact h _ _ (h8 i hi)
theorem KeepNat.below {A C : World} (h : Below A.heap.size A C) : KeepNat A C := fun v n hn => hn.below h
theorem Ext.block {B : Nat} {A C : World} (h : Ext B A C) {p : Addr} {v : Value} (hp : A.cell? p = some v) : C.heap[p.block]? = A.heap[p.block]? := by
  unfold World.cell? at hp
  split at hp
  · rename_i hb
    rw [hb]; exact h.cells _ _ hb rfl
  · cases hp
theorem Ext.cell {B : Nat} {A C : World} (h : Ext B A C) {p : Addr} {v : Value} (hp : A.cell? p = some v) : C.cell? p = some v :=
  (World.cell?_of_block (h.block hp)).trans hp
theorem KeepNat.ext {B : Nat} {A C : World} (h : Ext B A C) : KeepNat A C := KeepNat.of_cells h.size fun p n hp => h.cell hp
theorem Box.ext {B : Nat} {A C : World} {b : Nat} {v : Value} (hx : Box A b v) (h : Ext B A C) : Box C b v :=
  ⟨h.cell hx.cell, (World.frozen?_of_block (h.block hx.cell)).trans hx.free, Nat.lt_of_lt_of_le hx.lt h.size⟩
theorem Box.foot {S S' : Nat → Prop} {A C : World} {b : Nat} {v : Value} (hx : Box A b v) (h : Foot S S' A C) (hs : ¬ S b) : Box C b v :=
  have e := h.same b hx.lt hs
  ⟨(World.cell?_of_block (a := ⟨b, 0, none⟩) e).trans hx.cell, (World.frozen?_of_block (a := ⟨b, 0, none⟩) e).trans hx.free, Nat.lt_of_lt_of_le hx.lt h.size⟩

def halvesL (a : Nat) : List Nat := (List.range (blen a)).map fun i => a / 2 ^ i
theorem halvesL_length (a : Nat) : (halvesL a).length = blen a := by simp [halvesL]
theorem halvesL_take {a i : Nat} (h : i < blen a) : (halvesL a).take i ++ [a / 2 ^ i] = (halvesL a).take (i + 1) := by
  rw [List.take_add_one]
  congr 1
  simp [halvesL, h]
theorem halve_zero {a i : Nat} (h : i ≤ blen a) : a / 2 ^ i = 0 ↔ i = blen a := by
  have h1 : a / 2 ^ i = 0 ↔ a < 2 ^ i := by
    rw [Nat.div_eq_zero_iff]
    have : 0 < 2 ^ i := Nat.two_pow_pos i
    omega
  rw [h1, ← blen_le_iff]
  omega

theorem limbs_div_le {a k m : Nat} (h : (limbs a).length ≤ m) : (limbs (a / 2 ^ k)).length ≤ m :=
  Nat.le_trans (limbs_length_mono (Nat.div_le_self _ _)) h
theorem shift_one (va : Value) (a : Nat) (w : World) (ha : NatIs w va a) (hla : (limbs a).length ≤ 1000000) :
    Calls Tryd.prog 30 #[va, .int .i64 (-1)] w fun e w' => ∃ r, e = .returned r ∧ NatIs w' r (a / 2) ∧ Below w.heap.size w w' := by
  have := shift_neg va a 1 w ha hla (by omega) (by omega)
  rwa [Nat.pow_one, show (-((1 : Nat) : Int)) = -1 from rfl] at this

set_option maxRecDepth 100000 in
set_option maxHeartbeats 1000000 in
theorem halves1_iter (va : Value) (a b B : Nat) (w : World) (ha : NatIs w (.agg #[va]) a) (hla : (limbs a).length ≤ 1000000) (hc : w.cell? ⟨b, 0, none⟩ = some va) (hB : b < B) (hBw : B ≤ w.heap.size) :
    Iter Tryd.prog 54 #[.pointer (some ⟨b, 0, none⟩)] NatIs (halvesL a) B KeepNat w := by
  intro l J Jx S0 W1 hW1 hS0 hJ hJx hY h0
  have hc1 := (hW1.cell (p := ⟨b, 0, none⟩) (by show b < _; omega)).trans hc
  have ha1 := ha.below hW1
  obtain ⟨ao, ca, hva, _, _, _, _⟩ := ha.open
  cases hva
  refine callsIn_of_wp Tryd.func54 rfl (by trivial) ?_ rfl
  simp only [IterArgs, Tryd.ntmps54, List.size_toArray, List.length_cons, List.length_nil, Nat.reduceAdd, Nat.reduceSub, Array.replicate_succ, Array.replicate_zero, List.push_toArray, List.append_toArray, List.nil_append, List.cons_append]
  gi_wp2_with fail
  gi_loopg [3] (blen a) (fun g p wr => ∃ (bx : Nat) (S : Nat → Prop) (sv : Value), p = .pointer (some ⟨bx, 0, none⟩) ∧ g ≤ blen a ∧ Box wr bx sv ∧ NatIs wr (.agg #[sv]) (a / 2 ^ (blen a - g)) ∧
    J ((halvesL a).take (blen a - g)) S wr ∧ ¬ S bx ∧ Top S wr ∧ Foot S0 S W1 wr)
  case atStart =>
    have hb0 : Below W1.heap.size W1 (W1.alloc (.cells #[Value.slice ao (limbs a).length ca] 25)) := (Below.refl _ W1).alloc (Nat.le_refl _) _
    refine ⟨W1.heap.size, S0, .slice ao (limbs a).length ca, rfl, Nat.le_refl _, ⟨by go_simp, by go_simp, by simp⟩, ?_, ?_, fun h => by have := (hS0 _ h).2; omega, fun k hk => by have := (hS0 _ hk).2; simp; omega, Foot.of_below hb0⟩
    · rw [Nat.sub_self, Nat.pow_zero, Nat.div_one]; exact ha1.below hb0
    · rw [Nat.sub_self]; exact hJ _ _ _ _ h0 hb0
  case round =>
    obtain ⟨bx, S, sv, rfl, hg, hbx, hn, hJs, hSb, hT, hF⟩ := hrel
    obtain ⟨ao, ca, hva, _, _, _, _⟩ := hn.open
    cases hva
    have e1 := hbx.cell
    gi_wp2_with fail
    refine ⟨trivial, rfl, callsIn_wide.2 ((zero_any _ _ wr hn).mono ?_)⟩
    rintro e w1 ⟨rfl, hb1⟩
    have hbx1 := hbx.kept hb1
    have hn1 := hn.below hb1
    have hJ1 := hJ _ _ _ _ hJs hb1
    have hT1 : Top S w1 := fun k hk => Nat.lt_of_lt_of_le (hT k hk) hb1.size
    have hF1 := hF.trans (Foot.of_below (S := S) hb1)
    have e2 := hbx1.cell
    clear e1
    by_cases h0 : a / 2 ^ (blen a - gk) = 0
    · have hgk : gk = 0 := by rw [halve_zero (by omega)] at h0; omega
      have HZ := Lib.hid h0; clear h0
      simp only [HZ.out]
      gi_wp2
      go_end0
      refine ⟨⟨_, rfl⟩, .inl ⟨S, ?_, hF1⟩⟩
      rw [hgk, Nat.sub_zero, List.take_of_length_le (by rw [halvesL_length]; exact Nat.le_refl _)] at hJ1
      exact hJ1
    · have hgk : 0 < gk := by rcases Nat.eq_zero_or_pos gk with h | h; exact (h0 ((halve_zero (by omega)).2 (by omega))).elim; exact h
      have ht := halvesL_take (a := a) (i := blen a - gk) (by omega)
      obtain ⟨fn, tmps, assign, body, hy, hR⟩ := hY _ _ _ _ _ hJ1 hn1 (by rw [ht]; exact List.take_prefix _ _)
      gi_wp2
      refine ⟨rfl, hR.mono ?_⟩
      rintro e W3 (⟨rfl, S3, hJ3, hF3, hT3, hK3⟩ | ⟨rfl, S3, hJ3, hF3⟩)
      · have hbx3 := hbx1.foot hF3 hSb
        have hn3 := hK3 _ _ hn1
        have e3 := hbx3.cell
        obtain ⟨W4, hw4⟩ : ∃ W4, W4 = W3.alloc (Obj.cells #[Value.slice ao (limbs (a / 2 ^ (blen a - gk))).length ca] 25) := ⟨_, rfl⟩
        have hb4 : Below W3.heap.size W3 W4 := by rw [hw4]; exact (Below.refl _ W3).alloc (Nat.le_refl _) _
        have hbx4 : Box W4 W3.heap.size (Value.slice ao (limbs (a / 2 ^ (blen a - gk))).length ca) := by rw [hw4]; exact ⟨by go_simp, by go_simp, by simp⟩
        have HW := Lib.hid hw4; clear hw4
        gi_wp2_with fail
        rw [← HW.out]
        refine ⟨trivial, rfl, callsIn_wide.2 ((shift_one _ _ _ (hn3.below hb4) (limbs_div_le hla)).mono ?_)⟩
        rintro e w5 ⟨r, rfl, hn5, hb5⟩
        obtain ⟨ro, rc, rfl, _, _, _, _⟩ := hn5.open
        have hbx5 := hbx4.kept hb5
        have e5 := hbx5.cell
        have hfin := (hb4.trans (hb5.mono hb4.size)).setCell (p := ⟨W3.heap.size, 0, none⟩) (Nat.le_refl _) (.slice ro (limbs (a / 2 ^ (blen a - (gk - 1)))).length rc)
        have f5 := hbx5.free
        have hi : a / 2 ^ (blen a - gk) / 2 = a / 2 ^ (blen a - (gk - 1)) := by
          rw [Nat.div_div_eq_div_mul, ← Nat.pow_succ]
          congr 2
          omega
        rw [hi] at hn5 ⊢
        clear hi
        gi_wp2
        gi_roundg (gk - 1)
        case measure => omega
        case rel =>
          refine ⟨W3.heap.size, S3, _, rfl, by omega, hbx5.set _, hn5.set _ _ (fun n e => by rw [e5] at e; cases e), ?_, ?_, ?_, ?_⟩
          · rw [ht, show blen a - gk + 1 = blen a - (gk - 1) by omega] at hJ3
            exact hJ _ _ _ _ hJ3 hfin
          · intro h; have := hT3 _ h; omega
          · exact fun k hk => Nat.lt_of_lt_of_le (hT3 k hk) hfin.size
          · exact (hF1.trans hF3).trans (Foot.of_below hfin)
      · gi_wp2
        refine bodyPost_ret (results_none rfl _ _ _) rfl ?_
        exact ⟨⟨_, rfl⟩, .inr ⟨_, _, by rw [ht]; exact List.take_prefix _ _, hJ3, hF1.trans hF3⟩⟩
end Go.Proofs.YtegneoaoodddoaaDoor

/-
  The laws' own functions (1): halves: what an iterator tells, as a list.
-/
namespace Go.Proofs.YtegneoaoodddoaaDoor
open Go.RowKit Go.Shelf
set_option linter.unusedVariables false
set_option linter.unusedSimpArgs false
attribute [local go_sem] Oper.semAt_some

/-- Cells that read as these numbers. -/
def NatsAt (W : World) (svs : List Value) (ns : List Nat) : Prop := svs.length = ns.length ∧ ∀ (i : Nat) (sv : Value), svs[i]? = some sv → ∃ n, ns[i]? = some n ∧ NatIs W (.agg #[sv]) n
theorem NatsAt.nil (W : World) : NatsAt W [] [] := ⟨rfl, fun i sv h => by simp at h⟩
theorem NatsAt.keep {W W' : World} {svs : List Value} {ns : List Nat} (h : NatsAt W svs ns) (hk : KeepNat W W') : NatsAt W' svs ns :=
  ⟨h.1, fun i sv hi => by obtain ⟨n, h1, h2⟩ := h.2 i sv hi; exact ⟨n, h1, hk _ _ h2⟩⟩
theorem NatsAt.snoc {W : World} {svs : List Value} {ns : List Nat} {sv : Value} {n : Nat} (h : NatsAt W svs ns) (hn : NatIs W (.agg #[sv]) n) : NatsAt W (svs ++ [sv]) (ns ++ [n]) := by
  refine ⟨by simp [h.1], fun i u hi => ?_⟩
  by_cases hlt : i < svs.length
  · rw [List.getElem?_append_left hlt] at hi
    obtain ⟨m, h1, h2⟩ := h.2 i u hi
    exact ⟨m, by rw [List.getElem?_append_left (by rw [← h.1]; exact hlt)]; exact h1, h2⟩
  · have hie : i = svs.length := by
      have := (List.getElem?_eq_some_iff.1 hi).1
      simp at this; omega
    subst hie
    simp at hi
    subst hi
    exact ⟨n, by rw [h.1]; simp, hn⟩

/-- A list of numbers in memory. -/
def NatsIs (W : World) (v : Value) (ns : List Nat) : Prop := ∃ base svs, Owns base 25 W v svs ∧ NatsAt W svs ns

theorem Owns.of_block {base : Nat} {e : TypeId} {w w' : World} {v : Value} {xs : List Value} (h : Owns base e w v xs) (hb : ∀ g, v.ownBlock = some g → w'.heap[g]? = w.heap[g]?) : Owns base e w' v xs := by
  refine ⟨h.1, ?_⟩
  rcases h.2 with h1 | ⟨g, cap, cur, rfl, h2, h3, h4⟩
  · exact .inl h1
  · exact .inr ⟨g, cap, cur, rfl, h2, (hb g rfl).trans h3, h4⟩
theorem Owns.ext {B base : Nat} {e : TypeId} {w w' : World} {v : Value} {xs : List Value} (h : Owns base e w v xs) (hx : Ext B w w') : Owns base e w' v xs := by
  refine ⟨h.1, ?_⟩
  rcases h.2 with h1 | ⟨g, cap, cur, rfl, h2, h3, h4⟩
  · exact .inl h1
  · exact .inr ⟨g, cap, cur, rfl, h2, hx.cells _ _ h3 rfl, h4⟩
theorem NatsIs.ext {B : Nat} {W W' : World} {v : Value} {ns : List Nat} (h : NatsIs W v ns) (hx : Ext B W W') : NatsIs W' v ns := by
  obtain ⟨base, svs, h1, h2⟩ := h
  exact ⟨base, svs, h1.ext hx, h2.keep (KeepNat.ext hx)⟩
theorem NatsIs.below {W W' : World} {v : Value} {ns : List Nat} (h : NatsIs W v ns) (hx : Below W.heap.size W W') : NatsIs W' v ns := h.ext (B := 0) (Ext.of_below hx)
theorem below_ext {B D : Nat} {w W W' : World} (h : Below B w W) (hx : Ext D W W') (hD : B ≤ D) (hBw : B ≤ W.heap.size) : Below B w W' :=
  ⟨hx.os.trans h.os, hx.tape.trans h.tape, hx.output.trans h.output, Nat.le_trans h.size hx.size, fun k hk => (hx.low k (by omega) (by omega)).trans (h.block k hk)⟩
theorem Iter.mono {α : Type} {P : Program} {gf : Nat} {lb : Array Value} {Enc : World → Value → α → Prop} {xs : List α} {B : Nat} {Kp : World → World → Prop} {w w' : World} (h : Iter P gf lb Enc xs B Kp w) (hb : Below w.heap.size w w') :
    Iter P gf lb Enc xs B Kp w' := fun l J Jx S0 W1 hW => h l J Jx S0 W1 (hb.trans (hW.mono hb.size))

/-- A row that an append has made, and the box into which it goes: what lies elsewhere lies on. -/
theorem grown_foot {W w1 : World} {bx : Nat} {v v' : Value} (hg : W.grownBy w1 v.ownBlock) (hlt : bx < W.heap.size) (ho : ∀ g, v'.ownBlock = some g → v.ownBlock = some g ∨ W.heap.size ≤ g) (u : Value) :
    Foot (fun k => k = bx ∨ v.ownBlock = some k) (fun k => k = bx ∨ v'.ownBlock = some k) W (w1.setCell ⟨bx, 0, none⟩ u) where
  os := hg.os
  tape := hg.tape
  output := hg.output
  size := by simpa using hg.size
  same k hk hs := by
    have h1 : k ≠ bx := fun e => hs (.inl e)
    have h2 : ¬ (some k = v.ownBlock) := fun e => hs (.inr e.symm)
    have := (grownBy_set (grownBy_refl w1 (some bx)) 0 u).block k (Nat.lt_of_lt_of_le hk hg.size) (by simpa using h1)
    exact this.trans (hg.block k hk h2)
  fresh k h := by
    rcases h with h | h
    · exact .inl (.inl h)
    · rcases ho k h with h1 | h1
      · exact .inl (.inr h1)
      · exact .inr h1

theorem Tryd.info25 : (Tryd.prog.info? 25).map (fun i => (i.zero, i.size, i.bytes)) = some (some (.agg #[.slice none 0 0]), 1, 24) := by kernel_rfl
theorem ENat : Elem Tryd.prog 38 25 (.agg #[.slice none 0 0]) 24 := elem_of Tryd.underlying38 Tryd.info25 rfl

theorem owns_snoc {base : Nat} {e : TypeId} {w : World} {v u : Value} {xs : List Value} (h : Owns base e w v (xs ++ [u])) : ∃ g cap, v = .slice (some ⟨g, 0, none⟩) (xs.length + 1) cap := by
  rcases h.shape with ⟨_, h1⟩ | ⟨g, cap, h1, _⟩
  · simp at h1
  · exact ⟨g, cap, by rw [h1]; simp⟩

/-- No limb. -/
def NotInt (c : Value) : Prop := ∀ n, c ≠ .int .u32 n
theorem RowAll.block {p : Value → Prop} {W W' : World} {v : Value} (h : RowAll p W v) (hb : ∀ g, v.ownBlock = some g → W'.heap[g]? = W.heap[g]?) : RowAll p W' v :=
  fun g hg j c hc => h g hg j c ((World.cell?_of_block (a := ⟨g, j, none⟩) (hb g hg)).symm.trans hc)
theorem Owns.at_cells {base : Nat} {e : TypeId} {w : World} {v : Value} {xs : List Value} (h : Owns base e w v xs) : ∀ g, v.ownBlock = some g → base ≤ g ∧ g < w.heap.size ∧ ∃ o : Obj, w.heap[g]? = some o ∧ o.isCells = true := by
  intro g hg
  rcases h.2 with ⟨rfl, _⟩ | ⟨g', cap, cur, rfl, h2, h3, h4⟩
  · simp [Value.ownBlock] at hg
  · simp [Value.ownBlock] at hg
    subst hg
    exact ⟨h2, (Array.getElem?_eq_some_iff.1 h3).1, _, h3, rfl⟩
theorem RowAll.ext {p : Value → Prop} {B base : Nat} {e : TypeId} {W W' : World} {v : Value} {xs : List Value} (h : RowAll p W v) (hx : Ext B W W') (hO : Owns base e W v xs) : RowAll p W' v :=
  h.block fun g hg => by obtain ⟨_, _, o, h1, h2⟩ := hO.at_cells g hg; rw [h1]; exact hx.cells _ _ h1 h2
theorem RowAll.below {p : Value → Prop} {base : Nat} {e : TypeId} {W W' : World} {v : Value} {xs : List Value} (h : RowAll p W v) (hb : Below W.heap.size W W') (hO : Owns base e W v xs) : RowAll p W' v := h.ext (B := 0) (Ext.of_below hb) hO

theorem List.take_eq_of_prefix {α : Type} {a b : List α} (h : a <+: b) : b.take a.length = a := by
  obtain ⟨t, rfl⟩ := h
  simp
theorem keep_grown {W w1 : World} {bx : Nat} {v b0 u : Value} (hg : W.grownBy w1 v.ownBlock) (ha : RowAll NotInt W v) (hB1 : Box w1 bx b0) (h0 : NotInt b0) : KeepNat W (w1.setCell ⟨bx, 0, none⟩ u) := by
  have h1 : KeepNat W w1 := by
    refine KeepNat.of_cells hg.size ?_
    intro p n hp
    refine hg.cell hp ?_
    intro e
    obtain ⟨blk, off, spot⟩ := p
    have : spot = none := by
      unfold World.cell? at hp
      split at hp
      · cases spot with
        | none => rfl
        | some x => simp at hp
      · cases hp
    subst this
    exact ha blk e.symm off _ hp n rfl
  exact fun v' n hn => (h1 v' n hn).set _ _ (fun n e => by rw [hB1.cell] at e; exact h0 n (by injection e))

theorem ext_deferred {W : World} {D : Nat} (hD : W.heap[D]? = some (.deferred (some []))) : Ext D W (W.putObj D (.deferred none)) := Ext.put (Nat.le_refl _) hD rfl

def takeStop (xs : List Nat) (stop : Int) : List Nat := if 0 < stop then xs.take stop.toNat else xs

set_option maxRecDepth 100000 in
set_option maxHeartbeats 1000000 in
theorem halves_list (gf : Nat) (lb : Array Value) (xs : List Nat) (stop : Int) (w : World) (hit : Iter Tryd.prog gf lb NatIs xs w.heap.size KeepNat w) (eg : ∀ args w, (callFunc gf args).run Tryd.prog w = .ok (.enter gf args) w)
    (hl : xs.length ≤ 1000000000) (hs0 : -9223372036854775808 ≤ stop) (hs1 : stop ≤ 9223372036854775807) :
    Calls Tryd.prog 25 #[.func (.func gf) #[] lb, .int .i64 stop] w fun e w' => ∃ v, e = .returned v ∧ NatsIs w' v (takeStop xs stop) ∧ Below w.heap.size w w' := by
  refine (callsIn_wide (n := 0)).1 ?_
  refine callsIn_of_wp_marks Tryd.func25 rfl (by trivial) ?_ rfl
  simp only [Tryd.ntmps25, List.size_toArray, List.length_cons, List.length_nil, Nat.reduceAdd, Nat.reduceSub, Array.replicate_succ, Array.replicate_zero, List.push_toArray, List.append_toArray, List.nil_append, List.cons_append]
  gi_wp2_with fail
  obtain ⟨w0, hw0⟩ : ∃ w0, w0 = (w.alloc (.cells #[.int .i64 stop] 3)).alloc (.cells #[.slice none 0 0] 38) := ⟨_, rfl⟩
  have hbel : Below w.heap.size w w0 := by
    rw [hw0]; exact ((Below.refl _ w).alloc (Nat.le_refl _) _).alloc (by simp <;> omega) _
  have hsz0 : w0.heap.size = w.heap.size + 2 := by rw [hw0]; simp
  have hb3 : Box w0 w.heap.size (.int .i64 stop) := by
    rw [hw0]; exact ⟨by go_simp, by go_simp, by simp <;> omega⟩
  have hb5 : Box w0 (w.heap.size + 1) (.slice none 0 0) := by
    rw [hw0]; exact ⟨by go_simp, by go_simp, by simp <;> omega⟩
  rw [← hw0]
  clear hw0
  refine wp_range (gf := gf) (lb := lb) rfl eg (hit.mono hbel) (fun A C D => KeepNat.trans) (fun A C => KeepNat.ext) rfl (by omega)
    (fun pre S W => ∃ v svs, (S = fun k => k = w.heap.size + 1 ∨ v.ownBlock = some k) ∧ Box W w.heap.size (.int .i64 stop) ∧ Box W (w.heap.size + 1) v ∧ Owns (w.heap.size + 2) 25 W v svs ∧ NatsAt W svs pre ∧ RowAll NotInt W v ∧
      Below w.heap.size w W ∧ (0 < stop → (pre.length : Int) < stop))
    (fun c pre S W => c = .exit 0 ∧ 0 < stop ∧ (pre.length : Int) = stop ∧ ∃ v svs, Box W (w.heap.size + 1) v ∧ Owns (w.heap.size + 2) 25 W v svs ∧ NatsAt W svs pre ∧ Below w.heap.size w W)
    ?_ ?_ (fun k => k = w.heap.size + 1) (fun k hk => ⟨by omega, by omega⟩) ?_
    (fun x a' W => ∃ b6 sv, Box W b6 sv ∧ NatIs W (.agg #[sv]) x ∧ a' = { tmps := #[.func (.func gf) #[] lb, .int .i64 stop, undef, .pointer (some ⟨w.heap.size, 0, none⟩), .slice none 0 0, .pointer (some ⟨w.heap.size + 1, 0, none⟩), .pointer (some ⟨b6, 0, none⟩), .func (.func gf) #[] lb, .agg #[sv], undef, undef, undef, undef, undef, undef, undef, undef, undef], defers := [] })
    ?_ ?assign ?body ?done ?stop
  case assign =>
    rintro l pre x v S W K hi hnv hpre hK
    obtain ⟨ao, ca, rfl, _, _, _, _⟩ := NatIs.open hnv
    gi_wp2
    have hb := (Below.refl _ W).alloc (Nat.le_refl _) (.cells #[Value.slice ao (limbs x).length ca] 25)
    refine hK _ _ hb ?_ ⟨W.heap.size, _, ⟨by go_simp, by go_simp, by simp⟩, NatIs.below hnv hb, rfl⟩
    obtain ⟨v', svs, rfl, hB3, hB5, hO, hN, hR, hB, hlt⟩ := hi
    exact ⟨v', svs, rfl, hB3.kept hb, hB5.kept hb, hO.ext (B := 0) (Ext.of_below hb), hN.keep (KeepNat.below hb), hR.below hb hO, hB.trans (hb.mono hB.size), hlt⟩
  case body =>
    rintro l pre x a' S W ⟨v, svs, rfl, hB3, hB5, hO, hN, hR, hB, hlt⟩ ⟨b6, sv, hB6, hn6, rfl⟩ hpre hS
    obtain ⟨ao, ca, hsv, _, _, _, _⟩ := hn6.open
    cases hsv
    have e3 := hB3.cell
    have e5 := hB5.cell
    have e6 := hB6.cell
    have f5 := hB5.free
    gi_wp2_with (gi_at_builtin; refine append1In ENat hO rfl rfl rfl rfl rfl (by have := hpre.length_le; have := hN.1; simp at *; omega) (by have := hpre.length_le; have := hN.1; simp only [maxLen]; simp at *; omega) (by have := hB5.lt; omega) ?_; intro v' w1 hO1 hb1 hg1 ho1 hp1; have hB31 := hB3.below hb1 (by omega); have hB51 := hB5.below hb1 (by omega); have e31 := hB31.cell; have e51 := hB51.cell; have f51 := hB51.free; have HO := Lib.hid hO1; have HO2 := Lib.hid ho1; have HP := Lib.hid hp1; obtain ⟨g, cap, rfl⟩ := owns_snoc hO1)
    all_goals
      have hv0 : NotInt v := by
        rcases hO.shape with ⟨rfl, _⟩ | ⟨_, _, rfl, _⟩ <;> (intro n e; cases e)
      have hft := grown_foot hg1 hB5.lt ho1 (.slice (some ⟨g, 0, none⟩) (svs.length + 1) cap)
      have hne : g ≠ w.heap.size + 1 := by have := (hO1.at_cells g rfl).1; omega
      have hkp : KeepNat W (w1.setCell ⟨w.heap.size + 1, 0, none⟩ (.slice (some ⟨g, 0, none⟩) (svs.length + 1) cap)) := keep_grown hg1 hR hB51 hv0
      have hgs := grownBy_set (grownBy_refl w1 (some (w.heap.size + 1))) 0 (.slice (some ⟨g, 0, none⟩) (svs.length + 1) cap)
      have hfin : Below w.heap.size w (w1.setCell ⟨w.heap.size + 1, 0, none⟩ (.slice (some ⟨g, 0, none⟩) (svs.length + 1) cap)) :=
        (hB.trans (hb1.mono (by omega))).setCell (p := ⟨w.heap.size + 1, 0, none⟩) (by simp) _
      have hO2 : Owns (w.heap.size + 2) 25 (w1.setCell ⟨w.heap.size + 1, 0, none⟩ (.slice (some ⟨g, 0, none⟩) (svs.length + 1) cap)) (.slice (some ⟨g, 0, none⟩) (svs.length + 1) cap) (svs ++ [.slice ao (limbs x).length ca]) :=
        hO1.of_block (fun k hk => by simp [Value.ownBlock] at hk; subst hk; exact hgs.block _ (hO1.at_cells _ rfl).2.1 (by simpa using hne))
      have hN2 := (hN.keep hkp).snoc (hkp _ _ hn6)
      have hlen := hN.1
    · refine ⟨_, ⟨rfl, ?_, ?_, _, hB51.set _, _, hO2, hN2, hfin⟩, hft⟩
      · rename_i hst
        have := eq_of_beq hst
        omega
      · rename_i hst
        have := eq_of_beq hst
        simp; omega
    · refine ⟨_, ⟨_, rfl, hB31.setOther (by omega) _ _, hB51.set _, _, hO2, hN2, ?_, hfin, ?_⟩, hft, ?_, hkp⟩
      · exact (HP.out NotInt hR (by intro n e; cases e) (by intro c hc n e; subst e; simp [Value.cells] at hc)).block (fun k hk => by simp [Value.ownBlock] at hk; subst hk; exact hgs.block _ (hO1.at_cells _ rfl).2.1 (by simpa using hne))
      · intro h0
        rename_i hst
        have h1 := hlt h0
        have h2 : ¬ ((svs.length : Int) + 1 = stop) := by
          intro e; rw [beq_eq_false_iff_ne] at hst; exact hst e
        simp; omega
      · intro k hk
        rcases hk with rfl | hk
        · simpa using hB51.lt
        · simp [Value.ownBlock] at hk
          subst hk
          simpa using (hO1.at_cells _ rfl).2.1
  case done =>
    rintro D S W hD ⟨v, svs, rfl, hB3, hB5, hO, hN, hR, hB, hlt⟩ hK
    have e5 := hB5.cell
    gi_wp2
    refine ⟨by simp, .inl ⟨_, _, rfl, run_takeDeferred hK, ?_⟩⟩
    have hx := ext_deferred hK
    have hfin : NatsIs (W.putObj D (.deferred none)) v xs := NatsIs.ext ⟨_, svs, hO, hN⟩ hx
    have hbf := below_ext hB hx (by omega) hB.size
    refine ⟨_, results_tmp rfl _ _ _, ⟨_, rfl, ?_, hbf⟩⟩
    unfold takeStop
    split
    · rename_i h0
      rw [List.take_of_length_le (by have := hlt h0; omega)]
      exact hfin
    · exact hfin
  case stop =>
    rintro D c pre S W hD hp ⟨rfl, h0, h1, v, svs, hB5, hO, hN, hB⟩ hK
    have e5 := hB5.cell
    gi_wp2
    refine ⟨by simp, .inl ⟨_, _, rfl, run_takeDeferred hK, ?_⟩⟩
    have hx := ext_deferred hK
    have hfin : NatsIs (W.putObj D (.deferred none)) v pre := NatsIs.ext ⟨_, svs, hO, hN⟩ hx
    have hbf := below_ext hB hx (by omega) hB.size
    refine ⟨_, results_tmp rfl _ _ _, ⟨_, rfl, ?_, hbf⟩⟩
    unfold takeStop
    rw [if_pos h0, show stop.toNat = pre.length by omega, List.take_eq_of_prefix hp]
    exact hfin
  · rintro pre S W W' ⟨v, svs, rfl, hB3, hB5, hO, hN, hR, hB, hlt⟩ hx
    exact ⟨v, svs, rfl, hB3.ext hx, hB5.ext hx, hO.ext hx, hN.keep (KeepNat.ext hx), hR.ext hx hO, below_ext hB hx (by omega) hB.size, hlt⟩
  · rintro c pre S W W' ⟨rfl, h0, h1, v, svs, hB5, hO, hN, hB⟩ hx
    exact ⟨rfl, h0, h1, v, svs, hB5.ext hx, hO.ext hx, hN.keep (KeepNat.ext hx), below_ext hB hx (by omega) hB.size⟩
  · exact ⟨.slice none 0 0, [], by funext k; simp [Value.ownBlock], hb3, hb5, Owns.nil _ _ _, NatsAt.nil _, fun g hg => by simp [Value.ownBlock] at hg, hbel, fun h => by simpa using h⟩
  · rintro x a' W W' ⟨b6, sv, hB6, hn, rfl⟩ hx
    exact ⟨b6, sv, hB6.ext hx, KeepNat.ext hx _ _ hn, rfl⟩
end Go.Proofs.YtegneoaoodddoaaDoor

/-
  The laws' own functions (2): alive.
-/
namespace Go.Proofs.YtegneoaoodddoaaDoor
open Go.RowKit Go.Shelf
set_option linter.unusedVariables false
set_option linter.unusedSimpArgs false
attribute [local go_sem] field_nat


theorem Iter.up {α : Type} {P : Program} {gf : Nat} {lb : Array Value} {Enc : World → Value → α → Prop} {xs : List α} {B B' : Nat} {Kp : World → World → Prop} {w w' : World} (h : Iter P gf lb Enc xs B Kp w) (hb : Below w.heap.size w w') (hB : B ≤ B') :
    Iter P gf lb Enc xs B' Kp w' := fun l J Jx S0 W1 hW hS => h l J Jx S0 W1 (hb.trans (hW.mono hb.size)) (fun k hk => ⟨Nat.le_trans hB (hS k hk).1, (hS k hk).2⟩)

theorem str_dec {l : List UInt8} (h : numOk l = true) : str (dec (dnum l)) = l := dec_dnum l h

theorem NatsIs.shape {W : World} {v : Value} {ns : List Nat} (h : NatsIs W v ns) : ∃ ao cap, v = .slice ao ns.length cap := by
  obtain ⟨base, svs, h1, h2⟩ := h
  rcases h1.shape with ⟨rfl, rfl⟩ | ⟨g, cap, rfl, _⟩
  · exact ⟨none, 0, by rw [← h2.1]; rfl⟩
  · exact ⟨_, cap, by rw [h2.1]⟩

theorem held1 {wr w1 w2 : World} {p : Addr} {u : Value} (hb : Below w1.heap.size w1 w2) (h : w1.cell? p = some u ∧ Below wr.heap.size wr w1) :
    w2.cell? p = some u ∧ Below wr.heap.size wr w2 :=
  ⟨(hb.cell (p := p) (World.block_lt_of_cell? w1 p h.1)).trans h.1, h.2.trans (hb.mono h.2.size)⟩
theorem held1_nat {wr w1 : World} {p : Addr} {u x : Value} {n : Nat} (hn : NatIs wr x n) (h : w1.cell? p = some u ∧ Below wr.heap.size wr w1) : NatIs w1 x n := hn.below h.2

theorem limbs_small {n : Nat} (h : n < 4294967296) : (limbs n).length ≤ 100000000 := Nat.le_trans (limbs_length_le (k := 1) (by omega)) (by omega)

/-- Twenty nines. -/
def nines20 : List UInt8 := [57, 57, 57, 57, 57, 57, 57, 57, 57, 57, 57, 57, 57, 57, 57, 57, 57, 57, 57, 57]

set_option maxRecDepth 100000 in
/-- Halves hands back an iterator. -/
theorem halves_any (va : Value) (a : Nat) (w : World) (ha : NatIs w va a) (hla : (limbs a).length ≤ 1000000) :
    Calls Tryd.prog 23 #[va] w fun e w' => ∃ b, e = .returned (.func (.func 54) #[] #[.pointer (some ⟨b, 0, none⟩)]) ∧
      Iter Tryd.prog 54 #[.pointer (some ⟨b, 0, none⟩)] NatIs (halvesL a) w'.heap.size KeepNat w' ∧ Below w.heap.size w w' := by
  obtain ⟨ao, ca, rfl, ha1, ha2, ha3, ha4⟩ := ha.open
  go_enter Tryd.func23, Tryd.ntmps23
  go_wp2
  go_ret
  have hb : Below w.heap.size w (w.alloc (.cells #[.slice ao (limbs a).length ca] 25)) := (Below.refl _ w).alloc (Nat.le_refl _) _
  exact ⟨w.heap.size, rfl, halves1_iter _ a w.heap.size _ _ (ha.below hb) hla (by go_simp) (by simp) (Nat.le_refl _), hb⟩

theorem enters_halves1 : ∀ args w, (callFunc 54 args).run Tryd.prog w = .ok (.enter 54 args) w := enters_of Tryd.func54 (by kernel_rfl) rfl

theorem eq_nilfunc (w : World) (f : FuncId) (rs cs : Array Value) : (binOp .eql 47 (.func (.func f) rs cs) .nilFunc).run Tryd.prog w = .ok (.bool false) w := by kernel_rfl

attribute [local go_sem] eq_nilfunc
set_option maxRecDepth 100000 in
set_option maxHeartbeats 1000000 in
theorem alive_any (w : World) : Calls Tryd.prog 10 #[] w fun e w' => e = .returned (.bool true) ∧ Below w.heap.size w w' := by
  go_enter Tryd.func10, Tryd.ntmps10
  go_wp2_with fail
  refine (parse_any nines20 w (by decide)).mono ?_
  rintro e w1 ⟨r, rfl, hn1, hb1⟩
  have hc : pcode nines20 = 0 := by decide
  have hv : pval nines20 = 99999999999999999999 := by decide
  obtain ⟨A, hA⟩ : ∃ A, A = pval nines20 := ⟨_, rfl⟩
  rw [← hA] at hn1
  have hA2 : A = 99999999999999999999 := hA.trans hv
  have hAl : (limbs A).length ≤ 3 := limbs_length_le (by omega)
  have HA := Lib.hid hA2
  clear hA2
  rw [hc]
  clear hc hv hA
  obtain ⟨ao, ca, rfl, _, _, _, _⟩ := hn1.open
  obtain ⟨w2, hw2⟩ : ∃ w2, w2 = w1.alloc (.cells #[Value.slice ao (limbs A).length ca] 25) := ⟨_, rfl⟩
  have hbx : Box w2 w1.heap.size (Value.slice ao (limbs A).length ca) := by rw [hw2]; exact ⟨by go_simp, by go_simp, by simp⟩
  have hb12 : Below w1.heap.size w1 w2 := by rw [hw2]; exact (Below.refl _ w1).alloc (Nat.le_refl _) _
  have hb2 : Below w.heap.size w w2 := hb1.trans (hb12.mono hb1.size)
  have hn2 := hn1.below hb12
  have HW := Lib.hid hw2; clear hw2
  go_wp2_with fail
  rw [← HW.out]
  refine (of_any 6 w2 (by omega)).mono ?_
  rintro e w3 ⟨r, rfl, hn6, hb3⟩
  go_wp2_with fail
  refine (halves_any r 6 w3 hn6 (Nat.le_trans (limbs_length_le (k := 1) (by omega)) (by omega))).mono ?_
  rintro e w4 ⟨b, rfl, hit, hb4⟩
  have hbx4 := (hbx.kept hb3).kept hb4
  have hb24 := hb3.trans (hb4.mono hb3.size)
  go_wp2_with fail
  refine (halves_list _ _ (halvesL 6) 0 w4 hit enters_halves1 (by rw [halvesL_length]; exact Nat.le_trans (blen_le (k := 3) (by omega)) (by omega)) (by omega) (by omega)).mono ?_
  rintro e w5 ⟨v5, rfl, hv5, hb5⟩
  have h3 : (takeStop (halvesL 6) 0).length = 3 := by
    unfold takeStop
    rw [if_neg (by omega), halvesL_length]
    exact blen_unique (by omega) (by omega)
  obtain ⟨o5, c5, rfl⟩ := hv5.shape
  rw [h3]
  clear h3
  have hbx5 := hbx4.kept hb5
  have hb25 := hb24.trans (hb5.mono hb24.size)
  go_wp2_with fail
  refine (of_any 7 w5 (by omega)).mono ?_
  rintro e w6 ⟨r, rfl, hn7, hb6⟩
  go_wp2_with fail
  refine (small_any r 7 w6 hn7 (Nat.le_trans (limbs_length_le (k := 1) (by omega)) (by omega))).mono ?_
  rintro e w7 ⟨rfl, hb7⟩
  have hbx7 := (hbx5.kept hb6).kept hb7
  have hb67 := hb6.trans (hb7.mono hb6.size)
  have hb27 := hb25.trans (hb67.mono hb25.size)
  have hn9 := hn2.below hb27
  have e7 := hbx7.cell
  have s1 : smallV 7 = 7 := by decide
  have s2 : smallB 7 = true := by decide
  rw [s1, s2]
  clear s1 s2
  have hAm : (limbs (A * 10)).length ≤ 100000 := Nat.le_trans (limbs_length_le (k := 3) (by have := HA.out; omega)) (by omega)
  have hT : str (dec (A * 10)) = nines20 ++ [48] := by
    have h1 : A * 10 = dnum (nines20 ++ [48]) := by rw [HA.out]; decide
    rw [h1]; exact str_dec (by decide)
  have HT := Lib.hid hT; clear hT
  have hB : blen 6 = 3 := blen_unique (by omega) (by omega)
  have HB := Lib.hid hB; clear hB
  go_wp2_with fail
  go_region_held3 (fun w' => w'.cell? ⟨w1.heap.size, 0, none⟩ = some (Value.slice ao (limbs A).length ca) ∧ Below w7.heap.size w7 w')
    (first | assumption | exact ⟨e7, (Below.refl _ _).drew⟩)
    (first
      | (go_at_call_of 16 (Value.int IntKind.u64 10); refine (of_any 10 _ (by omega)).mono ?_; rintro e w' ⟨r10, rfl, hn10, hb'⟩; have hS := held1 hb' (by assumption))
      | (go_at_call 36; refine (mul_any _ _ A 10 _ (held1_nat hn9 (by assumption)) (by assumption) (by omega) (limbs_small (by omega))).mono ?_; rintro e w' ⟨rm, rfl, hnm, hb'⟩; have hS := held1 hb' (by assumption))
      | (go_at_call 13; refine (text_any _ _ _ (by assumption) hAm).mono ?_; rintro e w' ⟨rfl, hb'⟩; rw [HT.out]; have hS := held1 hb' (by assumption))
      | (go_at_call_of 16 (Value.int IntKind.u64 6); refine (of_any 6 _ (by omega)).mono ?_; rintro e w' ⟨r6, rfl, hn6', hb'⟩; have hS := held1 hb' (by assumption))
      | (go_at_call 37; refine (bits_any _ 6 _ (by assumption) (limbs_small (by omega))).mono ?_; rintro e w' ⟨rfl, hb'⟩; rw [HB.out]; have hS := held1 hb' (by assumption)))
  go_wp2
  go_ret
  exact ⟨rfl, (hb2.trans (hb27.mono hb2.size)).trans (hS.2.mono (hb2.trans (hb27.mono hb2.size)).size)⟩
end Go.Proofs.YtegneoaoodddoaaDoor
