/-
  The laws' own functions (1): halves: what an iterator tells, as a list.
-/
import Derived.Test.YtegneoaoodddoaaDoorNatM
import Derived.Test.YtegneoaoodddoaaDoorRangeB
namespace Go.Proofs.YtegneoaoodddoaaDoor
open Go.RowKit Go.Shelf
set_option linter.unusedVariables false
set_option linter.unusedSimpArgs false
attribute [local go_sem] Oper.semAt_some

/-- Cells that read as these numbers. -/
def NatsAt (W : World) (svs : List Value) (ns : List Nat) : Prop := svs.length = ns.length ∧ ∀ (i : Nat) (sv : Value), svs[i]? = some sv → ∃ n, ns[i]? = some n ∧ NatIs W (.agg #[sv]) n
theorem NatsAt.nil (W : World) : NatsAt W [] [] := ⟨rfl, fun i sv h => by simp at h⟩
theorem NatsAt.keep {W W' : World} {svs : List Value} {ns : List Nat} (h : NatsAt W svs ns) (hk : KeepNat W W') : NatsAt W' svs ns :=
  ⟨h.1, fun i sv hi => by obtain ⟨n, h1, h2⟩ := h.2 i sv hi; exact ⟨n, h1, hk _ _ h2⟩⟩
theorem NatsAt.snoc {W : World} {svs : List Value} {ns : List Nat} {sv : Value} {n : Nat} (h : NatsAt W svs ns) (hn : NatIs W (.agg #[sv]) n) : NatsAt W (svs ++ [sv]) (ns ++ [n]) := by
  refine ⟨by simp [h.1], fun i u hi => ?_⟩
  by_cases hlt : i < svs.length
  · rw [List.getElem?_append_left hlt] at hi
    obtain ⟨m, h1, h2⟩ := h.2 i u hi
    exact ⟨m, by rw [List.getElem?_append_left (by rw [← h.1]; exact hlt)]; exact h1, h2⟩
  · have hie : i = svs.length := by
      have := (List.getElem?_eq_some_iff.1 hi).1
      simp at this; omega
    subst hie
    simp at hi
    subst hi
    exact ⟨n, by rw [h.1]; simp, hn⟩

/-- A list of numbers in memory. -/
def NatsIs (W : World) (v : Value) (ns : List Nat) : Prop := ∃ base svs, Owns base 25 W v svs ∧ NatsAt W svs ns

theorem Owns.of_block {base : Nat} {e : TypeId} {w w' : World} {v : Value} {xs : List Value} (h : Owns base e w v xs) (hb : ∀ g, v.ownBlock = some g → w'.heap[g]? = w.heap[g]?) : Owns base e w' v xs := by
  refine ⟨h.1, ?_⟩
  rcases h.2 with h1 | ⟨g, cap, cur, rfl, h2, h3, h4⟩
  · exact .inl h1
  · exact .inr ⟨g, cap, cur, rfl, h2, (hb g rfl).trans h3, h4⟩
theorem Owns.ext {B base : Nat} {e : TypeId} {w w' : World} {v : Value} {xs : List Value} (h : Owns base e w v xs) (hx : Ext B w w') : Owns base e w' v xs := by
  refine ⟨h.1, ?_⟩
  rcases h.2 with h1 | ⟨g, cap, cur, rfl, h2, h3, h4⟩
  · exact .inl h1
  · exact .inr ⟨g, cap, cur, rfl, h2, hx.cells _ _ h3 rfl, h4⟩
theorem NatsIs.ext {B : Nat} {W W' : World} {v : Value} {ns : List Nat} (h : NatsIs W v ns) (hx : Ext B W W') : NatsIs W' v ns := by
  obtain ⟨base, svs, h1, h2⟩ := h
  exact ⟨base, svs, h1.ext hx, h2.keep (KeepNat.ext hx)⟩
theorem NatsIs.below {W W' : World} {v : Value} {ns : List Nat} (h : NatsIs W v ns) (hx : Below W.heap.size W W') : NatsIs W' v ns := h.ext (B := 0) (Ext.of_below hx)
theorem below_ext {B D : Nat} {w W W' : World} (h : Below B w W) (hx : Ext D W W') (hD : B ≤ D) (hBw : B ≤ W.heap.size) : Below B w W' :=
  ⟨hx.os.trans h.os, hx.tape.trans h.tape, hx.output.trans h.output, Nat.le_trans h.size hx.size, fun k hk => (hx.low k (by omega) (by omega)).trans (h.block k hk)⟩
theorem Iter.mono {α : Type} {P : Program} {gf : Nat} {lb : Array Value} {Enc : World → Value → α → Prop} {xs : List α} {B : Nat} {Kp : World → World → Prop} {w w' : World} (h : Iter P gf lb Enc xs B Kp w) (hb : Below w.heap.size w w') :
    Iter P gf lb Enc xs B Kp w' := fun l J Jx S0 W1 hW => h l J Jx S0 W1 (hb.trans (hW.mono hb.size))

/-- A row that an append has made, and the box into which it goes: what lies elsewhere lies on. -/
theorem grown_foot {W w1 : World} {bx : Nat} {v v' : Value} (hg : W.grownBy w1 v.ownBlock) (hlt : bx < W.heap.size) (ho : ∀ g, v'.ownBlock = some g → v.ownBlock = some g ∨ W.heap.size ≤ g) (u : Value) :
    Foot (fun k => k = bx ∨ v.ownBlock = some k) (fun k => k = bx ∨ v'.ownBlock = some k) W (w1.setCell ⟨bx, 0, none⟩ u) where
  os := hg.os
  tape := hg.tape
  output := hg.output
  size := by simpa using hg.size
  same k hk hs := by
    have h1 : k ≠ bx := fun e => hs (.inl e)
    have h2 : ¬ (some k = v.ownBlock) := fun e => hs (.inr e.symm)
    have := (grownBy_set (grownBy_refl w1 (some bx)) 0 u).block k (Nat.lt_of_lt_of_le hk hg.size) (by simpa using h1)
    exact this.trans (hg.block k hk h2)
  fresh k h := by
    rcases h with h | h
    · exact .inl (.inl h)
    · rcases ho k h with h1 | h1
      · exact .inl (.inr h1)
      · exact .inr h1

theorem Tryd.info25 : (Tryd.prog.info? 25).map (fun i => (i.zero, i.size, i.bytes)) = some (some (.agg #[.slice none 0 0]), 1, 24) := by kernel_rfl
theorem ENat : Elem Tryd.prog 38 25 (.agg #[.slice none 0 0]) 24 := elem_of Tryd.underlying38 Tryd.info25 rfl

theorem owns_snoc {base : Nat} {e : TypeId} {w : World} {v u : Value} {xs : List Value} (h : Owns base e w v (xs ++ [u])) : ∃ g cap, v = .slice (some ⟨g, 0, none⟩) (xs.length + 1) cap := by
  rcases h.shape with ⟨_, h1⟩ | ⟨g, cap, h1, _⟩
  · simp at h1
  · exact ⟨g, cap, by rw [h1]; simp⟩

/-- No limb. -/
def NotInt (c : Value) : Prop := ∀ n, c ≠ .int .u32 n
theorem RowAll.block {p : Value → Prop} {W W' : World} {v : Value} (h : RowAll p W v) (hb : ∀ g, v.ownBlock = some g → W'.heap[g]? = W.heap[g]?) : RowAll p W' v :=
  fun g hg j c hc => h g hg j c ((World.cell?_of_block (a := ⟨g, j, none⟩) (hb g hg)).symm.trans hc)
theorem Owns.at_cells {base : Nat} {e : TypeId} {w : World} {v : Value} {xs : List Value} (h : Owns base e w v xs) : ∀ g, v.ownBlock = some g → base ≤ g ∧ g < w.heap.size ∧ ∃ o : Obj, w.heap[g]? = some o ∧ o.isCells = true := by
  intro g hg
  rcases h.2 with ⟨rfl, _⟩ | ⟨g', cap, cur, rfl, h2, h3, h4⟩
  · simp [Value.ownBlock] at hg
  · simp [Value.ownBlock] at hg
    subst hg
    exact ⟨h2, (Array.getElem?_eq_some_iff.1 h3).1, _, h3, rfl⟩
theorem RowAll.ext {p : Value → Prop} {B base : Nat} {e : TypeId} {W W' : World} {v : Value} {xs : List Value} (h : RowAll p W v) (hx : Ext B W W') (hO : Owns base e W v xs) : RowAll p W' v :=
  h.block fun g hg => by obtain ⟨_, _, o, h1, h2⟩ := hO.at_cells g hg; rw [h1]; exact hx.cells _ _ h1 h2
theorem RowAll.below {p : Value → Prop} {base : Nat} {e : TypeId} {W W' : World} {v : Value} {xs : List Value} (h : RowAll p W v) (hb : Below W.heap.size W W') (hO : Owns base e W v xs) : RowAll p W' v := h.ext (B := 0) (Ext.of_below hb) hO

theorem List.take_eq_of_prefix {α : Type} {a b : List α} (h : a <+: b) : b.take a.length = a := by
  obtain ⟨t, rfl⟩ := h
  simp
theorem keep_grown {W w1 : World} {bx : Nat} {v b0 u : Value} (hg : W.grownBy w1 v.ownBlock) (ha : RowAll NotInt W v) (hB1 : Box w1 bx b0) (h0 : NotInt b0) : KeepNat W (w1.setCell ⟨bx, 0, none⟩ u) := by
  have h1 : KeepNat W w1 := by
    refine KeepNat.of_cells hg.size ?_
    intro p n hp
    refine hg.cell hp ?_
    intro e
    obtain ⟨blk, off, spot⟩ := p
    have : spot = none := by
      unfold World.cell? at hp
      split at hp
      · cases spot with
        | none => rfl
        | some x => simp at hp
      · cases hp
    subst this
    exact ha blk e.symm off _ hp n rfl
  exact fun v' n hn => (h1 v' n hn).set _ _ (fun n e => by rw [hB1.cell] at e; exact h0 n (by injection e))

theorem ext_deferred {W : World} {D : Nat} (hD : W.heap[D]? = some (.deferred (some []))) : Ext D W (W.putObj D (.deferred none)) := Ext.put (Nat.le_refl _) hD rfl

def takeStop (xs : List Nat) (stop : Int) : List Nat := if 0 < stop then xs.take stop.toNat else xs

set_option maxRecDepth 100000 in
set_option maxHeartbeats 1000000 in
theorem halves_list (gf : Nat) (lb : Array Value) (xs : List Nat) (stop : Int) (w : World) (hit : Iter Tryd.prog gf lb NatIs xs w.heap.size KeepNat w) (eg : ∀ args w, (callFunc gf args).run Tryd.prog w = .ok (.enter gf args) w)
    (hl : xs.length ≤ 1000000000) (hs0 : -9223372036854775808 ≤ stop) (hs1 : stop ≤ 9223372036854775807) :
    Calls Tryd.prog 25 #[.func (.func gf) #[] lb, .int .i64 stop] w fun e w' => ∃ v, e = .returned v ∧ NatsIs w' v (takeStop xs stop) ∧ Below w.heap.size w w' := by
  refine (callsIn_wide (n := 0)).1 ?_
  refine callsIn_of_wp_marks Tryd.func25 rfl (by trivial) ?_ rfl
  simp only [Tryd.ntmps25, List.size_toArray, List.length_cons, List.length_nil, Nat.reduceAdd, Nat.reduceSub, Array.replicate_succ, Array.replicate_zero, List.push_toArray, List.append_toArray, List.nil_append, List.cons_append]
  gi_wp2_with fail
  obtain ⟨w0, hw0⟩ : ∃ w0, w0 = (w.alloc (.cells #[.int .i64 stop] 3)).alloc (.cells #[.slice none 0 0] 38) := ⟨_, rfl⟩
  have hbel : Below w.heap.size w w0 := by
    rw [hw0]; exact ((Below.refl _ w).alloc (Nat.le_refl _) _).alloc (by simp <;> omega) _
  have hsz0 : w0.heap.size = w.heap.size + 2 := by rw [hw0]; simp
  have hb3 : Box w0 w.heap.size (.int .i64 stop) := by
    rw [hw0]; exact ⟨by go_simp, by go_simp, by simp <;> omega⟩
  have hb5 : Box w0 (w.heap.size + 1) (.slice none 0 0) := by
    rw [hw0]; exact ⟨by go_simp, by go_simp, by simp <;> omega⟩
  rw [← hw0]
  clear hw0
  refine wp_range (gf := gf) (lb := lb) rfl eg (hit.mono hbel) (fun A C D => KeepNat.trans) (fun A C => KeepNat.ext) rfl (by omega)
    (fun pre S W => ∃ v svs, (S = fun k => k = w.heap.size + 1 ∨ v.ownBlock = some k) ∧ Box W w.heap.size (.int .i64 stop) ∧ Box W (w.heap.size + 1) v ∧ Owns (w.heap.size + 2) 25 W v svs ∧ NatsAt W svs pre ∧ RowAll NotInt W v ∧
      Below w.heap.size w W ∧ (0 < stop → (pre.length : Int) < stop))
    (fun c pre S W => c = .exit 0 ∧ 0 < stop ∧ (pre.length : Int) = stop ∧ ∃ v svs, Box W (w.heap.size + 1) v ∧ Owns (w.heap.size + 2) 25 W v svs ∧ NatsAt W svs pre ∧ Below w.heap.size w W)
    ?_ ?_ (fun k => k = w.heap.size + 1) (fun k hk => ⟨by omega, by omega⟩) ?_
    (fun x a' W => ∃ b6 sv, Box W b6 sv ∧ NatIs W (.agg #[sv]) x ∧ a' = { tmps := #[.func (.func gf) #[] lb, .int .i64 stop, undef, .pointer (some ⟨w.heap.size, 0, none⟩), .slice none 0 0, .pointer (some ⟨w.heap.size + 1, 0, none⟩), .pointer (some ⟨b6, 0, none⟩), .func (.func gf) #[] lb, .agg #[sv], undef, undef, undef, undef, undef, undef, undef, undef, undef], defers := [] })
    ?_ ?assign ?body ?done ?stop
  case assign =>
    rintro l pre x v S W K hi hnv hpre hK
    obtain ⟨ao, ca, rfl, _, _, _, _⟩ := NatIs.open hnv
    gi_wp2
    have hb := (Below.refl _ W).alloc (Nat.le_refl _) (.cells #[Value.slice ao (limbs x).length ca] 25)
    refine hK _ _ hb ?_ ⟨W.heap.size, _, ⟨by go_simp, by go_simp, by simp⟩, NatIs.below hnv hb, rfl⟩
    obtain ⟨v', svs, rfl, hB3, hB5, hO, hN, hR, hB, hlt⟩ := hi
    exact ⟨v', svs, rfl, hB3.kept hb, hB5.kept hb, hO.ext (B := 0) (Ext.of_below hb), hN.keep (KeepNat.below hb), hR.below hb hO, hB.trans (hb.mono hB.size), hlt⟩
  case body =>
    rintro l pre x a' S W ⟨v, svs, rfl, hB3, hB5, hO, hN, hR, hB, hlt⟩ ⟨b6, sv, hB6, hn6, rfl⟩ hpre hS
    obtain ⟨ao, ca, hsv, _, _, _, _⟩ := hn6.open
    cases hsv
    have e3 := hB3.cell
    have e5 := hB5.cell
    have e6 := hB6.cell
    have f5 := hB5.free
    gi_wp2_with (gi_at_builtin; refine append1In ENat hO rfl rfl rfl rfl rfl (by have := hpre.length_le; have := hN.1; simp at *; omega) (by have := hpre.length_le; have := hN.1; simp only [maxLen]; simp at *; omega) (by have := hB5.lt; omega) ?_; intro v' w1 hO1 hb1 hg1 ho1 hp1; have hB31 := hB3.below hb1 (by omega); have hB51 := hB5.below hb1 (by omega); have e31 := hB31.cell; have e51 := hB51.cell; have f51 := hB51.free; have HO := Lib.hid hO1; have HO2 := Lib.hid ho1; have HP := Lib.hid hp1; obtain ⟨g, cap, rfl⟩ := owns_snoc hO1)
    all_goals
      have hv0 : NotInt v := by
        rcases hO.shape with ⟨rfl, _⟩ | ⟨_, _, rfl, _⟩ <;> (intro n e; cases e)
      have hft := grown_foot hg1 hB5.lt ho1 (.slice (some ⟨g, 0, none⟩) (svs.length + 1) cap)
      have hne : g ≠ w.heap.size + 1 := by have := (hO1.at_cells g rfl).1; omega
      have hkp : KeepNat W (w1.setCell ⟨w.heap.size + 1, 0, none⟩ (.slice (some ⟨g, 0, none⟩) (svs.length + 1) cap)) := keep_grown hg1 hR hB51 hv0
      have hgs := grownBy_set (grownBy_refl w1 (some (w.heap.size + 1))) 0 (.slice (some ⟨g, 0, none⟩) (svs.length + 1) cap)
      have hfin : Below w.heap.size w (w1.setCell ⟨w.heap.size + 1, 0, none⟩ (.slice (some ⟨g, 0, none⟩) (svs.length + 1) cap)) :=
        (hB.trans (hb1.mono (by omega))).setCell (p := ⟨w.heap.size + 1, 0, none⟩) (by simp) _
      have hO2 : Owns (w.heap.size + 2) 25 (w1.setCell ⟨w.heap.size + 1, 0, none⟩ (.slice (some ⟨g, 0, none⟩) (svs.length + 1) cap)) (.slice (some ⟨g, 0, none⟩) (svs.length + 1) cap) (svs ++ [.slice ao (limbs x).length ca]) :=
        hO1.of_block (fun k hk => by simp [Value.ownBlock] at hk; subst hk; exact hgs.block _ (hO1.at_cells _ rfl).2.1 (by simpa using hne))
      have hN2 := (hN.keep hkp).snoc (hkp _ _ hn6)
      have hlen := hN.1
    · refine ⟨_, ⟨rfl, ?_, ?_, _, hB51.set _, _, hO2, hN2, hfin⟩, hft⟩
      · rename_i hst
        have := eq_of_beq hst
        omega
      · rename_i hst
        have := eq_of_beq hst
        simp; omega
    · refine ⟨_, ⟨_, rfl, hB31.setOther (by omega) _ _, hB51.set _, _, hO2, hN2, ?_, hfin, ?_⟩, hft, ?_, hkp⟩
      · exact (HP.out NotInt hR (by intro n e; cases e) (by intro c hc n e; subst e; simp [Value.cells] at hc)).block (fun k hk => by simp [Value.ownBlock] at hk; subst hk; exact hgs.block _ (hO1.at_cells _ rfl).2.1 (by simpa using hne))
      · intro h0
        rename_i hst
        have h1 := hlt h0
        have h2 : ¬ ((svs.length : Int) + 1 = stop) := by
          intro e; rw [beq_eq_false_iff_ne] at hst; exact hst e
        simp; omega
      · intro k hk
        rcases hk with rfl | hk
        · simpa using hB51.lt
        · simp [Value.ownBlock] at hk
          subst hk
          simpa using (hO1.at_cells _ rfl).2.1
  case done =>
    rintro D S W hD ⟨v, svs, rfl, hB3, hB5, hO, hN, hR, hB, hlt⟩ hK
    have e5 := hB5.cell
    gi_wp2
    refine ⟨by simp, .inl ⟨_, _, rfl, run_takeDeferred hK, ?_⟩⟩
    have hx := ext_deferred hK
    have hfin : NatsIs (W.putObj D (.deferred none)) v xs := NatsIs.ext ⟨_, svs, hO, hN⟩ hx
    have hbf := below_ext hB hx (by omega) hB.size
    refine ⟨_, results_tmp rfl _ _ _, ⟨_, rfl, ?_, hbf⟩⟩
    unfold takeStop
    split
    · rename_i h0
      rw [List.take_of_length_le (by have := hlt h0; omega)]
      exact hfin
    · exact hfin
  case stop =>
    rintro D c pre S W hD hp ⟨rfl, h0, h1, v, svs, hB5, hO, hN, hB⟩ hK
    have e5 := hB5.cell
    gi_wp2
    refine ⟨by simp, .inl ⟨_, _, rfl, run_takeDeferred hK, ?_⟩⟩
    have hx := ext_deferred hK
    have hfin : NatsIs (W.putObj D (.deferred none)) v pre := NatsIs.ext ⟨_, svs, hO, hN⟩ hx
    have hbf := below_ext hB hx (by omega) hB.size
    refine ⟨_, results_tmp rfl _ _ _, ⟨_, rfl, ?_, hbf⟩⟩
    unfold takeStop
    rw [if_pos h0, show stop.toNat = pre.length by omega, List.take_eq_of_prefix hp]
    exact hfin
  · rintro pre S W W' ⟨v, svs, rfl, hB3, hB5, hO, hN, hR, hB, hlt⟩ hx
    exact ⟨v, svs, rfl, hB3.ext hx, hB5.ext hx, hO.ext hx, hN.keep (KeepNat.ext hx), hR.ext hx hO, below_ext hB hx (by omega) hB.size, hlt⟩
  · rintro c pre S W W' ⟨rfl, h0, h1, v, svs, hB5, hO, hN, hB⟩ hx
    exact ⟨rfl, h0, h1, v, svs, hB5.ext hx, hO.ext hx, hN.keep (KeepNat.ext hx), below_ext hB hx (by omega) hB.size⟩
  · exact ⟨.slice none 0 0, [], by funext k; simp [Value.ownBlock], hb3, hb5, Owns.nil _ _ _, NatsAt.nil _, fun g hg => by simp [Value.ownBlock] at hg, hbel, fun h => by simpa using h⟩
  · rintro x a' W W' ⟨b6, sv, hB6, hn, rfl⟩ hx
    exact ⟨b6, sv, hB6.ext hx, KeepNat.ext hx _ _ hn, rfl⟩
end Go.Proofs.YtegneoaoodddoaaDoor
