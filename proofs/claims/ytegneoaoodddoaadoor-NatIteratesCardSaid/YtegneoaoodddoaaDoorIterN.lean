/-
  nat: Sum; the laws' each: iterators over rows of numbers.
-/
import Derived.Test.YtegneoaoodddoaaDoorNatN4
import Derived.Test.YtegneoaoodddoaaDoorLawN
namespace Go.Proofs.YtegneoaoodddoaaDoor
open Go.RowKit Go.Shelf
set_option linter.unusedVariables false
set_option linter.unusedSimpArgs false
attribute [local go_sem] Oper.semAt_some field_nat

theorem Foot.set {S : Nat → Prop} {W : World} (p : Addr) (u : Value) (hp : S p.block) : Foot S S W (W.setCell p u) :=
  ⟨rfl, rfl, rfl, by simp [World.setCell], fun k hk hs => Below.heap_setCell _ _ _ _ (fun e => hs (e ▸ hp)), fun _ h => .inl h⟩
theorem KeepNat.set {W : World} {p : Addr} {u v : Value} (hc : W.cell? p = some v) (hv : ∀ n, v ≠ .int .u32 n) : KeepNat W (W.setCell p u) := fun x n hn => hn.set _ _ (fun m e => by rw [hc] at e; exact hv m (by injection e))

set_option maxRecDepth 100000 in
set_option maxHeartbeats 1000000 in
/-- Sum adds what an iterator tells. -/
theorem sum_any (gf : Nat) (lb : Array Value) (xs : List Nat) (w : World) (hit : Iter Tryd.prog gf lb NatIs xs w.heap.size KeepNat w) (eg : ∀ args w, (callFunc gf args).run Tryd.prog w = .ok (.enter gf args) w)
    (en : ∀ w, (binOp .eql 47 (.func (.func gf) #[] lb) .nilFunc).run Tryd.prog w = .ok (.bool false) w)
    (hx : ∀ x ∈ xs, (limbs x).length ≤ 100000000) (hs : ∀ pre, pre <+: xs → (limbs pre.sum).length ≤ 100000000) :
    Calls Tryd.prog 21 #[.func (.func gf) #[] lb] w fun e w' => ∃ r, e = .returned r ∧ NatIs w' r xs.sum ∧ Below w.heap.size w w' := by
  refine (callsIn_wide (n := 0)).1 ?_
  refine callsIn_of_wp_marks Tryd.func21 rfl (by trivial) ?_ rfl
  simp only [Tryd.ntmps21, List.size_toArray, List.length_cons, List.length_nil, Nat.reduceAdd, Nat.reduceSub, Array.replicate_succ, Array.replicate_zero, List.push_toArray, List.append_toArray, List.nil_append, List.cons_append]
  gi_wp2_with fail
  obtain ⟨w0, hw0⟩ : ∃ w0, w0 = (w.alloc (.cells #[.slice none 0 0] 25)).alloc (.cells #[.slice none 0 0] 25) := ⟨_, rfl⟩
  have hbel : Below w.heap.size w w0 := by
    rw [hw0]; exact ((Below.refl _ w).alloc (Nat.le_refl _) _).alloc (by simp <;> omega) _
  have hsz0 : w0.heap.size = w.heap.size + 2 := by rw [hw0]; simp
  have hb2 : Box w0 w.heap.size (.slice none 0 0) := by
    rw [hw0]; exact ⟨by go_simp, by go_simp, by simp <;> omega⟩
  have hb3 : Box w0 (w.heap.size + 1) (.slice none 0 0) := by
    rw [hw0]; exact ⟨by go_simp, by go_simp, by simp <;> omega⟩
  rw [← hw0]
  clear hw0
  refine wp_range (gf := gf) (lb := lb) rfl eg (hit.mono hbel) (fun A C D => KeepNat.trans) (fun A C => KeepNat.ext) rfl (by omega)
    (fun pre S W => ∃ (oo : Option Addr) (ol oc : Nat), (S = fun k => k = w.heap.size + 1) ∧ Box W w.heap.size (.slice none 0 0) ∧ Box W (w.heap.size + 1) (.slice oo ol oc) ∧ NatIs W (.agg #[.slice oo ol oc]) pre.sum ∧ Below w.heap.size w W)
    (fun c pre S W => False)
    ?_ ?_ (fun k => k = w.heap.size + 1) (fun k hk => ⟨by omega, by omega⟩) ?_
    (fun x a' W => ∃ b4 sv, Box W b4 sv ∧ NatIs W (.agg #[sv]) x ∧ a' = { tmps := #[.func (.func gf) #[] lb, undef, .pointer (some ⟨w.heap.size, 0, none⟩), .pointer (some ⟨w.heap.size + 1, 0, none⟩), .pointer (some ⟨b4, 0, none⟩), .func (.func gf) #[] lb, .bool false, undef, .func (.func gf) #[] lb, .agg #[sv], undef, undef, undef, undef], defers := [] })
    ?_ ?assign ?body ?done ?stop
  case assign =>
    rintro l pre x v S W K hi hnv hpre hK
    obtain ⟨ao, ca, rfl, _, _, _, _⟩ := NatIs.open hnv
    gi_wp2
    have hb := (Below.refl _ W).alloc (Nat.le_refl _) (.cells #[Value.slice ao (limbs x).length ca] 25)
    refine hK _ _ hb ?_ ⟨W.heap.size, _, ⟨by go_simp, by go_simp, by simp⟩, NatIs.below hnv hb, rfl⟩
    obtain ⟨oo, ol, oc, rfl, hB2, hB3, hN, hB⟩ := hi
    exact ⟨oo, ol, oc, rfl, hB2.kept hb, hB3.kept hb, hN.below hb, hB.trans (hb.mono hB.size)⟩
  case body =>
    rintro l pre x a' S W ⟨oo, ol, oc, rfl, hB2, hB3, hN, hB⟩ ⟨b4, sv, hB4, hn4, rfl⟩ hpre hS
    obtain ⟨ao, ca, hsv, _, _, _, _⟩ := hn4.open
    cases hsv
    have e3 := hB3.cell
    have e4 := hB4.cell
    have hxl : (limbs x).length ≤ 100000000 := hx x (hpre.subset (by simp))
    have hpl : (limbs pre.sum).length ≤ 100000000 := hs pre ((List.prefix_append _ _).trans hpre)
    have hsum : pre.sum + x = (pre ++ [x]).sum := by simp
    have HSUM := Lib.hid hsum
    clear hsum
    gi_wp2_with fail
    refine ⟨trivial, rfl, callsIn_wide.2 ((add_any _ _ pre.sum x W hN hn4 (by omega) hxl).mono ?_)⟩
    rintro e w1 ⟨r, rfl, hr, hb1⟩
    rw [HSUM.out] at hr
    obtain ⟨ro, rc, rfl, _, _, _, _⟩ := hr.open
    have hB21 := hB2.kept hb1
    have hB31 := hB3.kept hb1
    have e31 := hB31.cell
    have f31 := hB31.free
    have hlt3 := hB31.lt
    clear e3 e4
    generalize (limbs (pre ++ [x]).sum).length = rl at *
    gi_wp2
    have hk2 : KeepNat w1 (w1.setCell ⟨w.heap.size + 1, 0, none⟩ (.slice ro rl rc)) := KeepNat.set e31 (fun n e => by cases e)
    refine ⟨_, ⟨ro, rl, rc, rfl, hB21.setOther (by omega) 0 _, hB31.set _, hk2 _ _ hr, ?_⟩, ?_, ?_, (KeepNat.below hb1).trans hk2⟩
    · exact (hB.trans (hb1.mono hB.size)).setCell (p := ⟨w.heap.size + 1, 0, none⟩) (by simp) _
    · exact (Foot.of_below hb1).trans (Foot.set _ _ rfl)
    · intro k hk
      subst hk
      simpa [World.setCell] using hlt3
  case done =>
    rintro D S W hD ⟨oo, ol, oc, rfl, hB2, hB3, hN, hB⟩ hK
    have e2 := hB2.cell
    have f2 := hB2.free
    have e3 := hB3.cell
    gi_wp2
    have hK2 : (W.setCell ⟨w.heap.size, 0, none⟩ (.slice oo ol oc)).heap[D]? = some (.deferred (some [])) := (Below.heap_setCell _ _ _ _ (by simp; omega)).trans hK
    refine ⟨by simp, .inl ⟨_, _, rfl, run_takeDeferred hK2, ?_⟩⟩
    have hx := ext_deferred hK2
    have hn2 : NatIs (W.setCell ⟨w.heap.size, 0, none⟩ (.slice oo ol oc)) (.agg #[.slice oo ol oc]) xs.sum := KeepNat.set e2 (fun n e => by cases e) _ _ hN
    have hn3 := KeepNat.ext hx _ _ hn2
    have hb2' := (hB2.set (.slice oo ol oc)).ext hx
    have hbf := below_ext (hB.setCell (p := ⟨w.heap.size, 0, none⟩) (Nat.le_refl _) (.slice oo ol oc)) hx (by omega) (by have := hB.size; simpa [World.setCell] using this)
    refine ⟨_, ?_, ⟨_, rfl, hn3, hbf⟩⟩
    have hc := hb2'.cell
    simp [results, Tryd.results21, go_sem, hc]
  case stop =>
    rintro D c pre S W hD hp h hK
    exact h.elim
  · rintro pre S W W' ⟨oo, ol, oc, rfl, hB2, hB3, hN, hB⟩ hx
    exact ⟨oo, ol, oc, rfl, hB2.ext hx, hB3.ext hx, KeepNat.ext hx _ _ hN, below_ext hB hx (by omega) hB.size⟩
  · rintro c pre S W W' h hx
    exact h.elim
  · exact ⟨none, 0, 0, rfl, hb2, hb3, NatIs.zero _, hbel⟩
  · rintro x a' W W' ⟨b4, sv, hB4, hn, rfl⟩ hx
    exact ⟨b4, sv, hB4.ext hx, KeepNat.ext hx _ _ hn, rfl⟩

/-- A row of numbers that lies: its cells, one by one. -/
structure NatRow (W : World) (v : Value) (ns : List Nat) (B : Nat) : Prop where
  row : ∃ (svs : List Value) (ao : Option Addr) (cap : Nat), v = .slice ao ns.length cap ∧ svs.length = ns.length ∧ (ns = [] ∨ ∃ g, ao = some ⟨g, 0, none⟩ ∧ g < B ∧ g < W.heap.size ∧ ∀ (i : Nat) (sv : Value), svs[i]? = some sv → W.cell? ⟨g, i, none⟩ = some sv ∧ NatIs W (.agg #[sv]) (ns[i]?.getD 0))
theorem NatRow.keep {W W' : World} {v : Value} {ns : List Nat} {B : Nat} (h : NatRow W v ns B) (hs : W.heap.size ≤ W'.heap.size) (hc : ∀ g, g < B → g < W.heap.size → W'.heap[g]? = W.heap[g]?) (hk : KeepNat W W') : NatRow W' v ns B := by
  obtain ⟨svs, ao, cap, h1, h2, h3⟩ := h.row
  refine ⟨svs, ao, cap, h1, h2, ?_⟩
  rcases h3 with h3 | ⟨g, h4, h5, h6, h7⟩
  · exact .inl h3
  · exact .inr ⟨g, h4, h5, Nat.lt_of_lt_of_le h6 hs, fun i sv hi => ⟨(World.cell?_of_block (a := ⟨g, i, none⟩) (hc g h5 h6)).trans (h7 i sv hi).1, hk _ _ (h7 i sv hi).2⟩⟩
theorem NatRow.below {W W' : World} {v : Value} {ns : List Nat} {B : Nat} (h : NatRow W v ns B) (hb : Below W.heap.size W W') : NatRow W' v ns B :=
  h.keep hb.size (fun g _ hg => hb.block g hg) (KeepNat.below hb)

set_option maxRecDepth 100000 in
set_option maxHeartbeats 1000000 in
theorem each1_iter (va : Value) (ns : List Nat) (b B : Nat) (w : World) (hrow : NatRow w va ns B) (hc : w.cell? ⟨b, 0, none⟩ = some va) (hB : b < B) (hBw : B ≤ w.heap.size) (hlen : ns.length ≤ 1000000) :
    Iter Tryd.prog 53 #[.pointer (some ⟨b, 0, none⟩)] NatIs ns B KeepNat w := by
  intro l J Jx S0 W1 hW1 hS0 hJ hJx hY h0
  have hc1 := (hW1.cell (p := ⟨b, 0, none⟩) (by show b < _; omega)).trans hc
  have hr1 := hrow.below hW1
  have hbw1 : b < W1.heap.size := by have := hW1.size; omega
  have hBw1 : B ≤ W1.heap.size := by have := hW1.size; omega
  obtain ⟨_, ao, cap, rfl, _, _⟩ := hrow.row
  clear hrow hc
  refine callsIn_of_wp Tryd.func53 rfl (by trivial) ?_ rfl
  simp only [IterArgs, Tryd.ntmps53, List.size_toArray, List.length_cons, List.length_nil, Nat.reduceAdd, Nat.reduceSub, Array.replicate_succ, Array.replicate_zero, List.push_toArray, List.append_toArray, List.nil_append, List.cons_append]
  gi_wp2_with fail
  gi_loopg [3] ns.length (fun g iv wr => ∃ (i : Nat) (S : Nat → Prop), i + g = ns.length ∧ iv = .int .i64 (i : Int) ∧ wr.cell? ⟨b, 0, none⟩ = some (.slice ao ns.length cap) ∧ NatRow wr (.slice ao ns.length cap) ns B ∧
    J (ns.take i) S wr ∧ Top S wr ∧ (∀ k, S k → B ≤ k) ∧ Foot S0 S W1 wr)
  case atStart => exact ⟨0, S0, by omega, rfl, hc1, hr1, h0, fun k hk => (hS0 k hk).2, fun k hk => (hS0 k hk).1, Foot.refl _ _⟩
  case round =>
    obtain ⟨i, S, hi, rfl, hcb, hrow, hJs, hT, hSB, hF⟩ := hrel
    by_cases hil : i < ns.length
    · obtain ⟨svs, ao', cap', e, hl, h3⟩ := hrow.row
      cases e
      rcases h3 with h3 | ⟨g, rfl, hgB, hgw, hcell⟩
      · rw [h3] at hil; simp at hil
      obtain ⟨sv, hsv⟩ : ∃ sv, svs[i]? = some sv := ⟨_, List.getElem?_eq_getElem (by omega)⟩
      obtain ⟨hci, hni⟩ := hcell i sv hsv
      obtain ⟨so, sc, hse, _, _, _, _⟩ := hni.open
      cases hse
      have ht : ns.take i ++ [ns[i]?.getD 0] = ns.take (i + 1) := by
        rw [List.take_add_one, List.getElem?_eq_getElem hil]; rfl
      obtain ⟨fn, tmps, assign, body, hy, hR⟩ := hY _ _ _ _ _ hJs hni (by rw [ht]; exact List.take_prefix _ _)
      have HT := Lib.hid ht
      have HR := Lib.hid hR
      have HROW := Lib.hid hrow
      have hgl : i < ns.length := hil
      have q1 : (i : Int) < (ns.length : Int) := by omega
      have q2 : (0 : Int) ≤ (i : Int) := by omega
      generalize ns[i]?.getD 0 = x at *
      generalize (limbs x).length = xl at *
      clear ht hR hrow hcell hsv
      gi_wp2
      refine ⟨rfl, HR.out.mono ?_⟩
      rintro e W3 (⟨rfl, S3, hJ3, hF3, hT3, hK3⟩ | ⟨rfl, S3, hJ3, hF3⟩)
      · have hblk : ∀ k, k < B → k < wr.heap.size → W3.heap[k]? = wr.heap[k]? := fun k hk hkw => hF3.same k hkw (fun h => by have := hSB k h; omega)
        have hrow3 := HROW.out.keep hF3.size hblk hK3
        have hbw : b < wr.heap.size := World.block_lt_of_cell? wr ⟨b, 0, none⟩ hcb
        have hcb3 := (World.cell?_of_block (a := ⟨b, 0, none⟩) (hblk b hB hbw)).trans hcb
        rw [HT.out] at hJ3
        clear hcb hci
        gi_wp2
        gi_roundg (gk - 1)
        case measure => omega
        case rel =>
          refine ⟨i + 1, S3, by omega, by go_num, hcb3, hrow3, hJ3, hT3, fun k hk => ?_, hF.trans hF3⟩
          rcases hF3.fresh k hk with h1 | h1
          · exact hSB k h1
          · have := hF.size; omega
      · rw [HT.out] at hJ3
        gi_wp2
        refine bodyPost_ret (results_none rfl _ _ _) rfl ?_
        exact ⟨⟨_, rfl⟩, .inr ⟨_, _, List.take_prefix _ _, hJ3, hF.trans hF3⟩⟩
    · have hiq : ns.take i = ns := List.take_of_length_le (by omega)
      rw [hiq] at hJs
      clear hiq
      gi_wp2
      go_end0
      exact ⟨⟨_, rfl⟩, .inl ⟨S, hJs, hF⟩⟩
end Go.Proofs.YtegneoaoodddoaaDoor
