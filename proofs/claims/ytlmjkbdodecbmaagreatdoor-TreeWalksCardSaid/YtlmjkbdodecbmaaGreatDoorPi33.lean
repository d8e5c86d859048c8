/-
  Pi33: TreS TreT (what is needed of them).
-/
import Derived.Test.YtlmjkbdodecbmaaGreatDoorPi25
import Derived.Test.YtlmjkbdodecbmaaGreatDoorPi27
import Derived.Test.YtlmjkbdodecbmaaGreatDoorPi32

namespace Go.Proofs.YtlmjkbdodecbmaaGreatDoor
open Go.RowKit Go.Shelf
set_option linter.unusedVariables false
set_option linter.unusedSimpArgs false
attribute [local go_sem] field_nat
/-- Depths on the heap, and as they are told. -/
def sdIs (st : List (Nat × Nat)) : List Int := (st.map fun x => (x.2 : Int) - 1).reverse
def dpI (l : List (Nat × Nat)) : List Int := l.map fun x => (x.2 : Int) - 1
theorem sdIs_cons (x : Nat × Nat) (st : List (Nat × Nat)) : sdIs (x :: st) = sdIs st ++ [(x.2 : Int) - 1] := by unfold sdIs; simp
theorem sdIs_len (st : List (Nat × Nat)) : (sdIs st).length = st.length := by unfold sdIs; simp
theorem stIs_len (st : List (Nat × Nat)) : (stIs st).length = st.length := by unfold stIs; simp
theorem fstI_len (l : List (Nat × Nat)) : (fstI l).length = l.length := by unfold fstI; simp
theorem sndI_len (l : List (Nat × Nat)) : (sndI l).length = l.length := by unfold sndI; simp
theorem dpI_len (l : List (Nat × Nat)) : (dpI l).length = l.length := by unfold dpI; simp
/-- Four lists that grow, each in a block of its own. -/
structure R4 (D : Nat) (w : World) (a b c d : Value) (xa xb xc xd : List Int) : Prop where
  oa : OwnsK 1 D 3 w a xa.length (icel xa)
  ob : OwnsK 1 D 3 w b xb.length (icel xb)
  oc : OwnsK 1 D 3 w c xc.length (icel xc)
  od : OwnsK 1 D 3 w d xd.length (icel xd)
  ab : ∀ k, a.ownBlock = some k → b.ownBlock ≠ some k
  ac : ∀ k, a.ownBlock = some k → c.ownBlock ≠ some k
  ad : ∀ k, a.ownBlock = some k → d.ownBlock ≠ some k
  bc : ∀ k, b.ownBlock = some k → c.ownBlock ≠ some k
  bd : ∀ k, b.ownBlock = some k → d.ownBlock ≠ some k
  cd : ∀ k, c.ownBlock = some k → d.ownBlock ≠ some k
theorem R4.rot {D : Nat} {w : World} {a b c d : Value} {xa xb xc xd : List Int} (h : R4 D w a b c d xa xb xc xd) : R4 D w b c d a xb xc xd xa :=
  ⟨h.ob, h.oc, h.od, h.oa, h.bc, h.bd, fun k h1 h2 => h.ab k h2 h1, h.cd, fun k h1 h2 => h.ac k h2 h1, fun k h1 h2 => h.ad k h2 h1⟩
theorem R4.kept {D : Nat} {w w' : World} {a b c d : Value} {xa xb xc xd : List Int} (h : R4 D w a b c d xa xb xc xd) (hb : Below w.heap.size w w') : R4 D w' a b c d xa xb xc xd :=
  ⟨h.oa.kept hb, h.ob.kept hb, h.oc.kept hb, h.od.kept hb, h.ab, h.ac, h.ad, h.bc, h.bd, h.cd⟩
theorem R4.grow {D : Nat} {w w' : World} {a b c d a' : Value} {xa xb xc xd xa' : List Int} (h : R4 D w a b c d xa xb xc xd) (ho : OwnsK 1 D 3 w' a' xa'.length (icel xa')) (hg : w.grownBy w' a.ownBlock) (hn : ∀ k, a'.ownBlock = some k → a.ownBlock = some k ∨ w.heap.size ≤ k) : R4 D w' a' b c d xa' xb xc xd := by
  have key : ∀ (v : Value) (xs : List Int), OwnsK 1 D 3 w v xs.length (icel xs) → (∀ k, a.ownBlock = some k → v.ownBlock ≠ some k) → OwnsK 1 D 3 w' v xs.length (icel xs) ∧ ∀ k, a'.ownBlock = some k → v.ownBlock ≠ some k := by
    intro v xs hv hav
    refine ⟨hv.block fun g hg9 => hg.block g (hv.lt g hg9).2 (fun e => hav g e.symm hg9), fun k hk e => ?_⟩
    rcases hn k hk with h1 | h1
    · exact hav k h1 e
    · have := (hv.lt k e).2; omega
  obtain ⟨b1, b2⟩ := key b xb h.ob h.ab
  obtain ⟨c1, c2⟩ := key c xc h.oc h.ac
  obtain ⟨d1, d2⟩ := key d xd h.od h.ad
  exact ⟨ho, b1, c1, d1, b2, c2, d2, h.bc, h.bd, h.cd⟩
theorem R4.view {D : Nat} {w : World} {a b c d a' : Value} {xa xb xc xd xa' : List Int} (h : R4 D w a b c d xa xb xc xd) (ho : OwnsK 1 D 3 w a' xa'.length (icel xa')) (he : a'.ownBlock = a.ownBlock) : R4 D w a' b c d xa' xb xc xd :=
  ⟨ho, h.ob, h.oc, h.od, fun k hk => h.ab k (he ▸ hk), fun k hk => h.ac k (he ▸ hk), fun k hk => h.ad k (he ▸ hk), h.bc, h.bd, h.cd⟩
/-- A row's last element, and the row without it. -/
theorem OwnsK.last {D : Nat} {w : World} {ao : Option Addr} {n c : Nat} {xs : List Int} {z : Int} (h : OwnsK 1 D 3 w (.slice ao n c) (xs ++ [z]).length (icel (xs ++ [z]))) : ∃ g, ao = some ⟨g, 0, none⟩ ∧ n = xs.length + 1 ∧ n ≤ c ∧ c ≤ maxLen ∧ w.cell? ⟨g, xs.length, none⟩ = some (.int .i64 z) ∧ OwnsK 1 D 3 w (.slice (some ⟨g, 0, none⟩) xs.length c) xs.length (icel xs) := by
  rw [List.length_append, List.length_singleton] at h
  obtain ⟨ao1, cap1, hv, h1, h2, _⟩ := h.slice
  rcases h.shape with ⟨_, h9⟩ | ⟨g, cap, hv2, hgB, hgw, hn1, hn2, -, -⟩
  · omega
  cases hv2
  refine ⟨g, rfl, rfl, hn1, hn2, ?_, ?_⟩
  · refine h.cellAt ?_
    rw [icel_app, List.getElem?_append_right (by rw [icel_len]; exact Nat.le_refl _), icel_len, Nat.sub_self]
    rfl
  · exact h.pop (by rw [icel_len, Nat.mul_one]) (by rw [icel_app]; exact List.prefix_append _ _)
theorem OwnsK.snoc1 {D : Nat} {e : TypeId} {w : World} {v : Value} {xs : List Int} {z : Int} (h : OwnsK 1 D e w v (xs.length + 1) (icel xs ++ (#[Value.int .i64 z] : Array Value).toList)) : OwnsK 1 D e w v (xs ++ [z]).length (icel (xs ++ [z])) := by
  rw [List.length_append, List.length_singleton, icel_app]
  exact h
theorem fstI_app (vis : List (Nat × Nat)) (x : Nat × Nat) : fstI (vis ++ [x]) = fstI vis ++ [(x.1 : Int)] := by unfold fstI; simp
theorem sndI_app (vis : List (Nat × Nat)) (x : Nat × Nat) : sndI (vis ++ [x]) = sndI vis ++ [(x.2 : Int)] := by unfold sndI; simp
/-- What the document's Walk answers. -/
def RwPost (L : List (Nat × Nat)) (w : World) (e : Ending) (w' : World) : Prop := (∃ (ao : Option Addr) (ac : Nat) (bo : Option Addr) (bc : Nat), e = .returned (.tuple #[.slice ao L.length ac, .slice bo L.length bc]) ∧ Hid (IntsQ w.heap.size w'.heap.size w' ao ac (fstI L)) ∧ Hid (IntsQ w.heap.size w'.heap.size w' bo bc (dpI L))) ∧ Below w.heap.size w w'
theorem dp_step {L : List (Nat × Nat)} {i : Nat} {x : Nat × Nat} (h : L[i]? = some x) : (dpI (L.take i) ++ sndI (L.drop i)).set i ((x.2 : Int) - 1) = dpI (L.take (i + 1)) ++ sndI (L.drop (i + 1)) := by
  have hi : i < L.length := (List.getElem?_eq_some_iff.1 h).1
  have e1 : L.drop i = x :: L.drop (i + 1) := by rw [List.drop_eq_getElem_cons hi, (List.getElem?_eq_some_iff.1 h).2]
  have hl : (dpI (L.take i)).length = i := by rw [dpI_len, List.length_take]; omega
  rw [e1, List.set_append_right _ _ (by omega), hl, Nat.sub_self, List.take_add_one, h]
  unfold dpI sndI
  simp
theorem dp_get {L : List (Nat × Nat)} {i : Nat} {x : Nat × Nat} (h : L[i]? = some x) : (dpI (L.take i) ++ sndI (L.drop i))[i]? = some (x.2 : Int) := by
  have hi : i < L.length := (List.getElem?_eq_some_iff.1 h).1
  have e1 : L.drop i = x :: L.drop (i + 1) := by rw [List.drop_eq_getElem_cons hi, (List.getElem?_eq_some_iff.1 h).2]
  have hl : (dpI (L.take i)).length = i := by rw [dpI_len, List.length_take]; omega
  rw [e1, List.getElem?_append_right (by omega), hl, Nat.sub_self]
  rfl
set_option maxRecDepth 100000 in
set_option maxHeartbeats 8000000 in
/-- Walk, of the document. -/
theorem rwalk_any (t : TR) (N : Nat) (L : List (Nat × Nat)) (no : Option Addr) (nc : Nat) (B : Nat) (w : World) (HT : Hid (TrIs B w t no nc)) (hBw : B ≤ w.heap.size) (HN : Hid (N = t.nodes.length)) (hNl : N ≤ 1500) (hN0 : 0 < N) (HON : Hid (∃ up, OnceT t up)) (HSZ : Hid (t.nodes.length + (t.nodes.map fun x => x.kids.length).sum ≤ 1500)) (HL : Hid (L = dfsAll (kidsT t) N)) (HLN : Hid (0 < L.length ∧ L.length ≤ N)) :
    Calls Tryz.prog 9 #[.agg #[.slice no N nc, .int .i64 t.ms, .int .i64 t.nt]] w (RwPost L w) := by
  obtain ⟨w0, hw0, hb0, hz0, px, hpx, hbx⟩ := boxT w no N nc t.ms t.nt
  have hT := HT.out.low (Low.of_below hb0 hBw)
  obtain ⟨w1, hw1⟩ : ∃ W, W = (w0.alloc (.cells #[.int .i64 0] 3)).alloc (.cells #[.int .i64 0] 3) := ⟨_, rfl⟩
  have hb01 : Below w0.heap.size w0 w1 := by rw [hw1]; exact ((Below.refl _ w0).alloc (Nat.le_refl _) _).alloc (by simp <;> omega) _
  obtain ⟨D, hD⟩ : ∃ d, d = w0.heap.size := ⟨_, rfl⟩
  have hc : OwnsK 1 D 3 w1 (.slice (some ⟨w0.heap.size, 0, none⟩) 1 1) (stIs [(0, 1)]).length (icel (stIs [(0, 1)])) := by
    rw [hw1, hD]
    refine ⟨rfl, .inr ⟨w0.heap.size, 1, #[.int .i64 0], rfl, Nat.le_refl _, ?_, Nat.le_refl _, by decide, rfl, rfl⟩⟩
    rw [Below.heap_alloc _ _ _ (by simp)]
    exact heap_alloc_new w0 _
  have hd : OwnsK 1 D 3 w1 (.slice (some ⟨w0.heap.size + 1, 0, none⟩) 1 1) (sdIs [(0, 1)]).length (icel (sdIs [(0, 1)])) := by
    rw [hw1, hD]
    refine ⟨rfl, .inr ⟨w0.heap.size + 1, 1, #[.int .i64 0], rfl, by omega, ?_, Nat.le_refl _, by decide, rfl, rfl⟩⟩
    have := heap_alloc_new (w0.alloc (.cells #[.int .i64 0] 3)) (.cells #[.int .i64 0] 3)
    rwa [World.size_alloc] at this
  have hR : R4 D w1 (.slice none 0 0) (.slice none 0 0) (.slice (some ⟨w0.heap.size, 0, none⟩) 1 1) (.slice (some ⟨w0.heap.size + 1, 0, none⟩) 1 1) (fstI []) (sndI []) (stIs [(0, 1)]) (sdIs [(0, 1)]) :=
    ⟨OwnsK.nil _ _ _ _, OwnsK.nil _ _ _ _, hc, hd, fun k h => by simp [Value.ownBlock] at h, fun k h => by simp [Value.ownBlock] at h, fun k h => by simp [Value.ownBlock] at h, fun k h => by simp [Value.ownBlock] at h, fun k h => by simp [Value.ownBlock] at h, fun k h h2 => by simp [Value.ownBlock] at h h2; omega⟩
  have hst : StT t L N [] [(0, 1)] (N + 1) := by rw [HL.out]; exact StT.start hN0
  have HST := Lib.hid hst
  have HOF : Hid (OnceF (kidsT t) N) := Lib.hid (by obtain ⟨up, ho⟩ := HON.out; have := ho.f; unfold TR.N at this; rw [HN.out]; exact this)
  have HW0 := Lib.hid hw0
  have HW1 := Lib.hid hw1
  have HP : Hid (w.heap.size ≤ px ∧ px < D ∧ D ≤ w1.heap.size ∧ w.heap.size ≤ D) := Lib.hid (by have := hb01.size; omega)
  replace hbx := hbx.kept hb01
  have HT1 : Hid (TrIs B w1 t no nc) := Lib.hid (hT.low (Low.of_below hb01 (by omega)))
  have hbf := hb0.trans (hb01.mono hb0.size)
  have hDw : D ≤ w1.heap.size := HP.out.2.2.1
  clear hw0 hw1 hb0 hz0 hb01 hc hd hst HT HL hT
  go_enter Tryz.func9, Tryz.ntmps9
  go_upto_region 1 with fail
  rw [← HW0.out, ← hpx]
  clear hpx
  go_wp2_with fail
  rw [← HW1.out]
  clear HW0 HW1 hD
  go_loopg [4, 5, 6, 7] (N + 1) (fun gg av bv cv dv wr => ∃ (vis st : List (Nat × Nat)), R4 D wr av bv cv dv (fstI vis) (sndI vis) (stIs st) (sdIs st) ∧ Hid (StT t L N vis st gg) ∧ BoxL wr px [.slice no N nc, .int .i64 t.ms, .int .i64 t.nt] ∧ Hid (TrIs B wr t no nc) ∧ Below w.heap.size w wr ∧ D ≤ wr.heap.size)
  case atStart => exact ⟨[], [(0, 1)], hR, HST, hbx, HT1, hbf, hDw⟩
  clear hR HST hbx HT1 hbf hDw
  case round =>
    obtain ⟨vis, st, hR, HS, hbx, HT, hbf, hDw⟩ := hrel
    cases st with
    | nil =>
      obtain ⟨ao, ac, rfl, ha1, ha2, -⟩ := hR.oa.slice
      obtain ⟨bo, bc, rfl, hb1, hb2, -⟩ := hR.ob.slice
      obtain ⟨co, cc, rfl, -, -, -⟩ := hR.oc.slice
      obtain ⟨eo, ec, rfl, -, -, -⟩ := hR.od.slice
      have hvl := HS.out.done
      subst hvl
      obtain ⟨g, rfl, hgD⟩ : ∃ g, bo = some ⟨g, 0, none⟩ ∧ D ≤ g := by
        rcases hR.ob.shape with ⟨h1, h2⟩ | ⟨g, cap', e1, h3, h4, -⟩
        · rw [sndI_len] at h2
          have h9 := HLN.out
          omega
        · cases e1; exact ⟨g, rfl, h3⟩
      simp only [fstI_len, sndI_len] at hR ha1 ha2 hb1 hb2 ⊢
      have hbg := BoxL.of_ownsC (by have h9 := hR.ob; rw [sndI_len] at h9; exact h9)
      have hOa := hR.oa
      rw [fstI_len] at hOa
      have hga : ∀ k, (Value.slice ao vis.length ac).ownBlock = some k → k ≠ g := fun k hk e => hR.ab k hk (by rw [e]; simp [Value.ownBlock])
      have HGA := Lib.hid hga
      have HCAP : Hid (vis.length ≤ bc ∧ bc ≤ maxLen) := Lib.hid ⟨hb1, hb2⟩
      have hvl : vis.length ≤ 1500 := by have h9 := HLN.out; omega
      have HDEP : Hid (∀ y ∈ vis, y.2 ≤ 2000) := Lib.hid (fun y hy => by have := HS.out.dep y (by simp [hy]); omega)
      clear hR HS hga ha1 ha2 hb1 hb2
      go_wp2_with fail
      go_loopg [12] vis.length (fun gg iv wr => ∃ (i : Nat), i + gg = vis.length ∧ iv = .int .i64 (i : Int) ∧ BoxL wr g (icel (dpI (vis.take i) ++ sndI (vis.drop i))) ∧ OwnsK 1 D 3 wr (.slice ao vis.length ac) vis.length (icel (fstI vis)) ∧ Below w.heap.size w wr)
      case atStart => exact ⟨0, by omega, rfl, by simpa [dpI] using hbg, hOa, hbf⟩
      clear hbg hOa hbf hbx HT hDw
      case round =>
        obtain ⟨i, hi, rfl, hbg, hOa, hbf⟩ := hrel
        by_cases hil : i < vis.length
        case pos =>
          have hii : ((i : Nat) : Int) < ((vis.length : Nat) : Int) := by omega
          have hi0 : (0 : Int) ≤ ((i : Nat) : Int) := by omega
          obtain ⟨x, hx9⟩ : ∃ x, vis[i]? = some x := ⟨_, List.getElem?_eq_getElem hil⟩
          have hx2 := HDEP.out x (List.mem_of_getElem? hx9)
          have ei := hbg.cell i _ (icel_get (dp_get hx9))
          have hlen : (icel (dpI (vis.take i) ++ sndI (vis.drop i))).length = vis.length := by rw [icel_len, List.length_append, dpI_len, sndI_len, List.length_take, List.length_drop]; omega
          have fi := hbg.free i (by rw [hlen]; exact hil)
          have HDP := Lib.hid (dp_step hx9)
          have HLE := Lib.hid hlen
          clear hx9 hlen
          go_wp2_with fail
          clear ei fi
          go_roundg (gk - 1)
          case measure => omega
          case rel =>
            refine ⟨i + 1, by omega, by go_num, ?_, hOa.keep ((Keep.refl (fun k => k = g) wr).set g i _ (.inl rfl)) (fun k hk e => HGA.out k hk e), hbf.setCell (p := ⟨g, i, none⟩) (by have := HP.out; show _ ≤ g; omega) _⟩
            have h9 := hbg.set i (.int .i64 ((x.2 : Int) - 1)) (by rw [HLE.out]; exact hil)
            rw [icel_set, HDP.out] at h9
            exact h9
        case neg =>
          have hii : ¬ ((i : Nat) : Int) < ((vis.length : Nat) : Int) := by omega
          have hbd : BoxL wr g (icel (dpI vis)) := by
            have h9 := hbg
            rw [List.take_of_length_le (by omega), List.drop_eq_nil_of_le (by omega)] at h9
            simpa [sndI] using h9
          clear hbg hi hil
          go_wp2_with fail
          go_ret2
          refine ⟨⟨ao, ac, some ⟨g, 0, none⟩, bc, rfl, Lib.hid ((IntsQ.of_owns hOa (fstI_len _)).widen HP.out.2.2.2 (Nat.le_refl _)), Lib.hid ⟨⟨by rw [dpI_len]; exact HCAP.out.1, HCAP.out.2⟩, (fun e => by cases e), fun j n hj => ⟨g, 0, rfl, by have := HP.out; omega, hbd.lt, by rw [Nat.zero_add]; exact hbd.cell j _ (icel_get hj)⟩⟩⟩, hbf⟩
    | cons x st =>
      rw [stIs_cons, sdIs_cons] at hR
      obtain ⟨ao, ac, rfl, -, -, -⟩ := hR.oa.slice
      obtain ⟨bo, bc, rfl, -, -, -⟩ := hR.ob.slice
      obtain ⟨co, cc, rfl, -, -, -⟩ := hR.oc.slice
      obtain ⟨eo, ec, rfl, -, -, -⟩ := hR.od.slice
      simp only [List.length_append, List.length_singleton, stIs_len, sdIs_len, fstI_len, sndI_len] at hR ⊢
      obtain ⟨gc, rfl, -, hc1, hc2, cc0, hoc⟩ := hR.oc.last
      obtain ⟨gd, rfl, -, hd1, hd2, cd0, hod⟩ := hR.od.last
      rw [stIs_len] at cc0
      rw [sdIs_len] at cd0
      have hil := HS.out.inv.len
      rw [List.length_cons] at hil
      have hxd := HS.out.dep x (by simp)
      have hxN := HS.out.inv.lt x (by simp)
      have hNI : ((vis.length : Nat) : Int) ≤ ((N : Nat) : Int) := by omega
      have hN1 : (0 : Int) < ((N : Nat) : Int) := by omega
      have hsl1 : ((st.length : Nat) : Int) < ((st.length + 1 : Nat) : Int) := by omega
      have hq4 : ((st.length : Nat) : Int) ≤ ((cc : Nat) : Int) := by omega
      have hq5 : ((st.length : Nat) : Int) ≤ ((ec : Nat) : Int) := by omega
      have hsl3 : ((st.length : Nat) : Int) < ((st.length : Nat) : Int) + 1 := by omega
      have hsl4 : (0 : Int) < ((st.length : Nat) : Int) + 1 := by omega
      have hsl2 : (0 : Int) < ((st.length + 1 : Nat) : Int) := by omega
      have hsl0 : (0 : Int) ≤ ((st.length : Nat) : Int) := by omega
      have hst2 : st.length + 1 ≤ 1500 := by omega
      have hx2000 : x.2 ≤ 2000 := by omega
      obtain ⟨y, hy9⟩ : ∃ k, t.nodes[x.1]? = some k := ⟨_, List.getElem?_eq_getElem (by have := HN.out; omega)⟩
      have HY9 := Lib.hid hy9
      have HC : Hid (wr.cell? ⟨gc, st.length, none⟩ = some (.int .i64 (x.1 : Int)) ∧ wr.cell? ⟨gd, st.length, none⟩ = some (.int .i64 ((x.2 : Int) - 1))) := Lib.hid ⟨cc0, cd0⟩
      have hR1 := ((hR.rot.rot.view hoc (by simp [Value.ownBlock])).rot.view hod (by simp [Value.ownBlock])).rot
      have e0 := hbx.cell 0 _ rfl
      unfold maxLen at hc2 hd2
      have hwr : IntKind.i64.wrap ((st.length : Nat) : Int) = ((st.length : Nat) : Int) := by rw [IntKind.wrap_i64]; omega
      clear hy9 cc0 cd0 hoc hod hil
      go_upto_region 4 with fail
      clear e0
      refine wp_region_seq (S := fun w' => w'.cell? ⟨gc, st.length, none⟩ = some (.int .i64 (x.1 : Int)) ∧ w'.cell? ⟨gd, st.length, none⟩ = some (.int .i64 ((x.2 : Int) - 1))) [(true, 0), (true, 1), (true, 2), (true, 3), (true, 4), (true, 5), (true, 6), (true, 7), (true, 8), (true, 9), (true, 10), (true, 11), (true, 12), (true, 13)] (by kernel_rfl) (by kernel_rfl) (by kernel_rfl) (by kernel_rfl) (by kernel_rfl) (fun d _ _ _ _ h => by cases d <;> exact h) HC.out (fun _ => ?_)
      simp only [pickOps, List.append_eq, List.cons_append, List.nil_append, List.getElem?_toArray, List.getElem?_cons_succ, List.getElem?_cons_zero]
      have hb : Below wr.heap.size wr wr.drew := (Below.refl _ _).drew
      generalize wr.drew = wd at hb ⊢
      replace hR := hR.kept hb
      replace hbx := hbx.kept hb
      replace HT : Hid (TrIs B _ t no nc) := Lib.hid (HT.out.low (Low.of_below hb (by have := HP.out; omega)))
      replace hbf := hbf.trans (hb.mono hbf.size)
      replace hDw := Nat.le_trans hDw hb.size
      replace hR1 := hR1.kept hb
      clear hb
      repeat (first | (refine seq_take (v := ?_) (by rfl) ?_ ?_; rotate_left; (· intro w hSw; (try dsimp only at hSw); obtain ⟨cc0, cd0⟩ := hSw; go_simp; all_goals with_reducible rfl); (try simp only [Act.put, List.setIfInBounds_toArray, List.set_cons_zero, List.set_cons_succ])) | (refine seq_leave (by rfl) ?_; (try simp only [Act.put, List.setIfInBounds_toArray, List.set_cons_zero, List.set_cons_succ])))
      refine seq_end ?_
      clear hR
      have hR := hR1
      clear hR1 HC
      go_upto_region 5 with fail
      refine wp_region_seq (S := fun w' => True) [(true, 0), (true, 1), (true, 2), (true, 3), (true, 4), (true, 5), (true, 6), (true, 7), (true, 8), (true, 9), (true, 10), (true, 11)] (by kernel_rfl) (by kernel_rfl) (by kernel_rfl) (by kernel_rfl) (by kernel_rfl) (fun d _ _ _ _ h => by cases d <;> exact h) trivial (fun _ => ?_)
      simp only [pickOps, List.append_eq, List.cons_append, List.nil_append, List.getElem?_toArray, List.getElem?_cons_succ, List.getElem?_cons_zero]
      have hb : Below wd.heap.size wd wd.drew := (Below.refl _ _).drew
      generalize wd.drew = we at hb ⊢
      replace hR := hR.kept hb
      replace hbx := hbx.kept hb
      replace HT : Hid (TrIs B _ t no nc) := Lib.hid (HT.out.low (Low.of_below hb (by have := HP.out; omega)))
      replace hbf := hbf.trans (hb.mono hbf.size)
      replace hDw := Nat.le_trans hDw hb.size
      clear hb
      repeat (first | (refine seq_take (v := ?_) (by rfl) ?_ ?_; rotate_left; (· intro w hSw; (try dsimp only at hSw); skip; go_simp; all_goals with_reducible rfl); (try simp only [Act.put, List.setIfInBounds_toArray, List.set_cons_zero, List.set_cons_succ])) | (refine seq_leave (by rfl) ?_; (try simp only [Act.put, List.setIfInBounds_toArray, List.set_cons_zero, List.set_cons_succ])))
      refine seq_end ?_
      clear hwr
      have hvl : vis.length ≤ 1500 := by omega
      have hx1 : 1 ≤ x.2 := by
        rcases HS.out.inv.up x (by simp) with h | ⟨q, hq, h1, _⟩ <;> omega
      go_upto_region 7 with (first | (at_builtin; refine append1KO E_intT hR.oa rfl rfl rfl rfl rfl (by simp [Value.oneCell']) (by rw [fstI_len]; omega) (by rw [fstI_len]; unfold maxLen; omega) hDw ?_; intro vA wA hOA hbA hgA hnA; obtain ⟨ao9, ac9, rfl, -, -, -⟩ := hOA.slice; have hRA := (hR.grow hOA.snoc1 hgA hnA).rot; have hDA := Nat.le_trans hDw hbA.size; rw [fstI_len]) | (at_builtin; refine append1KO E_intT hRA.oa rfl rfl rfl rfl rfl (by simp [Value.oneCell']) (by rw [sndI_len]; omega) (by rw [sndI_len]; unfold maxLen; omega) hDA ?_; intro vB wB hOB hbB hgB hnB; obtain ⟨bo9, bc9, rfl, -, -, -⟩ := hOB.slice; rw [sndI_len]))
      have hbAB := hbA.trans hbB
      have hRB := ((hRA.grow hOB.snoc1 hgB hnB)).rot
      rw [fstI_len, sndI_len, stIs_len, sdIs_len] at hRB
      replace hbx := hbx.block (hbAB.block px HP.out.2.1)
      replace HT : Hid (TrIs B wB t no nc) := Lib.hid (HT.out.low (Low.of_below hbAB (by have := HP.out; omega)))
      replace hbf := hbf.trans (hbAB.mono HP.out.2.2.2)
      replace hDw := Nat.le_trans hDA hbB.size
      obtain ⟨hpre, f', hgf, hst2⟩ := HS.out.step HOF.out
      have hlen2 := hst2.inv.len
      rw [List.length_append, List.length_append, List.length_singleton, List.length_map] at hlen2
      have hkl : (kidsT t x.1).length = y.kids.length := by unfold kidsT; rw [HY9.out]; simp
      rw [hkl] at hlen2
      have HKL := Lib.hid hkl
      have HS2 := Lib.hid hst2
      have HGF := Lib.hid hgf
      have hxn0 : (0 : Int) ≤ ((x.1 : Nat) : Int) := by omega
      have hxn1 : ((x.1 : Nat) : Int) < ((N : Nat) : Int) := by omega
      obtain ⟨nb, noff, l, hno, hbB9, hNI, hnd⟩ := HT.out.at_ x.1 y HY9.out
      have hno9 := Lib.hid hno
      rw [hno] at hbx ⊢
      have e0 := hbx.cell 0 _ rfl
      have c6 := hnd.c6
      clear hOB hgB hnB hRA hOA hgA hnA hbA hbB hbAB hDA hR hpre hst2 hkl hgf hNI hno HS
      go_wp2_with fail
      clear e0 c6 hnd hbB9
      rw [← hno9.out] at hbx ⊢
      obtain ⟨go, hgo⟩ : ∃ go, go = gk := ⟨_, rfl⟩
      subst hgo
      go_loopg [6, 7, 10] y.kids.length (fun gg cv dv jv wr => ∃ (z : Int), jv = .int .i64 z ∧ z = (gg : Int) - 1 ∧ gg ≤ y.kids.length ∧ R4 D wr cv dv (.slice ao9 (vis.length + 1) ac9) (.slice bo9 (vis.length + 1) bc9) (stIs (((kidsT t x.1).drop gg).map (fun k => (k, x.2 + 1)) ++ st)) (sdIs (((kidsT t x.1).drop gg).map (fun k => (k, x.2 + 1)) ++ st)) (fstI vis ++ [(x.1 : Int)]) (sndI vis ++ [(x.2 : Int)]) ∧ BoxL wr px [.slice no N nc, .int .i64 t.ms, .int .i64 t.nt] ∧ Hid (TrIs B wr t no nc) ∧ Below w.heap.size w wr ∧ D ≤ wr.heap.size)
      case atStart => exact ⟨_, rfl, by omega, Nat.le_refl _, by rw [List.drop_eq_nil_of_le (by rw [HKL.out]; exact Nat.le_refl _), List.map_nil, List.nil_append]; exact hRB, hbx, HT, hbf, hDw⟩
      clear hRB hbx HT hbf hDw
      case round =>
        obtain ⟨z, rfl, hz, hgl, hR, hbx, HT, hbf, hDw⟩ := hrel
        obtain ⟨S, hS⟩ : ∃ S, S = ((kidsT t x.1).drop gk).map (fun k => (k, x.2 + 1)) ++ st := ⟨_, rfl⟩
        rw [← hS] at hR
        have hSl : S.length = y.kids.length - gk + st.length := by rw [hS, List.length_append, List.length_map, List.length_drop, HKL.out]
        obtain ⟨co, cc9, rfl, -, -, -⟩ := hR.oa.slice
        obtain ⟨eo, ec9, rfl, -, -, -⟩ := hR.ob.slice
        rcases Nat.eq_zero_or_pos gk with h0 | h0
        · subst h0
          obtain rfl : z = -1 := by omega
          rw [List.drop_zero] at hS
          subst hS
          have HR9 := Lib.hid hR
          have hneg : ¬ (0 : Int) ≤ -1 := by omega
          clear hR hz hSl
          go_wp2_with fail
          go_roundg f'
          case measure => have := HGF.out; omega
          case rel =>
            refine ⟨vis ++ [x], _, ?_, HS2.out |> Lib.hid, hbx, HT, hbf, hDw⟩
            rw [fstI_app, sndI_app]
            exact HR9.out.rot.rot
        · obtain ⟨j, rfl⟩ : ∃ j, gk = j + 1 := ⟨gk - 1, by omega⟩
          obtain rfl : z = (j : Int) := by omega
          clear hz
          obtain ⟨k, hk9⟩ : ∃ k, y.kids[j]? = some k := ⟨_, List.getElem?_eq_getElem (by omega)⟩
          obtain ⟨up, hoo⟩ := HON.out
          obtain ⟨hk1, hk2, -⟩ := hoo.val x.1 y HY9.out k (List.mem_of_getElem? hk9)
          obtain ⟨kk, rfl⟩ : ∃ n : Nat, k = (n : Int) := ⟨k.toNat, by omega⟩
          have hkN : ((kk : Nat) : Int) < ((N : Nat) : Int) := by have := HN.out; unfold TR.N at hk2; omega
          have hkn1 : ¬ ((kk : Nat) : Int) < 1 := by omega
          have hkn2 : ¬ ((N : Nat) : Int) ≤ ((kk : Nat) : Int) := by omega
          have HS3 : Hid (((kidsT t x.1).drop j).map (fun k => (k, x.2 + 1)) ++ st = (kk, x.2 + 1) :: S) := Lib.hid (by
            have h1 : (kidsT t x.1)[j]? = some kk := by unfold kidsT; rw [HY9.out]; show (y.kids.map Int.toNat)[j]? = _; rw [List.getElem?_map, hk9]; simp
            have h2 : (kidsT t x.1).drop j = kk :: (kidsT t x.1).drop (j + 1) := by rw [List.drop_eq_getElem_cons (List.getElem?_eq_some_iff.1 h1).1, (List.getElem?_eq_some_iff.1 h1).2]
            rw [h2, hS, List.map_cons, List.cons_append])
          obtain ⟨nb, noff, l, hno, hbB9, hNI, hnd⟩ := HT.out.at_ x.1 y HY9.out
          obtain ⟨kb, koff, hko, hkB, ck⟩ := hNI.k.at_ j _ hk9
          have hno9 := Lib.hid hno
          have e0 := hbx.cell 0 _ rfl
          rw [hno] at e0
          have c6 := hnd.c6
          rw [hko] at c6
          have hj0 : (0 : Int) ≤ ((j : Nat) : Int) := by omega
          have hj1 : ((j : Nat) : Int) < ((y.kids.length : Nat) : Int) := by omega
          have hSb : S.length + 1 ≤ 1600 := by omega
          have HSL := Lib.hid hSl
          have HSS := Lib.hid hS
          clear hoo hk1 hk2 hk9 hno hko hnd hNI hSl hS
          go_wp2_with (first | (at_builtin; refine append1KO E_intT hR.oa rfl rfl rfl rfl rfl (by simp [Value.oneCell']) (by rw [stIs_len]; omega) (by rw [stIs_len]; unfold maxLen; omega) hDw ?_; intro vA wA hOA hbA hgA hnA; obtain ⟨ao8, ac8, rfl, -, -, -⟩ := hOA.slice; have hRA := (hR.grow hOA.snoc1 hgA hnA).rot; have hDA := Nat.le_trans hDw hbA.size) | (at_builtin; refine append1KO E_intT hRA.oa rfl rfl rfl rfl rfl (by simp [Value.oneCell']) (by rw [sdIs_len]; omega) (by rw [sdIs_len]; unfold maxLen; omega) hDA ?_; intro vB wB hOB hbB hgB hnB; obtain ⟨bo8, bc8, rfl, -, -, -⟩ := hOB.slice; have hRB := ((hRA.grow hOB.snoc1 hgB hnB)).rot.rot.rot))
          have hbAB := hbA.trans hbB
          replace hbx := hbx.block (hbAB.block px HP.out.2.1)
          replace HT : Hid (TrIs B wB t no nc) := Lib.hid (HT.out.low (Low.of_below hbAB (by have := HP.out; omega)))
          replace hbf := hbf.trans (hbAB.mono HP.out.2.2.2)
          replace hDw := Nat.le_trans hDA hbB.size
          have HRB := Lib.hid hRB
          clear hRB hRA hOA hgA hnA hbA hOB hgB hnB hbB hbAB hDA hR e0 c6 ck
          go_roundg j
          case measure => omega
          case rel =>
            refine ⟨_, rfl, by first | rfl | omega, by omega, ?_, hbx, HT, hbf, hDw⟩
            rw [HS3.out, stIs_cons, sdIs_cons]
            have e9 : (((kk, x.2 + 1) : Nat × Nat).2 : Int) - 1 = (x.2 : Int) := by show ((x.2 + 1 : Nat) : Int) - 1 = _; omega
            rw [e9]
            exact HRB.out
end Go.Proofs.YtlmjkbdodecbmaaGreatDoor

namespace Go.Proofs.YtlmjkbdodecbmaaGreatDoor
open Go.RowKit Go.Shelf
set_option linter.unusedVariables false
set_option linter.unusedSimpArgs false
attribute [local go_sem] field_nat
set_option maxRecDepth 100000 in
set_option maxHeartbeats 2000000 in
theorem rwalk_none (no : Option Addr) (nc : Nat) (ms nt : Int) (w : World) : Calls Tryz.prog 9 #[.agg #[.slice no 0 nc, .int .i64 ms, .int .i64 nt]] w fun e w' => e = .returned (.tuple #[.slice none 0 0, .slice none 0 0]) ∧ Below w.heap.size w w' := by
  obtain ⟨w0, hw0, hb0, hz0, px, hpx, hbx⟩ := boxT w no 0 nc ms nt
  obtain ⟨w1, hw1⟩ : ∃ W, W = (w0.alloc (.cells #[.int .i64 0] 3)).alloc (.cells #[.int .i64 0] 3) := ⟨_, rfl⟩
  have hb01 : Below w0.heap.size w0 w1 := by rw [hw1]; exact ((Below.refl _ w0).alloc (Nat.le_refl _) _).alloc (by simp <;> omega) _
  replace hbx := hbx.kept hb01
  have hbf := hb0.trans (hb01.mono hb0.size)
  have HW0 := Lib.hid hw0
  have HW1 := Lib.hid hw1
  clear hw0 hw1 hb0 hb01 hz0
  go_enter Tryz.func9, Tryz.ntmps9
  go_upto_region 1 with fail
  rw [← HW0.out, ← hpx]
  clear hpx
  go_wp2_with fail
  rw [← HW1.out]
  clear HW0 HW1
  go_loopg [4, 5, 6, 7] 0 (fun gg av bv cv dv wr => ∃ (co eo : Option Addr) (cc ec : Nat), av = .slice none 0 0 ∧ bv = .slice none 0 0 ∧ cv = .slice co 1 cc ∧ dv = .slice eo 1 ec ∧ BoxL wr px [.slice no 0 nc, .int .i64 ms, .int .i64 nt] ∧ Below w.heap.size w wr)
  case atStart => exact ⟨_, _, _, _, rfl, rfl, rfl, rfl, hbx, hbf⟩
  clear hbx hbf
  case round =>
    obtain ⟨co, eo, cc, ec, rfl, rfl, rfl, rfl, hbx, hbf⟩ := hrel
    have e0 := hbx.cell 0 _ rfl
    go_wp2_with fail
    go_loopg [12] 0 (fun gg iv wr => iv = .int .i64 0 ∧ Below w.heap.size w wr)
    case atStart => exact ⟨rfl, hbf⟩
    case round =>
      obtain ⟨rfl, hbf⟩ := hrel
      go_wp2_with fail
      go_ret2
      exact ⟨rfl, hbf⟩
theorem up_some {l : List Int} {i : Nat} {u : Int} (h : l[i]? = some u) : (l.map (· + 1))[i]? = some (u + 1) := by rw [List.getElem?_map, h]; rfl
set_option maxRecDepth 100000 in
set_option maxHeartbeats 8000000 in
/-- Shape, of the document. -/
theorem rshape_any (t : TR) (b : Bool) (no : Option Addr) (nc : Nat) (B : Nat) (w : World) (HT : Hid (TrIs B w t no nc)) (hBw : B ≤ w.heap.size) (HSZ : Hid (t.nodes.length + (t.nodes.map fun x => x.kids.length).sum ≤ 1500)) (HB : Hid (b = shapeB t)) :
    Calls Tryz.prog 8 #[.agg #[.slice no t.nodes.length nc, .int .i64 t.ms, .int .i64 t.nt]] w fun e w' => e = .returned (.bool b) ∧ Below w.heap.size w w' := by
  obtain ⟨w0, hw0, hbf, hz0, px, hpx, hbx⟩ := boxT w no t.nodes.length nc t.ms t.nt
  have hT := HT.out.low (Low.of_below hbf hBw)
  have HPX : Hid (w.heap.size ≤ px ∧ px < w0.heap.size) := Lib.hid (by omega)
  have HW := Lib.hid hw0
  have e0 := hbx.cell 0 _ rfl
  obtain ⟨N, hN⟩ : ∃ N, N = t.nodes.length := ⟨_, rfl⟩
  have hNl : N ≤ 1500 := by have := HSZ.out; omega
  have hkk : ∀ (i : Nat) (x : TN), t.nodes[i]? = some x → x.kids.length ≤ 1500 := fun i x h => by have := kids_sum h; have := HSZ.out; omega
  have HKK := Lib.hid hkk
  clear hw0 hz0 hkk HT
  go_enter Tryz.func8, Tryz.ntmps8
  go_upto_region 1 with fail
  rw [← HW.out, ← hpx]
  clear hpx HW
  rw [← hN] at e0 hbx ⊢
  have HN := Lib.hid hN
  clear hN
  go_wp2_with (at_make; refine makeT E_intT (n := N) rfl rfl rfl rfl (by omega) (by unfold maxLen; omega) ?_; intro w4 hO4 hb4)
  rw [made_ints] at hO4
  have hbu := BoxL.of_owns hO4
  obtain ⟨pu, hpu⟩ : ∃ p, p = w0.heap.size := ⟨_, rfl⟩
  rw [← hpu] at hbu
  try rw [← hpu]
  have HPU : Hid (w.heap.size ≤ pu ∧ B ≤ pu ∧ px ≠ pu) := Lib.hid (by have := HPX.out; have := hbf.size; omega)
  replace hbx := hbx.kept hb4
  replace hT := hT.low (Low.of_below hb4 (Nat.le_trans hBw hbf.size))
  replace hbf := hbf.trans (hb4.mono hbf.size)
  have HU : Hid (upN N ((0 : Nat) : Int) (t.nodes.drop 0) (List.replicate N (-1)) = upT t) := Lib.hid (by unfold upT TR.N; rw [← HN.out]; rfl)
  have hbu0 : BoxL w4 pu (icel ((List.replicate N (-1 : Int)).map (· + 1))) := by simpa using hbu
  clear hO4 hb4 hpu e0 hbu
  go_loopg [4] N (fun gg iv wr => ∃ (i : Nat) (up : List Int), i + gg = N ∧ iv = .int .i64 (i : Int) ∧ Hid (up.length = N) ∧ Hid (upN N (i : Int) (t.nodes.drop i) up = upT t) ∧ BoxL wr pu (icel (up.map (· + 1))) ∧ BoxL wr px [.slice no N nc, .int .i64 t.ms, .int .i64 t.nt] ∧ Hid (TrIs B wr t no nc) ∧ Below w.heap.size w wr)
  case atStart => exact ⟨0, List.replicate N (-1), by omega, rfl, Lib.hid (by simp), HU, hbu0, hbx, Lib.hid hT, hbf⟩
  clear hbx hT hbf hbu0 HU
  case round =>
    obtain ⟨i, up, hi, rfl, HUL, HU, hbu, hbx, HT, hbf⟩ := hrel
    have e0 := hbx.cell 0 _ rfl
    by_cases hil : i < N
    case pos =>
      have hii : ((i : Nat) : Int) < ((N : Nat) : Int) := by omega
      have hqi : (0 : Int) ≤ (i : Int) := by omega
      obtain ⟨x, hx9⟩ : ∃ k, t.nodes[i]? = some k := ⟨_, List.getElem?_eq_getElem (by have := HN.out; omega)⟩
      have hkl := HKK.out i x hx9
      have hdr : t.nodes.drop i = x :: t.nodes.drop (i + 1) := by rw [List.drop_eq_getElem_cons (by have := HN.out; omega), (List.getElem?_eq_some_iff.1 hx9).2]
      rw [hdr, upN] at HU
      have HX9 := Lib.hid hx9
      have HUI : Hid ((upK N (i : Int) (x.kids.drop 0) up).bind (upN N ((i : Int) + 1) (t.nodes.drop (i + 1))) = upT t) := HU
      clear HU hdr hx9
      go_wp2_with fail
      clear e0
      obtain ⟨go, hgo⟩ : ∃ go, go = gk := ⟨_, rfl⟩
      subst hgo
      obtain ⟨w6, hw6⟩ : ∃ W, W = wr := ⟨_, rfl⟩
      subst hw6
      go_loopg [5] x.kids.length (fun gg jv wr => ∃ (j : Nat) (up : List Int), j + gg = x.kids.length ∧ jv = .int .i64 (j : Int) ∧ Hid (up.length = N) ∧ Hid ((upK N (i : Int) (x.kids.drop j) up).bind (upN N ((i : Int) + 1) (t.nodes.drop (i + 1))) = upT t) ∧ BoxL wr pu (icel (up.map (· + 1))) ∧ BoxL wr px [.slice no N nc, .int .i64 t.ms, .int .i64 t.nt] ∧ Hid (TrIs B wr t no nc) ∧ Below w.heap.size w wr)
      case atStart => exact ⟨0, up, by omega, rfl, HUL, HUI, hbu, hbx, HT, hbf⟩
      clear hbx HT hbf hbu HUI
      case round =>
        obtain ⟨j, up2, hj, rfl, HUL2, HU, hbu, hbx, HT, hbf⟩ := hrel
        obtain ⟨nb, noff, l, hno, hbB, hNI, hnd⟩ := HT.out.at_ i x HX9.out
        have e0 := hbx.cell 0 _ rfl
        rw [hno] at e0
        have hno9 := Lib.hid hno
        have c6 := hnd.c6
        clear hno hnd hbB
        by_cases hjl : j < x.kids.length
        case pos =>
          have hjj : ((j : Nat) : Int) < ((x.kids.length : Nat) : Int) := by omega
          have hqj : (0 : Int) ≤ (j : Int) := by omega
          obtain ⟨k, hk9⟩ : ∃ k, x.kids[j]? = some k := ⟨_, List.getElem?_eq_getElem hjl⟩
          have hdr : x.kids.drop j = k :: x.kids.drop (j + 1) := by rw [List.drop_eq_getElem_cons hjl, (List.getElem?_eq_some_iff.1 hk9).2]
          rw [hdr] at HU
          obtain ⟨kb, koff, hko, hkB, ck⟩ := hNI.k.at_ j k hk9
          rw [hko] at c6
          clear hdr hk9 hNI hko
          by_cases hb1 : k < 1
          · have HB2 : Hid (b = false) := Lib.hid (by rw [HB.out]; unfold shapeB; rw [← HU.out, upK_bad (.inl hb1)]; rfl)
            go_wp2_with fail
            go_ret
            exact ⟨ret_one (congrArg Value.bool HB2.out.symm), hbf⟩
          by_cases hb2 : (N : Int) ≤ k
          · have HB2 : Hid (b = false) := Lib.hid (by rw [HB.out]; unfold shapeB; rw [← HU.out, upK_bad (.inr (.inl hb2))]; rfl)
            go_wp2_with fail
            go_ret
            exact ⟨ret_one (congrArg Value.bool HB2.out.symm), hbf⟩
          obtain ⟨kn, rfl⟩ : ∃ n : Nat, k = (n : Int) := ⟨k.toNat, by omega⟩
          have hqk : (0 : Int) ≤ (kn : Int) := by omega
          have hkn : (kn : Int) < (N : Int) := by omega
          obtain ⟨u, hu9⟩ : ∃ u, up2[kn]? = some u := ⟨_, List.getElem?_eq_getElem (by have := HUL2.out; omega)⟩
          have eu := hbu.cell kn _ (icel_get (up_some hu9))
          have fu := hbu.free kn (by rw [icel_len, List.length_map]; have := HUL2.out; omega)
          by_cases hu : 0 < u + 1
          · have HB2 : Hid (b = false) := Lib.hid (by rw [HB.out]; unfold shapeB; rw [← HU.out, upK_bad (.inr (.inr (by rw [Int.toNat_natCast, hu9]; simp only [Option.getD_some]; omega)))]; rfl)
            clear hu9 fu
            go_wp2_with fail
            go_ret
            exact ⟨ret_one (congrArg Value.bool HB2.out.symm), hbf⟩
          · have HU2 : Hid ((upK N (i : Int) (x.kids.drop (j + 1)) (up2.set kn (i : Int))).bind (upN N ((i : Int) + 1) (t.nodes.drop (i + 1))) = upT t) := Lib.hid (by
              rw [← HU.out, upK_good (by rw [Int.toNat_natCast, hu9]; simp only [Option.getD_some]; omega), Int.toNat_natCast])
            clear hu9
            go_wp2_with fail
            clear eu fu ck e0 c6
            go_roundg (gk - 1)
            case measure => omega
            case rel =>
              refine ⟨j + 1, up2.set kn (i : Int), by omega, by go_num, Lib.hid (by rw [List.length_set]; exact HUL2.out), HU2, ?_, hbx.setOther HPU.out.2.2 _ _, Lib.hid (HT.out.low (fun k hk => heap_set_ne (by have := HPU.out; omega))), hbf.setCell (p := ⟨pu, kn, none⟩) HPU.out.1 _⟩
              have := hbu.set kn (.int .i64 ((i : Int) + 1)) (by rw [icel_len, List.length_map]; have := HUL2.out; omega)
              rw [icel_set] at this
              rw [List.map_set]
              exact this
        case neg =>
          have hjj : ¬ ((j : Nat) : Int) < ((x.kids.length : Nat) : Int) := by omega
          have HU3 : Hid (upN N (((i + 1 : Nat)) : Int) (t.nodes.drop (i + 1)) up2 = upT t) := Lib.hid (by
            rw [← HU.out, List.drop_eq_nil_of_le (show x.kids.length ≤ j by omega), upK]; rfl)
          clear hNI
          go_wp2_with fail
          go_roundg (go - 1)
          case measure => omega
          case rel => exact ⟨i + 1, up2, by omega, by go_num, HUL2, HU3, hbu, hbx, HT, hbf⟩
    case neg =>
    have hii : ¬ ((i : Nat) : Int) < ((N : Nat) : Int) := by omega
    have hup : upT t = some up := by rw [← HU.out, List.drop_eq_nil_of_le (by have := HN.out; omega), upN]
    have hio : t.N = N := by unfold TR.N; exact HN.out.symm
    have HON : Hid (OnceT t up) := Lib.hid (upT_once hup)
    obtain ⟨L, hLL⟩ : ∃ L, L = dfsAll (kidsT t) N := ⟨_, rfl⟩
    have HLL := Lib.hid hLL
    have e1 := hbx.cell 1 _ rfl
    have e2 := hbx.cell 2 _ rfl
    have hBr : B ≤ wr.heap.size := by have := HPU.out; have := hbu.lt; omega
    by_cases hN0 : N = 0
    case pos =>
      have HB2 : Hid (b = false) := Lib.hid (by rw [HB.out]; unfold shapeB; rw [hup, hio, hN0]; rfl)
      subst hN0
      clear hup hio hi hil HUL HU hbu
      go_wp2_with fail
      (with_reducible refine (rwalk_none no nc t.ms t.nt _).mono ?_)
      rintro e w7 ⟨rfl, hb⟩
      replace hbx := hbx.kept hb
      replace hbf := hbf.trans (hb.mono hbf.size)
      clear e0 e1 e2
      have e0 := hbx.cell 0 _ rfl
      go_wp2_with fail
      go_ret
      exact ⟨ret_one (congrArg Value.bool HB2.out.symm), hbf⟩
    case neg =>
    have hN1 : (0 : Int) < ((N : Nat) : Int) := by omega
    have hof := (upT_once hup).f
    rw [hio] at hof
    have hW := dfsAll_inv hof (show 0 < N by omega)
    have hlenL : 0 < L.length ∧ L.length ≤ N := by
      have h1 := hW.len
      have h2 : (0, 1) ∈ dfsAll (kidsT t) N := dfsAll_root
      rw [← hLL] at h1 h2
      exact ⟨List.length_pos_of_mem h2, by simpa using h1⟩
    have HB3 : Hid (b = decide (L.length = N)) := Lib.hid (by
      rw [HB.out]
      unfold shapeB
      rw [hup, hio, decide_eq_true (show 0 < N by omega)]
      have hp := dfsAll_perm (show 0 < N by omega) hof hof.rev (fun x k => by simp)
      show (true && decide ((dfsAll (fun x => (kidsT t x).reverse) N).length = N)) = _
      rw [← hp.1, ← hLL]
      rfl)
    have HLN := Lib.hid hlenL
    clear hup hio hi hil HUL HU hbu hof hW hlenL hLL
    go_wp2_with fail
    (with_reducible refine (rwalk_any t N L no nc B _ HT hBr HN hNl (by omega) (Lib.hid ⟨up, HON.out⟩) HSZ HLL HLN).mono ?_)
    rintro e w7 ⟨⟨ao, ac, bo, bc, rfl, -, -⟩, hb⟩
    replace hbx := hbx.kept hb
    replace hbf := hbf.trans (hb.mono hbf.size)
    clear e0 e1 e2
    have e0 := hbx.cell 0 _ rfl
    by_cases hv : L.length = N
    · have HB2 : Hid (b = true) := Lib.hid (by rw [HB3.out, decide_eq_true hv])
      have hvb : (((L.length : Nat) : Int) == ((N : Nat) : Int)) = true := by rw [beq_iff_eq]; omega
      clear hv
      go_wp2_with fail
      go_ret
      exact ⟨ret_one (congrArg Value.bool HB2.out.symm), hbf⟩
    · have HB2 : Hid (b = false) := Lib.hid (by rw [HB3.out, decide_eq_false hv])
      have hvb : (((L.length : Nat) : Int) == ((N : Nat) : Int)) = false := by rw [beq_eq_false_iff_ne]; omega
      clear hv
      go_wp2_with fail
      go_ret
      exact ⟨ret_one (congrArg Value.bool HB2.out.symm), hbf⟩
end Go.Proofs.YtlmjkbdodecbmaaGreatDoor
