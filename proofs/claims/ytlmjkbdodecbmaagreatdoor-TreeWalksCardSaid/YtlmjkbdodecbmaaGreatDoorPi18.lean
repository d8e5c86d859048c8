/-
  Pi18: PrdC (what is needed of them).
-/
import Derived.Test.YtlmjkbdodecbmaaGreatDoorPi17
import Derived.Sort.CutIn

namespace Go.Proofs.YtlmjkbdodecbmaaGreatDoor
open Go.RowKit Go.Shelf
set_option linter.unusedVariables false
set_option linter.unusedSimpArgs false
attribute [local go_sem] Oper.semAt_some field_nat
/-- A place's cells: a predicate, its depth. -/
abbrev plc (x : PT × Nat) (vo : Option Addr) (vc : Nat) (ko : Option Addr) (kc : Nat) : List Value := [.int .i64 x.1.op, .int .i64 x.1.fld, .slice vo x.1.vals.length vc, .slice ko x.1.kids.length kc, .int .i64 (x.2 : Int)]
/-- What stands on the heap of places. -/
def StkC (B : Nat) (w : World) : List (PT × Nat) → List Value → Prop
  | [], xs => xs = []
  | x :: st, xs => ∃ (vo : Option Addr) (vc : Nat) (ko : Option Addr) (kc : Nat) (r : List Value), PtIs B w x.1 vo vc ko kc ∧ StkC B w st r ∧ xs = plc x vo vc ko kc ++ r
theorem StkC.low {B : Nat} {w w' : World} (hl : Low B w w') : ∀ {st : List (PT × Nat)} {xs : List Value}, StkC B w st xs → StkC B w' st xs := by
  intro st
  induction st with
  | nil => intro xs h; exact h
  | cons x st ih =>
    rintro xs ⟨vo, vc, ko, kc, r, h1, h2, h3⟩
    exact ⟨vo, vc, ko, kc, r, h1.low hl, ih h2, h3⟩
theorem StkC.len {B : Nat} {w : World} : ∀ {st : List (PT × Nat)} {xs : List Value}, StkC B w st xs → xs.length = st.length * 5 := by
  intro st
  induction st with
  | nil => intro xs h; rw [show xs = [] from h]; rfl
  | cons x st ih =>
    rintro xs ⟨vo, vc, ko, kc, r, h1, h2, rfl⟩
    rw [List.length_append, ih h2, List.length_cons]
    simp; omega
theorem StkC.snoc {B : Nat} {w : World} {x : PT × Nat} {vo : Option Addr} {vc : Nat} {ko : Option Addr} {kc : Nat} (hx : PtIs B w x.1 vo vc ko kc) : ∀ {st : List (PT × Nat)} {xs : List Value}, StkC B w st xs → StkC B w (st ++ [x]) (xs ++ plc x vo vc ko kc) := by
  intro st
  induction st with
  | nil => intro xs h; rw [show xs = [] from h]; exact ⟨vo, vc, ko, kc, [], hx, rfl, by simp⟩
  | cons y st ih =>
    rintro xs ⟨uo, uc, lo, lc, r, h1, h2, rfl⟩
    exact ⟨uo, uc, lo, lc, r ++ plc x vo vc ko kc, h1, ih h2, by rw [List.append_assoc]⟩
theorem StkC.pop {B : Nat} {w : World} {x : PT × Nat} : ∀ {st : List (PT × Nat)} {xs : List Value}, StkC B w (st ++ [x]) xs → ∃ (r : List Value) (vo : Option Addr) (vc : Nat) (ko : Option Addr) (kc : Nat), xs = r ++ plc x vo vc ko kc ∧ StkC B w st r ∧ PtIs B w x.1 vo vc ko kc := by
  intro st
  induction st with
  | nil =>
    rintro xs ⟨vo, vc, ko, kc, r, h1, h2, rfl⟩
    rw [show r = [] from h2]
    exact ⟨[], vo, vc, ko, kc, by simp, rfl, h1⟩
  | cons y st ih =>
    rintro xs ⟨uo, uc, lo, lc, r, h1, h2, rfl⟩
    obtain ⟨r', vo, vc, ko, kc, rfl, h3, h4⟩ := ih h2
    exact ⟨plc y uo uc lo lc ++ r', vo, vc, ko, kc, by rw [List.append_assoc], ⟨uo, uc, lo, lc, r', h1, h3, rfl⟩, h4⟩
theorem OwnsK.pop {K base : Nat} {e : TypeId} {w : World} {g n cap : Nat} {xs r : List Value} (h : OwnsK K base e w (.slice (some ⟨g, 0, none⟩) (n + 1) cap) (n + 1) xs) (hr : r.length = n * K) (hx : r <+: xs) : OwnsK K base e w (.slice (some ⟨g, 0, none⟩) n cap) n r := by
  obtain ⟨h1, h2⟩ := h
  refine ⟨hr, .inr ?_⟩
  rcases h2 with ⟨h2, _⟩ | ⟨g', cap', cur, e1, h3, h4, h5, h6, h7, h8⟩
  · cases h2
  · cases e1
    refine ⟨g, cap, cur, rfl, h3, h4, by omega, h6, h7, ?_⟩
    obtain ⟨t, rfl⟩ := hx
    have h9 := congrArg (List.take (n * K)) h8
    rw [List.take_take, Nat.min_eq_left (Nat.mul_le_mul_right _ (by omega)), List.take_left' hr] at h9
    exact h9
theorem OwnsK.cellAt {K base : Nat} {e : TypeId} {w : World} {g n cap : Nat} {xs : List Value} (h : OwnsK K base e w (.slice (some ⟨g, 0, none⟩) n cap) n xs) {j : Nat} {c : Value} (hj : xs[j]? = some c) : w.cell? ⟨g, j, none⟩ = some c := by
  rcases h.shape with ⟨h1, _⟩ | ⟨g', cap', e1, _, _, _, _, h5, _⟩
  · cases h1
  · cases e1
    have hl := h.len
    have := (List.getElem?_eq_some_iff.1 hj).1
    rw [h5 j (by omega), hj]
theorem Foot.then_oth {S S' : Nat → Prop} {D : Nat} {A W W' : World} (h : Foot S S' A W) (ho : Oth D S' W W') (hD : A.heap.size ≤ D) : Foot S S' A W' :=
  ⟨ho.os.trans h.os, ho.tape.trans h.tape, ho.output.trans h.output, Nat.le_trans h.size ho.size, fun k hk hs => (ho.same k (Nat.lt_of_lt_of_le hk h.size) (.inl (by omega))).trans (h.same k hk hs), h.fresh⟩
theorem Oth.low {D B : Nat} {S : Nat → Prop} {W W' : World} (h : Oth D S W W') (hB : B ≤ D) (hW : B ≤ W.heap.size) : Low B W W' := fun k hk => h.same k (by omega) (.inl (by omega))
def PdEnc (B : Nat) (W : World) (v : Array Value) (x : PT × Nat) : Prop := ∃ (vo : Option Addr) (vc : Nat) (ko : Option Addr) (kc : Nat), v = #[predV x.1 vo vc ko kc, .int .i64 (x.2 : Int)] ∧ PtIs B W x.1 vo vc ko kc
abbrev walkF : Nat := 131
theorem enters_walk1 : ∀ args w, (callFunc walkF args).run Tryz.prog w = .ok (.enter walkF args) w := enters_of Tryz.func131 (by kernel_rfl) rfl
theorem E_place : ElemK Tryz.prog 187 186 (.agg #[.int .i64 0, .int .i64 0, .slice none 0 0, .slice none 0 0, .int .i64 0]) 5 72 := elemK_of Tryz.underlying187 (by kernel_rfl) rfl (by decide)
theorem todoP_len (st : List (PT × Nat)) : st.length ≤ (todoP st).length := by
  unfold todoP
  rw [← List.length_reverse]
  generalize st.reverse = l
  induction l with
  | nil => exact Nat.le_refl _
  | cons x l ih =>
    rw [List.flatMap_cons, List.length_append, List.length_cons, walkP_eq, List.length_cons]
    omega
theorem walksP_len (ks : List PT) (d : Nat) : ks.length ≤ (walksP d ks).length := by
  induction ks with
  | nil => exact Nat.zero_le _
  | cons k ks ih =>
    rw [walksP, List.length_append, List.length_cons, walkP_eq, List.length_cons]
    omega
theorem not_deferred {w : World} {b i : Nat} {v : Value} {d : Option (List Deferred)} (h : w.cell? ⟨b, i, none⟩ = some v) (hd : w.heap[b]? = some (.deferred d)) : False := by
  unfold World.cell? at h
  rw [hd] at h
  cases h
/-- The heap of places while kids are put on it. -/
def WkI (B D0 pt g d : Nat) (wB : World) (st : List (PT × Nat)) (pre2 : List PT) (S2 : Nat → Prop) (W : World) : Prop := ∃ (qo : Option Addr) (qn qc : Nat) (xs : List Value), (S2 = fun k => k = pt ∨ (Value.slice qo qn qc).ownBlock = some k) ∧ BoxL W pt [.slice qo qn qc] ∧ OwnsK 5 D0 186 W (.slice qo qn qc) (st ++ pre2.map (fun k => (k, d + 1))).length xs ∧ StkC B W (st ++ pre2.map (fun k => (k, d + 1))) xs ∧ Keep (fun k => k = pt ∨ k = g) wB W ∧ (∀ k, (Value.slice qo qn qc).ownBlock = some k → (k = g ∨ wB.heap.size ≤ k) ∧ k ≠ pt)
theorem WkI.mk {B D0 pt g d : Nat} {wB : World} {st : List (PT × Nat)} {pre2 : List PT} {S2 : Nat → Prop} {W : World} {qo : Option Addr} {qn qc : Nat} {xs : List Value} (h1 : S2 = fun k => k = pt ∨ (Value.slice qo qn qc).ownBlock = some k) (h2 : BoxL W pt [.slice qo qn qc]) (h3 : OwnsK 5 D0 186 W (.slice qo qn qc) (st ++ pre2.map (fun k => (k, d + 1))).length xs) (h4 : StkC B W (st ++ pre2.map (fun k => (k, d + 1))) xs) (h5 : Keep (fun k => k = pt ∨ k = g) wB W) (h6 : ∀ k, (Value.slice qo qn qc).ownBlock = some k → (k = g ∨ wB.heap.size ≤ k) ∧ k ≠ pt) : WkI B D0 pt g d wB st pre2 S2 W := ⟨qo, qn, qc, xs, h1, h2, h3, h4, h5, h6⟩
theorem todoP_kids (st : List (PT × Nat)) (d : Nat) : ∀ ks : List PT, todoP (st ++ ks.reverse.map (fun k => (k, d))) = walksP d ks ++ todoP st := by
  intro ks
  induction ks with
  | nil => simp [walksP]
  | cons k ks ih =>
    rw [List.reverse_cons, List.map_append, ← List.append_assoc, List.map_singleton, todoP_push, ih, walksP, List.append_assoc]
/-- Blocks that stay: all below B, and one. -/
def Res (B px : Nat) : Nat → Prop := fun k => k < B ∨ k = px
theorem res_out {B px k : Nat} (h : ¬ Res B px k) : B ≤ k ∧ k ≠ px := ⟨Nat.le_of_not_lt fun h1 => h (.inl h1), fun h1 => h (.inr h1)⟩
theorem res_lt {B px k n : Nat} (hB : B ≤ n) (hp : px < n) (h : Res B px k) : k < n := by rcases h with h | h <;> omega
set_option maxRecDepth 100000 in
set_option maxHeartbeats 4000000 in
theorem walk1_iter (B : Nat) (p : PT) (vo : Option Addr) (vc : Nat) (ko : Option Addr) (kc : Nat) (px : Nat) (w : World) (hP : PtIs B w p vo vc ko kc) (hBw : B ≤ w.heap.size) (hpw : px < w.heap.size) (hsz : sizeP p ≤ 2000)
    (hx : At4 w px 0 (.int .i64 p.op) (.int .i64 p.fld) (.slice vo p.vals.length vc) (.slice ko p.kids.length kc)) :
    IterW Tryz.prog walkF #[.pointer (some ⟨px, 0, none⟩)] (PdEnc B) (walkP 1 p) (Res B px) w := by
  intro l9 J Jx S0 W1 hW1 hS0 hJ hJx hY h0
  replace hx := hx.kept hW1
  replace hP := hP.low (Low.of_below hW1 hBw)
  have hBw1 : B ≤ W1.heap.size := Nat.le_trans hBw hW1.size
  have hpw1 : px < W1.heap.size := Nat.lt_of_lt_of_le hpw hW1.size
  obtain ⟨x0, x1, x2, x3⟩ := hx
  have HP := Lib.hid hP
  have HY := Lib.hid hY
  clear hY hP
  obtain ⟨wl, hwl⟩ : ∃ wl, wl = walkP 1 p := ⟨_, rfl⟩
  rw [← hwl] at HY ⊢
  have HWL := Lib.hid hwl
  clear hwl
  obtain ⟨D0, hD0⟩ : ∃ D, D = W1.heap.size := ⟨_, rfl⟩
  have HC1 : Hid (∀ (vs : PT), vs = p → plc (p, 1) vo vc ko kc = [.int .i64 p.op, .int .i64 p.fld, .slice vo p.vals.length vc, .slice ko p.kids.length kc, .int .i64 1]) := Lib.hid (fun _ _ => rfl)
  refine callsIn_of_wp_marks Tryz.func131 rfl (by trivial) ?_ rfl
  simp only [IterArgs, Tryz.ntmps131, List.size_toArray, List.length_cons, List.length_nil, Nat.reduceAdd, Nat.reduceSub, Array.replicate_succ, Array.replicate_zero, List.push_toArray, List.append_toArray, List.nil_append, List.cons_append]
  gi_wp2_with fail
  obtain ⟨wa, hwa⟩ : ∃ W, W = ((W1.alloc (.cells #[.int .i64 p.op, .int .i64 p.fld, .slice vo p.vals.length vc, .slice ko p.kids.length kc, .int .i64 1] 186)).alloc (.cells #[.slice (some ⟨W1.heap.size, 0, none⟩) 1 1] 187)) := ⟨_, rfl⟩
  have hba : Below W1.heap.size W1 wa := by rw [hwa]; exact (((Below.refl _ W1).alloc (Nat.le_refl _) _).alloc (by simp <;> omega) _)
  have hO0 : OwnsK 5 W1.heap.size 186 wa (.slice (some ⟨W1.heap.size, 0, none⟩) 1 1) 1 (plc (p, 1) vo vc ko kc) := by
    rw [hwa]
    refine ⟨rfl, .inr ⟨W1.heap.size, 1, (plc (p, 1) vo vc ko kc).toArray, rfl, Nat.le_refl _, ?_, Nat.le_refl _, by decide, rfl, rfl⟩⟩
    rw [Below.heap_alloc _ _ _ (by simp)]
    exact heap_alloc_new W1 _
  obtain ⟨pt, hpt⟩ : ∃ q, q = W1.heap.size + 1 := ⟨_, rfl⟩
  have hbt : BoxL wa pt [.slice (some ⟨W1.heap.size, 0, none⟩) 1 1] := by rw [hwa, hpt]; exact BoxL.of1 (by go_simp) (by go_simp)
  rw [← hwa, ← hpt]
  rw [← hD0] at hO0 hbt hba hpt
  have HPT : Hid (pt = D0 + 1) := Lib.hid hpt
  clear hwa hpt x0 x1 x2 x3
  have hja := hJ _ _ _ _ h0 (Oth.of_below (hba.mono (Nat.le_of_eq hD0.symm)))
  refine wpIn_loop_ghost_k (fun g a' wr => ∃ (u4 u5 u6 u7 u8 u9 u10 u11 u12 u13 u14 u15 u16 u17 u18 u19 u20 u21 u22 u23 u24 u25 u26 u27 u28 u29 u30 u31 u32 u33 u34 u35 u36 u37 u38 u39 u40 u41 u42 u43 u44 : Value) (ds : List Deferred), (∃ (pre st : List (PT × Nat)) (S : Nat → Prop) (qo : Option Addr) (qn qc : Nat) (xs : List Value), pre ++ todoP st = wl ∧ g = (todoP st).length ∧ BoxL wr pt [.slice qo qn qc] ∧ OwnsK 5 D0 186 wr (.slice qo qn qc) st.length xs ∧ StkC B wr st xs ∧ J pre S wr ∧ Top S wr ∧ Foot S0 S W1 wr ∧ ¬ S pt ∧ (∀ g, (Value.slice qo qn qc).ownBlock = some g → ¬ S g ∧ g ≠ pt) ∧ (∀ k, S k → ¬ Res B px k) ∧ Marks D0 S wr ds) ∧ a' = { tmps := #[Value.func (Fn.yield l9) #[] #[], Value.pointer (some ⟨px, 0, none⟩), undef, Value.pointer (some ⟨pt, 0, none⟩), u4, u5, u6, u7, u8, u9, u10, u11, u12, u13, u14, u15, u16, u17, u18, u19, u20, u21, u22, u23, u24, u25, u26, u27, u28, u29, u30, u31, u32, u33, u34, u35, u36, u37, u38, u39, u40, u41, u42, u43, u44], defers := ds }) wl.length ?_ ?_
  · refine ⟨_, _, _, _, _, _, _, _, _, _, _, _, _, _, _, _, _, _, _, _, _, _, _, _, _, _, _, _, _, _, _, _, _, _, _, _, _, _, _, _, _, [], ⟨[], [(p, 1)], S0, some ⟨D0, 0, none⟩, 1, 1, _, by rw [HWL.out]; simp [todoP], by rw [HWL.out]; simp [todoP], by rw [hD0] at hbt ⊢; exact hbt, by rw [hD0] at hO0 ⊢; exact hO0, StkC.snoc (st := []) (HP.out.low (Low.of_below hba (by omega))) (rfl : StkC B wa [] []), hja, fun k hk => by have := (hS0 k hk).2; have := hba.size; omega, (Foot.of_below (by rw [← hD0]; exact hba)), fun h => by have := (hS0 _ h).2; have := HPT.out; omega, fun g hg => by simp [Value.ownBlock] at hg; subst hg; exact ⟨fun h => by have := (hS0 _ h).2; omega, by have := HPT.out; omega⟩, fun k hk => (hS0 k hk).1, Marks.nil _ _ _⟩, rfl⟩
  intro gk a' wr hinv J9 K9 hJ9 hK9
  obtain ⟨u4, u5, u6, u7, u8, u9, u10, u11, u12, u13, u14, u15, u16, u17, u18, u19, u20, u21, u22, u23, u24, u25, u26, u27, u28, u29, u30, u31, u32, u33, u34, u35, u36, u37, u38, u39, u40, u41, u42, u43, u44, ds, ⟨pre, st, S, qo, qn, qc, xs, hpre, hg, hbt, hO, hst, hJs, hT, hF, hnp, hng, hSB, hM⟩, rfl⟩ := hinv
  clear hja hO0 hba
  rcases List.eq_nil_or_concat st with rfl | ⟨st', x, rfl⟩
  · have e0 := hbt.cell 0 _ rfl
    have h00 : xs = [] := hst
    obtain ⟨uo, uc, hue, _, _, _⟩ := hO.slice
    cases hue
    have hpw : pre = wl := by rw [← hpre]; simp [todoP]
    gi_wp2_with fail
    refine leaves_marks (D0 := D0) rfl _ _ hM (fun W' hW' => ?_)
    exact ⟨⟨_, rfl⟩, .inl ⟨S, by rw [← hpw]; exact hJ _ _ _ _ hJs (by rw [← hD0]; exact hW'), hF.then_oth hW' (by omega)⟩⟩
  · rw [List.concat_eq_append] at hpre hg hO hst
    obtain ⟨r, yvo, yvc, yko, ykc, rfl, hst1, hX⟩ := hst.pop
    have hrl := hst1.len
    have hl1 : (st' ++ [x]).length = st'.length + 1 := by simp
    rw [hl1] at hO
    rcases hO.shape with ⟨_, h9⟩ | ⟨g, cap, hv, hgB, hgw, hn1, hn2, _, _⟩
    · omega
    cases hv
    have hlen6 : pre.length + (todoP (st' ++ [x])).length ≤ 2000 := by
      rw [← List.length_append, hpre, HWL.out]
      exact Nat.le_trans (walkP_len p 1) hsz
    have htl := todoP_len (st' ++ [x])
    rw [hl1] at htl
    have hxm : x ∈ wl := by rw [← hpre, todoP_pop]; simp
    have hxd := walkP_depth p 1 x (by rw [← HWL.out]; exact hxm)
    have hd600 : x.2 ≤ 2001 := by omega
    have hrem : pre.length + 1 + (st'.length + x.1.kids.length) ≤ 2000 := by
      rw [todoP_pop, List.length_cons, List.length_append] at hlen6
      have := walksP_len x.1.kids (x.2 + 1)
      have := todoP_len st'
      omega
    have hprx : pre ++ [x] <+: wl := ⟨walksP (x.2 + 1) x.1.kids ++ todoP st', by rw [← hpre, todoP_pop]; simp⟩
    have HPRE : Hid (pre ++ [x] ++ (walksP (x.2 + 1) x.1.kids ++ todoP st') = wl) := Lib.hid (by rw [← hpre, todoP_pop]; simp)
    have HG : Hid (gk = (todoP st').length + (walksP (x.2 + 1) x.1.kids).length + 1) := Lib.hid (by rw [hg, todoP_pop]; simp; omega)
    have hgng := (hng g rfl).1
    have hgpt := (hng g rfl).2
    have hptl := hbt.lt
    have hBr : B ≤ wr.heap.size := by have := hF.size; omega
    have hDp : D0 ≤ pt := by have := HPT.out; omega
    have hkey : ∀ (j : Nat) (c : Value), (plc x yvo yvc yko ykc)[j]? = some c → wr.cell? ⟨g, st'.length * 5 + j, none⟩ = some c := fun j c hj => hO.cellAt (by
      rw [List.getElem?_append_right (by omega), show st'.length * 5 + j - r.length = j by omega]; exact hj)
    have hOp := hO.pop hrl (List.prefix_append _ _)
    have k0 := hkey 0 _ rfl
    have k1 := hkey 1 _ rfl
    have k2 := hkey 2 _ rfl
    have k3 := hkey 3 _ rfl
    have k4 := hkey 4 _ rfl
    have e0 := hbt.cell 0 _ rfl
    have f0 := hbt.free 0 (by simp)
    obtain ⟨w2, hw2⟩ : ∃ W, W = wr.setCell ⟨pt, 0, none⟩ (.slice (some ⟨g, 0, none⟩) st'.length qc) := ⟨_, rfl⟩
    have hsz2 : w2.heap.size = wr.heap.size := by rw [hw2]; simp [World.setCell]
    obtain ⟨w3, hw3⟩ : ∃ W, W = w2.alloc (.cells #[.int .i64 x.1.op, .int .i64 x.1.fld, .slice yvo x.1.vals.length yvc, .slice yko x.1.kids.length ykc, .int .i64 (x.2 : Int)] 186) := ⟨_, rfl⟩
    have hb3 : Below w2.heap.size w2 w3 := by rw [hw3]; exact (Below.refl _ w2).alloc (Nat.le_refl _) _
    obtain ⟨py, hpy⟩ : ∃ q, q = wr.heap.size := ⟨_, rfl⟩
    have hby3 : BoxL w3 py (plc x yvo yvc yko ykc) := by rw [hw3, hpy, ← hsz2]; exact BoxL.new w2 _ _
    have hoth : Oth D0 S wr w3 := (by rw [hw2]; exact (Oth.refl _ _ _).set _ hDp hnp : Oth D0 S wr w2).trans (Oth.of_below hb3)
    have hK3 : Keep (fun k => k = pt) wr w3 := (by rw [hw2]; exact (Keep.refl _ wr).set pt 0 _ (.inl rfl) : Keep (fun k => k = pt) wr w2).then_below hb3
    have hbt3 : BoxL w3 pt [.slice (some ⟨g, 0, none⟩) st'.length qc] := (by rw [hw2]; exact hbt.set 0 _ (by simp) : BoxL w2 pt [.slice (some ⟨g, 0, none⟩) st'.length qc]).kept hb3
    have hO3 := hOp.keep hK3 (fun k hk => by simp [Value.ownBlock] at hk; subst hk; exact hgpt)
    have hFl3 := hF.then_oth hoth (Nat.le_of_eq hD0.symm)
    have hlow3 : Low B wr w3 := hoth.low (by omega) hBr
    have hX3 := hX.low hlow3
    have hst3 := hst1.low hlow3
    have hJ3 := hJ _ _ _ _ hJs (by rw [← hD0]; exact hoth)
    have hM3 : Marks D0 S w3 ds := hM.keep (fun k _ h => h) (fun k hk _ _ => hK3.same k (Array.getElem?_eq_some_iff.1 hk).1 (fun e => by
      have e2 : k = pt := e
      subst e2
      exact not_deferred e0 hk))
    have hT3 : Top S w3 := fun k hk => Nat.lt_of_lt_of_le (hT k hk) hoth.size
    have hgw3 : g < w3.heap.size := Nat.lt_of_lt_of_le hgw hoth.size
    obtain ⟨fn, tmps, assign, body, hy, hR⟩ := HY.out pre x #[predV x.1 yvo yvc yko ykc, .int .i64 (x.2 : Int)] S w3 hJ3 ⟨_, _, _, _, rfl, hX3⟩ hprx
    have HR := Lib.hid hR
    dsimp only [predV] at hy
    have HW : Hid (w3 = (wr.setCell ⟨pt, 0, none⟩ (.slice (some ⟨g, 0, none⟩) st'.length qc)).alloc (.cells #[.int .i64 x.1.op, .int .i64 x.1.fld, .slice yvo x.1.vals.length yvc, .slice yko x.1.kids.length ykc, .int .i64 (x.2 : Int)] 186)) := Lib.hid (by rw [hw3, hw2])
    have hpyw : wr.heap.size = py := hpy.symm
    have HPY := Lib.hid hpyw
    have HPP : Hid (pt ≠ py) := Lib.hid (by omega)
    have HPG : Hid (g ≠ py) := Lib.hid (by omega)
    have hpyl : py < w3.heap.size := hby3.lt
    have hSpy : ¬ S py := fun h => by have := hT _ h; omega
    have hptw3 : pt < w3.heap.size := hbt3.lt
    clear hR hw3 hw2 hb3 hsz2 hOp hO hkey hoth hK3 hJs hJ3 hM hF hT hX hst1 hst hbt hng hlen6 htl hxm hxd hprx hpre hg hlow3 hpy hpyw
    have q1 : ((st'.length : Nat) : Int) < ((st'.length + 1 : Nat) : Int) := by omega
    have q2 : (0 : Int) ≤ ((st'.length : Nat) : Int) := by omega
    have q3 : st'.length + 1 ≤ 2000 := by omega
    gi_upto_region 4 with fail
    rw [HPY.out]
    rw [← HW.out]
    clear HW HPY k0 k1 k2 k3 k4 e0 f0
    have y0 := hby3.cell 0 _ rfl
    have y1 := hby3.cell 1 _ rfl
    have y2 := hby3.cell 2 _ rfl
    have y3 := hby3.cell 3 _ rfl
    have y4 := hby3.cell 4 _ rfl
    gi_wp2_with fail
    refine ⟨rfl, HR.out.mono ?_⟩
    clear y0 y1 y2 y3 y4 HR hy
    rintro e W4 (⟨rfl, S4, hJ4, hF4, hT4⟩ | ⟨rfl, S4, hJ4, hF4⟩)
    case inr =>
      gi_wp2_with fail
      refine leaves_marks (D0 := D0) (S := S4) rfl _ _ ?_ (fun W' hW' => ?_)
      · refine hM3.keep (fun k hk h => ?_) (fun k hk _ hs => hF4.same k (Array.getElem?_eq_some_iff.1 hk).1 hs)
        rcases hF4.fresh k h with h1 | h1
        · exact h1
        · omega
      · exact ⟨⟨_, rfl⟩, .inr ⟨_, S4, ⟨_, HPRE.out⟩, hJx _ _ _ _ hJ4 (by rw [← hD0]; exact hW'), (hFl3.trans hF4).then_oth hW' (by omega)⟩⟩
    case inl =>
    have hS4 : ∀ k, S4 k → k < w3.heap.size → S k := fun k h hk => by
      rcases hF4.fresh k h with h1 | h1
      · exact h1
      · omega
    have hSB4 : ∀ k, S4 k → ¬ Res B px k := fun k h => by
      rcases hF4.fresh k h with h1 | h1
      · exact hSB k h1
      · exact fun hr => by have := res_lt hBw hpw hr; have := hFl3.size; have := hW1.size; omega
    have hnp4 : ¬ S4 pt := fun h => hnp (hS4 pt h hptw3)
    have hng4 : ¬ S4 g := fun h => hgng (hS4 g h hgw3)
    have hbt4 := hbt3.block (hF4.same pt hptw3 hnp)
    have hby4 := hby3.block (hF4.same py hpyl hSpy)
    have hO4 := hO3.block (fun k hk => by simp [Value.ownBlock] at hk; subst hk; exact hF4.same _ hgw3 hgng)
    have hlow4 : Low B w3 W4 := fun k hk => hF4.same k (by have := hFl3.size; omega) (fun h => by have := res_out (hSB k h); omega)
    have hX4 := hX3.low hlow4
    have hst4 := hst3.low hlow4
    have hM4 : Marks D0 S4 W4 ds := hM3.keep (fun k hk h => hS4 k h hk) (fun k hk _ hs => hF4.same k (Array.getElem?_eq_some_iff.1 hk).1 hs)
    have hFl4 := hFl3.trans hF4
    have hB4 : B ≤ W4.heap.size := by have := hFl4.size; omega
    have hpt4 := hbt4.lt
    have hpy4 := hby4.lt
    clear hbt3 hby3 hO3 hlow4 hX3 hst3 hM3 hFl3 hF4 hS4 hSB hnp hgng hSpy hptw3 hgw3 hpyl hT3
    obtain ⟨wB, hwB⟩ : ∃ W, W = W4.alloc (.cells #[.slice yko x.1.kids.length ykc] 32) := ⟨_, rfl⟩
    have hbB : Below W4.heap.size W4 wB := by rw [hwB]; exact (Below.refl _ W4).alloc (Nat.le_refl _) _
    obtain ⟨bs, hbs⟩ : ∃ q, q = W4.heap.size := ⟨_, rfl⟩
    have hcs : wB.cell? ⟨bs, 0, none⟩ = some (.slice yko x.1.kids.length ykc) := by rw [hwB, hbs]; go_simp
    have hszB : wB.heap.size = W4.heap.size + 1 := by rw [hwB]; simp
    have HW : Hid (wB = W4.alloc (.cells #[.slice yko x.1.kids.length ykc] 32)) := Lib.hid hwB
    have HBS := Lib.hid hbs
    have y0 := hby4.cell 0 _ rfl
    have y1 := hby4.cell 1 _ rfl
    have y2 := hby4.cell 2 _ rfl
    have y3 := hby4.cell 3 _ rfl
    have y4 := hby4.cell 4 _ rfl
    clear hwB
    gi_wp2_with fail
    refine ⟨trivial, rfl, callsIn_wide.2 ((backP_any yko x.1.kids.length ykc _).mono ?_)⟩
    rintro e w5 ⟨rfl, rfl⟩
    clear y0 y1 y2 y3 y4
    gi_wp2_with fail
    rw [← HW.out, ← HBS.out]
    have hbtB := hbt4.kept hbB
    have hbyB := hby4.kept hbB
    have hOB := hO4.kept hbB
    have hXB := hX4.low (Low.of_below hbB hB4)
    have hstB := hst4.low (Low.of_below hbB hB4)
    have hit0 := backP_iter B x.1 yvo yvc yko ykc bs D0 wB hXB (by omega) hcs
    have hMB : Marks D0 S4 wB ds := hM4.keep (fun _ _ h => h) (fun k hk _ _ => hbB.block k (Array.getElem?_eq_some_iff.1 hk).1)
    have HC2 := Lib.hid (not_deferred (hbtB.cell 0 _ rfl) (d := some []))
    have HC3 : Hid (∀ d, wB.heap[g]? = some (.deferred d) → False) := Lib.hid (fun d hd => by
      obtain ⟨o, h1, h2⟩ := hOB.at_cells g rfl
      rw [hd] at h1
      cases h1
      cases h2)
    have HKID : Hid (x.1.kids.reverse.length ≤ 2000) := Lib.hid (by rw [List.length_reverse]; omega)
    have hgpy : g ≠ py := HPG.out
    have hgBl : g < wB.heap.size := (hOB.lt g rfl).2
    have hbs1 : pt < bs := by omega
    have hbs2 : py < bs := by omega
    have hbs3 : g < bs := by have := (hO4.lt g rfl).2; omega
    have hbs4 : bs < wB.heap.size := by omega
    have hptpy : pt ≠ py := HPP.out
    clear hbt4 hby4 hO4 hX4 hst4 hM4 HW HBS hcs hbs
    refine wp_rangeA (gf := backPF) (lb := #[.pointer (some ⟨bs, 0, none⟩)]) rfl enters_backP hit0 (fun A C D => KeepQ.trans) (fun A C h => KeepQ.ext (B := wB.heap.size) (fun k hk => by omega) h) (fun W v x h => by obtain ⟨i, a, b, c, d, rfl, _⟩ := h; rfl) (by omega)
      (fun pre2 S2 W => WkI B D0 pt g x.2 wB st' pre2 S2 W)
      (fun c pre2 S2 W => False) ?_ ?_ (fun k => k = pt ∨ (Value.slice (some ⟨g, 0, none⟩) st'.length qc).ownBlock = some k) ?_ ?_
      (fun x9 a' W => ∃ (b9 : Nat) (i9 : Int) (kvo : Option Addr) (kvc : Nat) (kko : Option Addr) (kkc : Nat), wB.heap.size ≤ b9 ∧ BoxL W b9 [.int .i64 x9.op, .int .i64 x9.fld, .slice kvo x9.vals.length kvc, .slice kko x9.kids.length kkc] ∧ PtIs B W x9 kvo kvc kko kkc ∧ a' = { tmps := #[.func (Fn.yield l9) #[] #[], .pointer (some ⟨px, 0, none⟩), undef, .pointer (some ⟨pt, 0, none⟩), .pointer (some ⟨py, 0, none⟩), u5, .pointer (some ⟨b9, 0, none⟩), u7, u8, u9, .slice (some ⟨g, 0, none⟩) (st'.length + 1) qc, .int .i64 ((st'.length : Int) + 1), .bool true, .slice (some ⟨g, 0, none⟩) (st'.length + 1) qc, .slice (some ⟨g, 0, none⟩) (st'.length + 1) qc, .int .i64 ((st'.length : Int) + 1), .int .i64 (st'.length : Int), .pointer (some ⟨g, st'.length * 5, none⟩), .agg #[.int .i64 x.1.op, .int .i64 x.1.fld, .slice yvo x.1.vals.length yvc, .slice yko x.1.kids.length ykc, .int .i64 (x.2 : Int)], .slice (some ⟨g, 0, none⟩) (st'.length + 1) qc, .slice (some ⟨g, 0, none⟩) (st'.length + 1) qc, .int .i64 ((st'.length : Int) + 1), .int .i64 (st'.length : Int), .slice (some ⟨g, 0, none⟩) st'.length qc, .func (Fn.yield l9) #[] #[], .pointer (some ⟨py, 0, none⟩), .agg #[.int .i64 x.1.op, .int .i64 x.1.fld, .slice yvo x.1.vals.length yvc, .slice yko x.1.kids.length ykc], .pointer (some ⟨py, 4, none⟩), .int .i64 (x.2 : Int), .bool true, .bool false, .pointer (some ⟨py, 0, none⟩), .pointer (some ⟨py, 3, none⟩), .slice yko x.1.kids.length ykc, .func (Fn.func backPF) #[] #[.pointer (some ⟨bs, 0, none⟩)], .int .i64 i9, .agg #[.int .i64 x9.op, .int .i64 x9.fld, .slice kvo x9.vals.length kvc, .slice kko x9.kids.length kkc], u37, u38, u39, u40, u41, u42, u43, u44], defers := [] })
      ?_ ?assign ?body ?done ?stop
    case assign =>
      rintro l8 pre2 x9 v S2 W K hi hnv hpre2 hK
      obtain ⟨i9, kvo, kvc, kko, kkc, rfl, hX9⟩ := hnv
      gi_wp2
      obtain ⟨qo, qn, qc9, xs, rfl, i1, i2, i3, i4, i5⟩ := hi
      have hb : Below W.heap.size W (W.alloc (.cells #[.int .i64 x9.op, .int .i64 x9.fld, .slice kvo x9.vals.length kvc, .slice kko x9.kids.length kkc] 34)) := (Below.refl _ W).alloc (Nat.le_refl _) _
      have hBW : B ≤ W.heap.size := by have := i4.size; omega
      refine hK _ _ hb (WkI.mk rfl (i1.kept hb) (i2.kept hb) (i3.low (Low.of_below hb hBW)) (i4.then_below hb) i5) ⟨W.heap.size, i9, kvo, kvc, kko, kkc, i4.size, BoxL.new W _ _, hX9.low (Low.of_below hb hBW), rfl⟩
    case body =>
      rintro l8 pre2 x9 a' S2 W ⟨qo, qn, qc9, xs, rfl, i1, i2, i3, i4, i5⟩ ⟨b9, i9, kvo, kvc, kko, kkc, hq9, hB9, hX9, rfl⟩ hpre2 hS2
      have hyW := hbyB.keep i4 (fun h => by rcases h with h | h; exact hptpy h.symm; exact hgpy h.symm)
      have e0 := i1.cell 0 _ rfl
      have c0 := hB9.cell 0 _ rfl
      have c1 := hB9.cell 1 _ rfl
      have c2 := hB9.cell 2 _ rfl
      have c3 := hB9.cell 3 _ rfl
      have y4 := hyW.cell 4 _ rfl
      have hpl : pre2.length + 1 ≤ x.1.kids.length := by
        have := hpre2.length_le
        simpa using this
      have hnl : (st' ++ pre2.map (fun k => (k, x.2 + 1))).length + 1 ≤ 2000 := by simp; omega
      have hBW : B ≤ W.heap.size := by have := i4.size; omega
      have hDW : D0 ≤ W.heap.size := by have := i4.size; omega
      obtain ⟨ao8, cap8, hv8, _, _, _⟩ := i2.slice
      have hqn : qn = (st' ++ pre2.map (fun k => (k, x.2 + 1))).length := by cases hv8; rfl
      have HQN := Lib.hid hqn
      have HST := Lib.hid i3
      have HX9 := Lib.hid hX9
      have HK := Lib.hid i4
      have HOW := Lib.hid i5
      have HSZ : Hid (W.heap.size = W.heap.size) := Lib.hid rfl
      obtain ⟨SL, hSL⟩ : ∃ l, l = (st' ++ pre2.map (fun k => (k, x.2 + 1))) := ⟨_, rfl⟩
      rw [← hSL] at i2 hnl HST HQN
      have HSL := Lib.hid hSL
      have hBD : B ≤ D0 := by omega
      have HD0 := Lib.hid hD0
      clear hv8 hqn i3 hX9 i4 i5 hSL hyW hpre2 hD0
      gi_wp2_with (gi_at_builtin; refine append1KIn E_place i2 rfl rfl rfl rfl rfl (by simp [Value.oneCell']) (by omega) (by unfold maxLen; omega) (by omega) ?_; intro v9 w9 hO9 hb9 hg9 hn9; obtain ⟨ao9, cap9, rfl, -, -, -⟩ := hO9.slice; have hbt9 := i1.block (hg9.block pt i1.lt (fun e9 => (HOW.out pt e9.symm).2 rfl)); clear e0; have e0 := hbt9.cell 0 _ rfl; have f0 := hbt9.free 0 (by simp))
      have HG9 := Lib.hid hg9
      have HB9 := Lib.hid hb9
      have HN9 := Lib.hid hn9
      have HO9 := Lib.hid hO9
      obtain ⟨W9, hW9⟩ : ∃ W', W' = w9.setCell ⟨pt, 0, none⟩ (.slice ao9 (SL.length + 1) cap9) := ⟨_, rfl⟩
      rw [← hW9]
      have hK1 : Keep (fun k => k = pt ∨ (Value.slice qo qn qc9).ownBlock = some k) W w9 := ⟨hg9.os, hg9.tape, hg9.output, hg9.size, fun k hk hs => hg9.block k hk (fun e => hs (.inr e.symm))⟩
      have hK2 : Keep (fun k => k = pt ∨ (Value.slice qo qn qc9).ownBlock = some k) W W9 := by rw [hW9]; exact hK1.set pt 0 _ (.inl (.inl rfl))
      have hOw : ∀ k, (Value.slice ao9 (SL.length + 1) cap9).ownBlock = some k → ((Value.slice qo qn qc9).ownBlock = some k ∨ W.heap.size ≤ k) := hn9
      have hlow9 : Low B W W9 := fun k hk => hK2.same k (by omega) (fun h => by
        rcases h with h | h
        · omega
        · have := (i2.lt k h).1; omega)
      have hnew : ∀ k, (Value.slice ao9 (SL.length + 1) cap9).ownBlock = some k → (k = g ∨ wB.heap.size ≤ k) ∧ k ≠ pt := fun k hk => by
        rcases hOw k hk with h | h
        · exact HOW.out k h
        · have := HK.out.size
          exact ⟨.inr (by omega), by have := i1.lt; omega⟩
      have hO10 : OwnsK 5 D0 186 W9 (.slice ao9 (SL.length + 1) cap9) (st' ++ (pre2 ++ [x9]).map (fun k => (k, x.2 + 1))).length (xs ++ plc (x9, x.2 + 1) kvo kvc kko kkc) := by
        have e1 : (st' ++ (pre2 ++ [x9]).map (fun k => (k, x.2 + 1))).length = SL.length + 1 := by rw [HSL.out]; simp; omega
        rw [e1]
        have h1 : OwnsK 5 D0 186 w9 (.slice ao9 (SL.length + 1) cap9) (SL.length + 1) (xs ++ plc (x9, x.2 + 1) kvo kvc kko kkc) := HO9.out
        rw [hW9]
        exact h1.keep ((Keep.refl (fun k => k = pt) w9).set pt 0 _ (.inl rfl)) (fun k hk e => (hnew k hk).2 e)
      have hS10 : StkC B W9 (st' ++ (pre2 ++ [x9]).map (fun k => (k, x.2 + 1))) (xs ++ plc (x9, x.2 + 1) kvo kvc kko kkc) := by
        rw [List.map_append, ← List.append_assoc, ← HSL.out]
        exact StkC.low hlow9 (StkC.snoc (x := (x9, x.2 + 1)) HX9.out HST.out)
      have hbt10 : BoxL W9 pt [.slice ao9 (SL.length + 1) cap9] := by rw [hW9]; exact hbt9.set 0 _ (by simp)
      have hKn : Keep (fun k => k = pt ∨ k = g) wB W9 := HK.out.trans hK2 (fun k hk h => by
        rcases h with h | h
        · exact .inl h
        · rcases (HOW.out k h).1 with h | h
          · exact .inr h
          · omega)
      refine ⟨_, WkI.mk rfl hbt10 hO10 hS10 hKn hnew, ⟨hK2.os, hK2.tape, hK2.output, hK2.size, fun k hk hs => hK2.same k hk hs, fun k h => ?_⟩, fun k h => ?_, fun k h hk => ?_⟩
      · rcases h with h | h
        · exact .inl (.inl h)
        · rcases hOw k h with h | h
          · exact .inl (.inr h)
          · exact .inr h
      · rcases h with rfl | h
        · exact hbt10.lt
        · exact (hO10.lt k h).2
      · refine hK2.same k hk (fun h9 => ?_)
        rcases h9 with h9 | h9
        · rcases h with h | h
          · omega
          · omega
        · have h8 := (HOW.out k h9).1
          have h7 := (i2.lt k h9).1
          rcases h with h | h
          · omega
          · omega
    case done =>
      rintro D S2 W hDw hI hdef
      obtain ⟨qo, qn, qc9, xs, rfl, i1, i2, i3, i4, i5⟩ := hI
      have hd6 : (st' ++ x.1.kids.reverse.map (fun k => (k, x.2 + 1))).length ≤ 2000 := by simp; omega
      have hothW : Oth D0 S4 wB W := ⟨i4.os, i4.tape, i4.output, i4.size, fun k hk hs => i4.same k hk (fun h => by
        rcases h with h | h
        · subst h
          rcases hs with hs | hs
          · omega
          · exact hnp4 hs
        · subst h
          rcases hs with hs | hs
          · omega
          · exact hng4 hs)⟩
      have hoth4 : Oth D0 S4 W4 W := (Oth.of_below hbB).trans hothW
      have hJW := hJ _ _ _ _ hJ4 (by rw [← hD0]; exact hoth4)
      have hMW : Marks D0 S4 W ds := hMB.keep (fun _ _ h => h) (fun k hk _ _ => i4.same k (Array.getElem?_eq_some_iff.1 hk).1 (fun h => by
        rcases h with h | h
        · subst h; exact HC2.out hk
        · subst h; exact HC3.out _ hk))
      have hSD : ¬ S4 D := fun h => by have := hT4 D h; omega
      have hMD : Marks D0 S4 W ({ target := .collected D, args := #[] } :: ds) := hMW.cons (by omega) hSD hdef (hMB.out hDw)
      have HJW := Lib.hid hJW
      have HMD := Lib.hid hMD
      have HI1 := Lib.hid i1
      have HI2 := Lib.hid i2
      have HI3 := Lib.hid i3
      have HI5 := Lib.hid i5
      have HFW := Lib.hid (hFl4.then_oth hoth4 (Nat.le_of_eq hD0.symm))
      have HTW : Hid (Top S4 W) := Lib.hid (fun k hk => Nat.lt_of_lt_of_le (hT4 k hk) hoth4.size)
      have HT4 := Lib.hid hT4
      have HSB4 := Lib.hid hSB4
      clear hJW hMD i1 i2 i3 i5 hMW hT4 hothW hoth4 hdef hSB4
      gi_wp2_with fail
      gi_roundg (todoP (st' ++ x.1.kids.reverse.map (fun k => (k, x.2 + 1)))).length
      case measure => rw [HG.out, todoP_kids, List.length_append]; omega
      case rel =>
        refine ⟨pre ++ [x], st' ++ x.1.kids.reverse.map (fun k => (k, x.2 + 1)), S4, qo, qn, qc9, xs, by rw [todoP_kids]; exact HPRE.out, rfl, HI1.out, HI2.out, HI3.out, HJW.out, HTW.out, HFW.out, hnp4, fun k hk => ⟨fun h => ?_, (HI5.out k hk).2⟩, HSB4.out, HMD.out⟩
        rcases (HI5.out k hk).1 with e | e
        · subst e; exact hng4 h
        · have := HT4.out k h; omega
    case stop =>
      rintro D c pre2 S2 W hDw hp hI hK
      exact hI.elim
    · rintro pre2 S2 W W' ⟨qo, qn, qc9, xs, rfl, i1, i2, i3, i4, i5⟩ hx
      exact WkI.mk rfl (i1.ext hx (by simp)) (i2.ext hx) (i3.low (fun k hk => hx.low k (by omega) (by have := i4.size; omega))) ⟨hx.os.trans i4.os, hx.tape.trans i4.tape, hx.output.trans i4.output, Nat.le_trans i4.size hx.size, fun k hk hs => (hx.low k hk (Nat.lt_of_lt_of_le hk i4.size)).trans (i4.same k hk hs)⟩ i5
    · rintro c pre2 S2 W W' hI _; exact hI
    · rintro k h
      rcases h with rfl | h
      · exact ⟨hDp, by omega⟩
      · exact hOB.lt k h
    · exact WkI.mk rfl hbtB (by simpa using hOB) (by simpa using hstB) (Keep.refl _ _) (fun k hk => by simp [Value.ownBlock] at hk; subst hk; exact ⟨.inl rfl, hgpt⟩)
    · rintro x9 a' W W' ⟨b9, i9, kvo, kvc, kko, kkc, h1, h2, h3, rfl⟩ hx
      exact ⟨b9, i9, kvo, kvc, kko, kkc, h1, h2.ext hx (by simp), h3.low (fun k hk => hx.low k (by omega) (by have := h2.lt; omega)), rfl⟩
end Go.Proofs.YtlmjkbdodecbmaaGreatDoor
