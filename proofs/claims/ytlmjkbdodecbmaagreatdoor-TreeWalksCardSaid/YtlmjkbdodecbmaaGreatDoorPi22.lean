/-
  Pi22: TreD (what is needed of them).
-/
import Derived.Test.YtlmjkbdodecbmaaGreatDoorPi21

namespace Go.Proofs.YtlmjkbdodecbmaaGreatDoor
open Go.RowKit Go.Shelf
set_option linter.unusedVariables false
set_option linter.unusedSimpArgs false
attribute [local go_sem] Oper.semAt_some field_nat
abbrev backIF : Nat := 84
def BiEnc (W : World) (v : Array Value) (x : Int) : Prop := ∃ i : Int, v = #[.int .i64 i, .int .i64 x]
theorem enters_backI : ∀ args w, (callFunc backIF args).run Tryz.prog w = .ok (.enter backIF args) w := enters_of Tryz.func84 (by kernel_rfl) rfl
theorem backI_any (ao : Option Addr) (n cap : Nat) (w : World) : Calls Tryz.prog 40 #[.slice ao n cap] w fun e w' => e = .returned (.func (.func backIF) #[] #[.pointer (some ⟨w.heap.size, 0, none⟩)]) ∧ w' = w.alloc (.cells #[.slice ao n cap] 27) := by
  go_enter Tryz.func40, Tryz.ntmps40
  go_wp2_with fail
  go_ret
  exact ⟨rfl, rfl⟩
set_option maxRecDepth 100000 in
set_option maxHeartbeats 4000000 in
theorem backI_iter (B : Nat) (ns : List Int) (io : Option Addr) (ic : Nat) (bs B2 : Nat) (w : World) (hI : IntsB B w io ic ns) (hBw : B ≤ w.heap.size) (hcs : w.cell? ⟨bs, 0, none⟩ = some (.slice io ns.length ic)) :
    IterA Tryz.prog backIF #[.pointer (some ⟨bs, 0, none⟩)] BiEnc ns.reverse B2 (KeepQ fun k => k < B ∨ k = bs) w := by
  intro l9 J Jx S0 W1 hW1 hS0 hJ hJx hY h0
  have hc1 := (hW1.cell (p := ⟨bs, 0, none⟩) (World.block_lt_of_cell? w ⟨bs, 0, none⟩ hcs)).trans hcs
  have hlbs := World.block_lt_of_cell? W1 ⟨bs, 0, none⟩ hc1
  replace hI := hI.low (Low.of_below hW1 hBw)
  have hBw1 : B ≤ W1.heap.size := Nat.le_trans hBw hW1.size
  have hkl := hI.le
  clear hcs
  refine callsIn_of_wp Tryz.func84 rfl (by trivial) ?_ rfl
  simp only [IterArgs, Tryz.ntmps84, List.size_toArray, List.length_cons, List.length_nil, Nat.reduceAdd, Nat.reduceSub, Array.replicate_succ, Array.replicate_zero, List.push_toArray, List.append_toArray, List.nil_append, List.cons_append]
  gi_wp2_with fail
  gi_loopg [3] ns.length (fun g iv wr => ∃ (j : Int) (S : Nat → Prop), iv = .int .i64 j ∧ j + 1 = (g : Int) ∧ g ≤ ns.length ∧ J (ns.drop g).reverse S wr ∧ Top S wr ∧ Foot S0 S W1 wr ∧ KeepQ (fun k => k < B ∨ k = bs) W1 wr)
  case atStart => exact ⟨(ns.length : Int) - 1, S0, by go_num, by omega, Nat.le_refl _, by rw [List.drop_of_length_le (Nat.le_refl _)]; exact h0, fun k hk => (hS0 k hk).2, Foot.refl _ _, fun _ _ _ => rfl⟩
  case round =>
    obtain ⟨j, S, rfl, hj, hgl, hJs, hT, hF, hK⟩ := hrel
    have hsk : wr.heap[bs]? = W1.heap[bs]? := hK bs (.inr rfl) hlbs
    have es := (World.cell?_of_block (a := ⟨bs, 0, none⟩) hsk).trans hc1
    rcases Nat.eq_zero_or_pos gk with hz | hz
    · subst hz
      obtain rfl : j = -1 := by omega
      rw [List.drop_zero] at hJs
      gi_wp2_with fail
      (try simp only [Exit.inBlock, Exit.then])
      refine bodyPost_end (results_none rfl _ _ _) rfl ?_
      exact ⟨⟨_, rfl⟩, .inl ⟨S, hJs, hF⟩⟩
    · obtain ⟨i, rfl⟩ : ∃ i, gk = i + 1 := ⟨gk - 1, by omega⟩
      obtain rfl : j = (i : Int) := by omega
      have hil : i < ns.length := by omega
      have hlow : Low B W1 wr := fun k hk => hK k (.inl hk) (by omega)
      have HD := Lib.hid (drop_revP hil)
      have HPX := Lib.hid (rev_prefixP ns i)
      obtain ⟨x, hx⟩ : ∃ x, x = ns[i]'hil := ⟨_, rfl⟩
      have hxi : ns[i]? = some x := by rw [List.getElem?_eq_getElem hil, hx]
      obtain ⟨g, off, rfl, hgB, hA⟩ := (hI.low hlow).at_ i x hxi
      rw [← hx] at HD
      clear hx hxi hsk hlow
      have q1 : (i : Int) < (ns.length : Int) := by omega
      have q2 : (0 : Int) ≤ (i : Int) := by omega
      obtain ⟨fn, tmps, assign, body, hy, hR⟩ := hY (ns.drop (i + 1)).reverse x #[.int .i64 (i : Int), .int .i64 x] S wr hJs ⟨_, rfl⟩ (by rw [← HD.out]; exact HPX.out)
      have HR := Lib.hid hR
      clear hR
      gi_wp2_with fail
      refine ⟨rfl, HR.out.mono ?_⟩
      rintro e W3 (⟨rfl, S3, hJ3, hF3, hT3, hK3⟩ | ⟨rfl, S3, hJ3, hF3⟩)
      · clear hA es
        gi_wp2
        gi_roundg i
        case measure => omega
        case rel => exact ⟨(i : Int) - 1, S3, by go_num, by omega, by omega, by rw [HD.out]; exact hJ3, hT3, hF.trans hF3, hK.trans hK3⟩
      · clear hA es
        gi_wp2
        (try simp only [Exit.inBlock, Exit.then])
        refine bodyPost_ret (results_none rfl _ _ _) rfl ?_
        exact ⟨⟨_, rfl⟩, .inr ⟨_, S3, by rw [← HD.out]; exact HPX.out, hJ3, hF.trans hF3⟩⟩
/-- A walk's state: what was told, what stands on the heap (the one on top first). -/
structure StT (t : TR) (L : List (Nat × Nat)) (N : Nat) (vis st : List (Nat × Nat)) (f : Nat) : Prop where
  inv : WInv (kidsT t) N vis st
  eq : L = vis ++ dfs (kidsT t) f st
  fuel : N < vis.length + f
  dep : ∀ y ∈ vis ++ st, y.2 ≤ vis.length + 1
theorem StT.step {t : TR} {L : List (Nat × Nat)} {N : Nat} {vis st : List (Nat × Nat)} {f : Nat} {x : Nat × Nat} (ho : OnceF (kidsT t) N) (h : StT t L N vis (x :: st) f) : vis ++ [x] <+: L ∧ ∃ f', f = f' + 1 ∧ StT t L N (vis ++ [x]) ((kidsT t x.1).map (fun k => (k, x.2 + 1)) ++ st) f' := by
  obtain ⟨h1, h2, h3, h4⟩ := h
  have hl := h1.len
  rw [List.length_cons] at hl
  obtain ⟨f', rfl⟩ : ∃ f', f = f' + 1 := ⟨f - 1, by omega⟩
  rw [dfs] at h2
  refine ⟨⟨_, by rw [h2]; simp; rfl⟩, f', rfl, h1.step ho, by rw [h2]; simp, by rw [List.length_append, List.length_singleton]; omega, fun y hy => ?_⟩
  rw [List.length_append, List.length_singleton]
  have hx := h4 x (by simp)
  rcases List.mem_append.1 hy with hy | hy
  · rcases List.mem_append.1 hy with hy | hy
    · have := h4 y (by simp [hy]); omega
    · rw [List.mem_singleton] at hy; subst hy; omega
  · rcases List.mem_append.1 hy with hy | hy
    · obtain ⟨k, hk, rfl⟩ := List.mem_map.1 hy
      show x.2 + 1 ≤ _
      omega
    · have := h4 y (by simp [hy]); omega
theorem StT.start {t : TR} {N : Nat} (hN : 0 < N) : StT t (dfsAll (kidsT t) N) N [] [(0, 1)] (N + 1) := ⟨WInv.start hN, rfl, by simp, by simp⟩
theorem StT.done {t : TR} {L : List (Nat × Nat)} {N : Nat} {vis : List (Nat × Nat)} {f : Nat} (h : StT t L N vis [] f) : vis = L := by
  rw [h.eq]
  cases f with
  | zero => rw [dfs, List.append_nil]
  | succ f => rw [dfs, List.append_nil]
/-- The heap's cells, the one on top last. -/
def tcel (st : List (Nat × Nat)) : List Value := st.reverse.flatMap fun x => [.int .i64 (x.1 : Int), .int .i64 (x.2 : Int)]
theorem tcel_cons (x : Nat × Nat) (st : List (Nat × Nat)) : tcel (x :: st) = tcel st ++ [.int .i64 (x.1 : Int), .int .i64 (x.2 : Int)] := by unfold tcel; simp
theorem tcel_len (st : List (Nat × Nat)) : (tcel st).length = st.length * 2 := by
  induction st with
  | nil => rfl
  | cons x st ih => rw [tcel_cons, List.length_append, ih]; simp; omega
/-- Kids on the heap. -/
def tput (d : Nat) (ks : List Int) (st : List (Nat × Nat)) : List (Nat × Nat) := ks.reverse.map (fun k => (k.toNat, d + 1)) ++ st
theorem tput_snoc (d : Nat) (ks : List Int) (k : Int) (st : List (Nat × Nat)) : tput d (ks ++ [k]) st = (k.toNat, d + 1) :: tput d ks st := by unfold tput; simp
theorem tput_len (d : Nat) (ks : List Int) (st : List (Nat × Nat)) : (tput d ks st).length = ks.length + st.length := by unfold tput; simp
theorem tput_all {t : TR} {x : Nat} {n : TN} (hn : t.nodes[x]? = some n) (d : Nat) (st : List (Nat × Nat)) : tput d n.kids.reverse st = (kidsT t x).map (fun k => (k, d + 1)) ++ st := by
  unfold tput kidsT
  rw [hn]
  simp [Function.comp_def]
/-- The heap of places while kids are put on it. -/
def TkI (D0 pt g d : Nat) (wB : World) (st : List (Nat × Nat)) (pre2 : List Int) (S2 : Nat → Prop) (W : World) : Prop := ∃ (qo : Option Addr) (qn qc : Nat), (S2 = fun k => k = pt ∨ (Value.slice qo qn qc).ownBlock = some k) ∧ BoxL W pt [.slice qo qn qc] ∧ OwnsK 2 D0 83 W (.slice qo qn qc) (tput d pre2 st).length (tcel (tput d pre2 st)) ∧ Keep (fun k => k = pt ∨ k = g) wB W ∧ (∀ k, (Value.slice qo qn qc).ownBlock = some k → (k = g ∨ wB.heap.size ≤ k) ∧ k ≠ pt)
theorem TkI.mk {D0 pt g d : Nat} {wB : World} {st : List (Nat × Nat)} {pre2 : List Int} {S2 : Nat → Prop} {W : World} {qo : Option Addr} {qn qc : Nat} (h1 : S2 = fun k => k = pt ∨ (Value.slice qo qn qc).ownBlock = some k) (h2 : BoxL W pt [.slice qo qn qc]) (h3 : OwnsK 2 D0 83 W (.slice qo qn qc) (tput d pre2 st).length (tcel (tput d pre2 st))) (h5 : Keep (fun k => k = pt ∨ k = g) wB W) (h6 : ∀ k, (Value.slice qo qn qc).ownBlock = some k → (k = g ∨ wB.heap.size ≤ k) ∧ k ≠ pt) : TkI D0 pt g d wB st pre2 S2 W := ⟨qo, qn, qc, h1, h2, h3, h5, h6⟩
def TdEnc (W : World) (v : Array Value) (x : Nat × Nat) : Prop := v = #[.int .i64 (x.1 : Int), .int .i64 (x.2 : Int)]
abbrev twalkF : Nat := 38
theorem enters_twalk1 : ∀ args w, (callFunc twalkF args).run Tryz.prog w = .ok (.enter twalkF args) w := enters_of Tryz.func38 (by kernel_rfl) rfl
theorem E_tplace : ElemK Tryz.prog 84 83 (.agg #[.int .i64 0, .int .i64 0]) 2 16 := elemK_of Tryz.underlying84 (by kernel_rfl) rfl (by decide)
theorem tshape_h (t : TR) (b : Bool) (no : Option Addr) (nc : Nat) (B : Nat) (w : World) (hT : Hid (TrIs B w t no nc)) (hBw : B ≤ w.heap.size) (hK : Hid (t.nodes.length + (t.nodes.map fun x => x.kids.length).sum ≤ 1500)) (HB : Hid (b = shapeB t)) :
    Calls Tryz.prog 39 #[.agg #[.slice no t.nodes.length nc, .int .i64 t.ms, .int .i64 t.nt]] w (ShP t b w) := tshape_any t b no nc B w hT.out hBw hK.out HB
set_option maxRecDepth 100000 in
set_option maxHeartbeats 8000000 in
/-- Walk's iterator. -/
theorem twalk1_iter (B : Nat) (t : TR) (no : Option Addr) (nc : Nat) (px : Nat) (w : World) (hT : TrIs B w t no nc) (hBw : B ≤ w.heap.size) (hpw : px < w.heap.size) (hsz : t.nodes.length + (t.nodes.map fun x => x.kids.length).sum ≤ 1500)
    (hx : BoxL w px [.slice no t.nodes.length nc, .int .i64 t.ms, .int .i64 t.nt]) :
    IterW Tryz.prog twalkF #[.pointer (some ⟨px, 0, none⟩)] TdEnc (walkT t) (Res B px) w := by
  intro l9 J Jx S0 W1 hW1 hS0 hJ hJx hY h0
  replace hx := hx.kept hW1
  replace hT := hT.low (Low.of_below hW1 hBw)
  have hBw1 : B ≤ W1.heap.size := Nat.le_trans hBw hW1.size
  have hpw1 : px < W1.heap.size := Nat.lt_of_lt_of_le hpw hW1.size
  have HY := Lib.hid hY
  have HT := Lib.hid hT
  have HSZ0 := Lib.hid hsz
  clear hY hT
  obtain ⟨wl, hwl⟩ : ∃ wl, wl = walkT t := ⟨_, rfl⟩
  rw [← hwl] at HY ⊢
  have HWL := Lib.hid hwl
  clear hwl
  obtain ⟨D0, hD0⟩ : ∃ D, D = W1.heap.size := ⟨_, rfl⟩
  obtain ⟨b, hb9⟩ : ∃ b, b = shapeB t := ⟨_, rfl⟩
  have HB := Lib.hid hb9
  clear hb9
  refine callsIn_of_wp_marks Tryz.func38 rfl (by trivial) ?_ rfl
  simp only [IterArgs, Tryz.ntmps38, List.size_toArray, List.length_cons, List.length_nil, Nat.reduceAdd, Nat.reduceSub, Array.replicate_succ, Array.replicate_zero, List.push_toArray, List.append_toArray, List.nil_append, List.cons_append]
  have e0 := hx.cell 0 _ rfl
  have e1 := hx.cell 1 _ rfl
  have e2 := hx.cell 2 _ rfl
  gi_wp2_with fail
  (try refine wpIn_scope9 ?_)
  gi_wp2_with fail
  refine ⟨trivial, rfl, callsIn_wide.2 ((tshape_h t b no nc B _ HT hBw1 HSZ0 HB).mono ?_)⟩
  rintro e w5 ⟨v5, rfl, hb5, -⟩
  clear e0 e1 e2
  have hj5 := hJ _ _ _ _ h0 (Oth.of_below hb5)
  cases b
  case false =>
    have hwn : wl = [] := by rw [HWL.out]; unfold walkT; rw [← HB.out]; rfl
    gi_wp2_with fail
    (try rw [Exit.noGoto_ret])
    refine leaves_marks (D0 := D0) (S := S0) rfl _ _ (Marks.nil _ _ _) (fun W' hW' => ?_)
    have ho9 : Oth W1.heap.size S0 w5 W' := by rw [← hD0]; exact hW'
    exact ⟨⟨_, rfl⟩, .inl ⟨S0, by rw [hwn]; exact hJ _ _ _ _ hj5 ho9, (Foot.of_below hb5).then_oth hW' (by omega)⟩⟩
  case true =>
  gi_wp2_with fail
  refine wpIn_label ?_
  gi_wp2_with fail
  obtain ⟨wa, hwa⟩ : ∃ W, W = ((w5.alloc (.cells #[.int .i64 0, .int .i64 1] 83)).alloc (.cells #[.slice (some ⟨w5.heap.size, 0, none⟩) 1 1] 84)) := ⟨_, rfl⟩
  have hbw5 : Below w5.heap.size w5 wa := by rw [hwa]; exact (((Below.refl _ w5).alloc (Nat.le_refl _) _).alloc (by simp <;> omega) _)
  have hba : Below W1.heap.size W1 wa := hb5.trans (hbw5.mono hb5.size)
  have hO0 : OwnsK 2 W1.heap.size 83 wa (.slice (some ⟨w5.heap.size, 0, none⟩) 1 1) 1 (tcel [(0, 1)]) := by
    rw [hwa]
    refine ⟨rfl, .inr ⟨w5.heap.size, 1, (tcel [(0, 1)]).toArray, rfl, hb5.size, ?_, Nat.le_refl _, by decide, rfl, rfl⟩⟩
    rw [Below.heap_alloc _ _ _ (by simp)]
    exact heap_alloc_new w5 _
  obtain ⟨pt, hpt⟩ : ∃ q, q = w5.heap.size + 1 := ⟨_, rfl⟩
  have hbt : BoxL wa pt [.slice (some ⟨w5.heap.size, 0, none⟩) 1 1] := by rw [hwa, hpt]; exact BoxL.of1 (by go_simp) (by go_simp)
  obtain ⟨g0, hg0⟩ : ∃ q, q = w5.heap.size := ⟨_, rfl⟩
  rw [← hwa, ← hpt]
  rw [← hg0] at hO0 hbt
  have HPT : Hid (D0 ≤ g0 ∧ pt = g0 + 1) := Lib.hid ⟨by have := hb5.size; omega, by omega⟩
  have hs5 := hb5.size
  clear hwa hpt
  have hja := hJ _ _ _ _ hj5 (Oth.of_below hbw5)
  clear hj5 hbw5 hb5 hs5 hg0
  rw [← hD0] at hO0 hba
  obtain ⟨up9, _, hOT, hN0, _, _, _⟩ := shapeB_true HB.out.symm
  have HOT := Lib.hid hOT
  have HOF := Lib.hid hOT.f
  have hwl9 : wl = dfsAll (kidsT t) t.N := by rw [HWL.out]; unfold walkT; rw [if_pos HB.out.symm]
  obtain ⟨N, hNN⟩ : ∃ N, N = t.N := ⟨_, rfl⟩
  have HST0 : Hid (StT t wl N [] [(0, 1)] (N + 1)) := Lib.hid (by rw [hwl9, hNN]; exact StT.start hN0)
  have HNN : Hid (N = t.nodes.length) := Lib.hid hNN
  have hNl : N ≤ 1500 := by rw [HNN.out]; omega
  rw [← hNN] at HOF
  clear hOT hN0 hwl9 hNN
  refine wpIn_loop_ghost_k (fun g a' wr => ∃ (u2 u3 u4 u6 u7 u8 u9 u10 u11 u12 u13 u14 u15 u16 u17 u18 u19 u20 u21 u22 u23 u24 u25 u26 u27 u28 u29 u30 u31 u32 u33 u34 u35 u36 u37 u38 u39 u40 u41 u42 u43 u44 u45 u46 u47 u48 u49 u50 u51 u52 u53 u54 u55 u56 : Value) (ds : List Deferred), (∃ (pre st : List (Nat × Nat)) (S : Nat → Prop) (qo : Option Addr) (qn qc : Nat), StT t wl N pre st g ∧ BoxL wr pt [.slice qo qn qc] ∧ OwnsK 2 D0 83 wr (.slice qo qn qc) st.length (tcel st) ∧ J pre S wr ∧ Top S wr ∧ Foot S0 S W1 wr ∧ ¬ S pt ∧ (∀ g, (Value.slice qo qn qc).ownBlock = some g → ¬ S g ∧ g ≠ pt) ∧ (∀ k, S k → ¬ Res B px k) ∧ Marks D0 S wr ds) ∧ a' = { tmps := #[.func (Fn.yield l9) #[] #[], .pointer (some ⟨px, 0, none⟩), u2, u3, u4, .pointer (some ⟨pt, 0, none⟩), u6, u7, u8, u9, u10, u11, u12, u13, u14, u15, u16, u17, u18, u19, u20, u21, u22, u23, u24, u25, u26, u27, u28, u29, u30, u31, u32, u33, u34, u35, u36, u37, u38, u39, u40, u41, u42, u43, u44, u45, u46, u47, u48, u49, u50, u51, u52, u53, u54, u55, u56], defers := ds }) (N + 1) ?_ ?_
  · refine ⟨_, _, _, _, _, _, _, _, _, _, _, _, _, _, _, _, _, _, _, _, _, _, _, _, _, _, _, _, _, _, _, _, _, _, _, _, _, _, _, _, _, _, _, _, _, _, _, _, _, _, _, _, _, _, [], ⟨[], [(0, 1)], S0, some ⟨g0, 0, none⟩, 1, 1, HST0.out, hbt, hO0, hja, fun k hk => by have := (hS0 k hk).2; have := hba.size; omega, (Foot.of_below (by rw [← hD0]; exact hba)), fun h => by have := (hS0 _ h).2; have := HPT.out; omega, fun g hg => by simp [Value.ownBlock] at hg; subst hg; exact ⟨fun h => by have := (hS0 _ h).2; have := HPT.out; omega, by have := HPT.out; omega⟩, fun k hk => (hS0 k hk).1, Marks.nil _ _ _⟩, rfl⟩
  intro gk a' wr hinv J9 K9 hJ9 hK9
  obtain ⟨u2, u3, u4, u6, u7, u8, u9, u10, u11, u12, u13, u14, u15, u16, u17, u18, u19, u20, u21, u22, u23, u24, u25, u26, u27, u28, u29, u30, u31, u32, u33, u34, u35, u36, u37, u38, u39, u40, u41, u42, u43, u44, u45, u46, u47, u48, u49, u50, u51, u52, u53, u54, u55, u56, ds, ⟨pre, st, S, qo, qn, qc, hSt, hbt, hO, hJs, hTp, hF, hnp, hng, hSB, hM⟩, rfl⟩ := hinv
  clear hja hO0 hba HST0
  cases st with
  | nil =>
    have e0 := hbt.cell 0 _ rfl
    obtain ⟨uo, uc, hue, _, _, _⟩ := hO.slice
    cases hue
    have hpw9 : pre = wl := hSt.done
    clear hSt
    gi_wp2_with fail
    refine leaves_marks (D0 := D0) rfl _ _ hM (fun W' hW' => ?_)
    exact ⟨⟨_, rfl⟩, .inl ⟨S, by rw [← hpw9]; exact hJ _ _ _ _ hJs (by rw [← hD0]; exact hW'), hF.then_oth hW' (by omega)⟩⟩
  | cons x st =>
    rw [List.length_cons, tcel_cons] at hO
    rcases hO.shape with ⟨_, h9⟩ | ⟨g, cap, hv, hgB, hgw, hn1, hn2, -, -⟩
    · omega
    cases hv
    obtain ⟨hprx, f', hgf, hSt2⟩ := hSt.step HOF.out
    have hxN := hSt.inv.lt x (by simp)
    have hxd := hSt.dep x (by simp)
    have hil9 := hSt.inv.len
    have hlen2 := hSt2.inv.len
    rw [List.length_append, List.length_append, List.length_singleton, List.length_map] at hlen2
    rw [List.length_cons] at hil9
    have HS2 := Lib.hid hSt2
    have HGF := Lib.hid hgf
    obtain ⟨y, hy9⟩ : ∃ k, t.nodes[x.1]? = some k := ⟨_, List.getElem?_eq_getElem (by have := HNN.out; omega)⟩
    have hkl : (kidsT t x.1).length = y.kids.length := by unfold kidsT; rw [hy9]; simp
    rw [hkl] at hlen2
    have HYK : Hid (∀ k ∈ y.kids, (1 : Int) ≤ k) := Lib.hid (fun k hk => (HOT.out.val x.1 y hy9 k hk).1)
    have HY9 := Lib.hid hy9
    have hgng := (hng g rfl).1
    have hgpt := (hng g rfl).2
    have hptl := hbt.lt
    have hBr : B ≤ wr.heap.size := by have := hF.size; omega
    have hDp : D0 ≤ pt := by have := HPT.out; omega
    have hkey : ∀ (j : Nat) (c : Value), ([Value.int .i64 (x.1 : Int), .int .i64 (x.2 : Int)] : List Value)[j]? = some c → wr.cell? ⟨g, st.length * 2 + j, none⟩ = some c := fun j c hj => hO.cellAt (by
      rw [List.getElem?_append_right (by rw [tcel_len]; omega), tcel_len, show st.length * 2 + j - st.length * 2 = j by omega]; exact hj)
    have hOp := hO.pop (tcel_len st) (List.prefix_append _ _)
    have k0 : wr.cell? ⟨g, st.length * 2, none⟩ = some (.int .i64 (x.1 : Int)) := hkey 0 _ rfl
    have k1 : wr.cell? ⟨g, st.length * 2 + 1, none⟩ = some (.int .i64 (x.2 : Int)) := hkey 1 _ rfl
    have e0 := hbt.cell 0 _ rfl
    have f0 := hbt.free 0 (by simp)
    obtain ⟨w2, hw2⟩ : ∃ W, W = wr.setCell ⟨pt, 0, none⟩ (.slice (some ⟨g, 0, none⟩) st.length qc) := ⟨_, rfl⟩
    have hsz2 : w2.heap.size = wr.heap.size := by rw [hw2]; simp [World.setCell]
    obtain ⟨w3, hw3⟩ : ∃ W, W = w2.alloc (.cells #[.int .i64 (x.1 : Int), .int .i64 (x.2 : Int)] 83) := ⟨_, rfl⟩
    have hb3 : Below w2.heap.size w2 w3 := by rw [hw3]; exact (Below.refl _ w2).alloc (Nat.le_refl _) _
    obtain ⟨py, hpy⟩ : ∃ q, q = wr.heap.size := ⟨_, rfl⟩
    have hby3 : BoxL w3 py [.int .i64 (x.1 : Int), .int .i64 (x.2 : Int)] := by rw [hw3, hpy, ← hsz2]; exact BoxL.new w2 _ _
    have hoth : Oth D0 S wr w3 := (by rw [hw2]; exact (Oth.refl _ _ _).set _ hDp hnp : Oth D0 S wr w2).trans (Oth.of_below hb3)
    have hK3 : Keep (fun k => k = pt) wr w3 := (by rw [hw2]; exact (Keep.refl _ wr).set pt 0 _ (.inl rfl) : Keep (fun k => k = pt) wr w2).then_below hb3
    have hbt3 : BoxL w3 pt [.slice (some ⟨g, 0, none⟩) st.length qc] := (by rw [hw2]; exact hbt.set 0 _ (by simp) : BoxL w2 pt [.slice (some ⟨g, 0, none⟩) st.length qc]).kept hb3
    have hO3 := hOp.keep hK3 (fun k hk => by simp [Value.ownBlock] at hk; subst hk; exact hgpt)
    have hFl3 := hF.then_oth hoth (Nat.le_of_eq hD0.symm)
    have hJ3 := hJ _ _ _ _ hJs (by rw [← hD0]; exact hoth)
    have hM3 : Marks D0 S w3 ds := hM.keep (fun k _ h => h) (fun k hk _ _ => hK3.same k (Array.getElem?_eq_some_iff.1 hk).1 (fun e => by
      have e2 : k = pt := e
      subst e2
      exact not_deferred e0 hk))
    have hT3 : Top S w3 := fun k hk => Nat.lt_of_lt_of_le (hTp k hk) hoth.size
    have hgw3 : g < w3.heap.size := Nat.lt_of_lt_of_le hgw hoth.size
    obtain ⟨fn, tmps, assign, body, hy, hR⟩ := HY.out pre x #[.int .i64 (x.1 : Int), .int .i64 (x.2 : Int)] S w3 hJ3 rfl hprx
    have HR := Lib.hid hR
    have HPRE := Lib.hid hprx
    have HW : Hid (w3 = (wr.setCell ⟨pt, 0, none⟩ (.slice (some ⟨g, 0, none⟩) st.length qc)).alloc (.cells #[.int .i64 (x.1 : Int), .int .i64 (x.2 : Int)] 83)) := Lib.hid (by rw [hw3, hw2])
    have hpyw : wr.heap.size = py := hpy.symm
    have HPY := Lib.hid hpyw
    have HPP : Hid (pt ≠ py) := Lib.hid (by omega)
    have HPG : Hid (g ≠ py) := Lib.hid (by omega)
    have hpyl : py < w3.heap.size := hby3.lt
    have hSpy : ¬ S py := fun h => by have := hTp _ h; omega
    have hptw3 : pt < w3.heap.size := hbt3.lt
    clear hR hw3 hw2 hb3 hsz2 hOp hO hkey hoth hK3 hJs hJ3 hM hF hTp hbt hng hprx hpy hpyw hSt hSt2 hy9 hkl hgf
    unfold maxLen at hn2
    have q1 : ((st.length : Nat) : Int) < ((st.length + 1 : Nat) : Int) := by omega
    have q2 : (0 : Int) ≤ ((st.length : Nat) : Int) := by omega
    have q3 : st.length + 1 ≤ 2000 := by omega
    gi_upto_region 6 with fail
    rw [HPY.out]
    rw [← HW.out]
    clear HW HPY k0 k1 e0 f0
    have y0 := hby3.cell 0 _ rfl
    have y1 := hby3.cell 1 _ rfl
    gi_wp2_with fail
    refine ⟨rfl, HR.out.mono ?_⟩
    clear y0 y1 HR hy
    rintro e W4 (⟨rfl, S4, hJ4, hF4, hT4⟩ | ⟨rfl, S4, hJ4, hF4⟩)
    case inr =>
      gi_wp2_with fail
      refine leaves_marks (D0 := D0) (S := S4) rfl _ _ ?_ (fun W' hW' => ?_)
      · refine hM3.keep (fun k hk h => ?_) (fun k hk _ hs => hF4.same k (Array.getElem?_eq_some_iff.1 hk).1 hs)
        rcases hF4.fresh k h with h1 | h1
        · exact h1
        · omega
      · exact ⟨⟨_, rfl⟩, .inr ⟨_, S4, HPRE.out, hJx _ _ _ _ hJ4 (by rw [← hD0]; exact hW'), (hFl3.trans hF4).then_oth hW' (by omega)⟩⟩
    case inl =>
    have hS4 : ∀ k, S4 k → k < w3.heap.size → S k := fun k h hk => by
      rcases hF4.fresh k h with h1 | h1
      · exact h1
      · omega
    have hSB4 : ∀ k, S4 k → ¬ Res B px k := fun k h => by
      rcases hF4.fresh k h with h1 | h1
      · exact hSB k h1
      · exact fun hr => by have := res_lt hBw hpw hr; have := hFl3.size; have := hW1.size; omega
    have hnp4 : ¬ S4 pt := fun h => hnp (hS4 pt h hptw3)
    have hng4 : ¬ S4 g := fun h => hgng (hS4 g h hgw3)
    have hbt4 := hbt3.block (hF4.same pt hptw3 hnp)
    have hby4 := hby3.block (hF4.same py hpyl hSpy)
    have hO4 := hO3.block (fun k hk => by simp [Value.ownBlock] at hk; subst hk; exact hF4.same _ hgw3 hgng)
    have hM4 : Marks D0 S4 W4 ds := hM3.keep (fun k hk h => hS4 k h hk) (fun k hk _ hs => hF4.same k (Array.getElem?_eq_some_iff.1 hk).1 hs)
    have hFl4 := hFl3.trans hF4
    have hB4 : B ≤ W4.heap.size := by have := hFl4.size; omega
    have hpt4 := hbt4.lt
    have hpy4 := hby4.lt
    have hT4x : TrIs B W4 t no nc := HT.out.low (fun k hk => hFl4.same k (by omega) (fun h => (hS0 k h).1 (.inl hk)))
    have hx4 : BoxL W4 px [.slice no t.nodes.length nc, .int .i64 t.ms, .int .i64 t.nt] := hx.block (hFl4.same px hpw1 (fun h => (hS0 px h).1 (.inr rfl)))
    obtain ⟨nb, noff, l, hno, hbB, hNI, hnd⟩ := hT4x.at_ x.1 y HY9.out
    clear hbt3 hby3 hO3 hM3 hFl3 hF4 hS4 hSB hnp hgng hSpy hptw3 hgw3 hpyl hT3 hT4x
    obtain ⟨wB, hwB⟩ : ∃ W, W = W4.alloc (.cells #[.slice l.io y.kids.length l.ic] 27) := ⟨_, rfl⟩
    have hbB9 : Below W4.heap.size W4 wB := by rw [hwB]; exact (Below.refl _ W4).alloc (Nat.le_refl _) _
    obtain ⟨bs, hbs⟩ : ∃ q, q = W4.heap.size := ⟨_, rfl⟩
    have hcs : wB.cell? ⟨bs, 0, none⟩ = some (.slice l.io y.kids.length l.ic) := by rw [hwB, hbs]; go_simp
    have hszB : wB.heap.size = W4.heap.size + 1 := by rw [hwB]; simp
    have HW : Hid (wB = W4.alloc (.cells #[.slice l.io y.kids.length l.ic] 27)) := Lib.hid hwB
    have HBS := Lib.hid hbs
    have HNI := Lib.hid hNI
    have e0 := hx4.cell 0 _ rfl
    rw [hno] at e0
    have c6 := hnd.c6
    have y0 := hby4.cell 0 _ rfl
    have y1 := hby4.cell 1 _ rfl
    have q5 : ((x.1 : Nat) : Int) < ((t.nodes.length : Nat) : Int) := by have := HNN.out; omega
    have q6 : (0 : Int) ≤ ((x.1 : Nat) : Int) := by omega
    clear hwB hNI hnd hx4
    gi_wp2_with fail
    refine ⟨trivial, rfl, callsIn_wide.2 ((backI_any l.io y.kids.length l.ic _).mono ?_)⟩
    rintro e w5 ⟨rfl, rfl⟩
    clear y0 y1 e0 c6
    gi_wp2_with fail
    rw [← HW.out, ← HBS.out]
    have hbtB := hbt4.kept hbB9
    have hbyB := hby4.kept hbB9
    have hOB := hO4.kept hbB9
    have hit0 := backI_iter B y.kids l.io l.ic bs D0 wB (HNI.out.k.low (Low.of_below hbB9 hB4)) (by omega) hcs
    have hMB : Marks D0 S4 wB ds := hM4.keep (fun _ _ h => h) (fun k hk _ _ => hbB9.block k (Array.getElem?_eq_some_iff.1 hk).1)
    have HC2 := Lib.hid (not_deferred (hbtB.cell 0 _ rfl) (d := some []))
    have HC3 : Hid (∀ d, wB.heap[g]? = some (.deferred d) → False) := Lib.hid (fun d hd => by
      obtain ⟨o, h1, h2⟩ := hOB.at_cells g rfl
      rw [hd] at h1
      cases h1
      cases h2)
    have hgpy : g ≠ py := HPG.out
    have hgBl : g < wB.heap.size := (hOB.lt g rfl).2
    have hbs1 : pt < bs := by omega
    have hbs2 : py < bs := by omega
    have hbs3 : g < bs := by have := (hO4.lt g rfl).2; omega
    have hbs4 : bs < wB.heap.size := by omega
    have hptpy : pt ≠ py := HPP.out
    clear hbt4 hby4 hO4 hM4 HW HBS hcs hbs
    refine wp_rangeA (gf := backIF) (lb := #[.pointer (some ⟨bs, 0, none⟩)]) rfl enters_backI hit0 (fun A C D => KeepQ.trans) (fun A C h => KeepQ.ext (B := wB.heap.size) (fun k hk => by omega) h) (fun W v x h => by obtain ⟨i, rfl⟩ := h; rfl) (by omega)
      (fun pre2 S2 W => TkI D0 pt g x.2 wB st pre2 S2 W)
      (fun c pre2 S2 W => False) ?_ ?_ (fun k => k = pt ∨ (Value.slice (some ⟨g, 0, none⟩) st.length qc).ownBlock = some k) ?_ ?_
      (fun x9 a' W => wB.heap.size ≤ W.heap.size ∧ ∃ (z2 z3 z4 z7 z9 z10 z11 z12 z13 z14 z15 z16 z17 z18 z19 z20 z21 z22 z23 z24 z25 z26 z27 z28 z29 z30 z31 z32 z33 z34 z35 z36 z37 z38 z39 z40 z41 z42 z43 z44 z45 z46 z47 z48 z49 z50 z51 z52 z53 z54 z55 z56 : Value), a' = { tmps := #[.func (Fn.yield l9) #[] #[], .pointer (some ⟨px, 0, none⟩), z2, z3, z4, .pointer (some ⟨pt, 0, none⟩), .pointer (some ⟨py, 0, none⟩), z7, .int .i64 x9, z9, z10, z11, z12, z13, z14, z15, z16, z17, z18, z19, z20, z21, z22, z23, z24, z25, z26, z27, z28, z29, z30, z31, z32, z33, z34, z35, z36, z37, z38, z39, z40, z41, z42, z43, z44, z45, z46, z47, z48, z49, z50, z51, z52, z53, z54, z55, z56], defers := [] })
      ?_ ?assign ?body ?done ?stop
    case assign =>
      rintro l8 pre2 x9 v S2 W K hi hnv hpre2 hK
      obtain ⟨i9, rfl⟩ := hnv
      gi_wp2
      have hsW : wB.heap.size ≤ W.heap.size := by obtain ⟨qo, qn, qc9, _, _, _, i4, _⟩ := hi; exact i4.size
      exact hK _ _ (Below.refl _ _) hi ⟨hsW, _, _, _, _, _, _, _, _, _, _, _, _, _, _, _, _, _, _, _, _, _, _, _, _, _, _, _, _, _, _, _, _, _, _, _, _, _, _, _, _, _, _, _, _, _, _, _, _, _, _, _, _, rfl⟩
    case body =>
      rintro l8 pre2 x9 a' S2 W ⟨qo, qn, qc9, rfl, i1, i2, i4, i5⟩ ⟨hsW9, z2, z3, z4, z7, z9, z10, z11, z12, z13, z14, z15, z16, z17, z18, z19, z20, z21, z22, z23, z24, z25, z26, z27, z28, z29, z30, z31, z32, z33, z34, z35, z36, z37, z38, z39, z40, z41, z42, z43, z44, z45, z46, z47, z48, z49, z50, z51, z52, z53, z54, z55, z56, rfl⟩ hpre2 hS2
      have hyW := hbyB.keep i4 (fun h => by rcases h with h | h; exact hptpy h.symm; exact hgpy h.symm)
      have e0 := i1.cell 0 _ rfl
      have y1 := hyW.cell 1 _ rfl
      have hpl : pre2.length + 1 ≤ y.kids.length := by
        have := hpre2.length_le
        simpa using this
      have hx9 : x9 ∈ y.kids := List.mem_reverse.1 (hpre2.subset (by simp))
      have hx91 := HYK.out x9 hx9
      have hnl : (tput x.2 pre2 st).length + 1 ≤ 2000 := by rw [tput_len]; omega
      have hDW : D0 ≤ W.heap.size := by have := i4.size; omega
      obtain ⟨ao8, cap8, hv8, _, _, _⟩ := i2.slice
      have hqn : qn = (tput x.2 pre2 st).length := by cases hv8; rfl
      have HQN := Lib.hid hqn
      have HK := Lib.hid i4
      have HOW := Lib.hid i5
      obtain ⟨SL, hSL⟩ : ∃ l, l = tput x.2 pre2 st := ⟨_, rfl⟩
      rw [← hSL] at i2 hnl HQN
      have HSL := Lib.hid hSL
      have HD0 := Lib.hid hD0
      have HX91 := Lib.hid hx91
      clear hv8 hqn i4 i5 hSL hyW hpre2 hD0 hx9 hx91
      gi_wp2_with (gi_at_builtin; refine append1KIn E_tplace i2 rfl rfl rfl rfl rfl (by simp [Value.oneCell']) (by omega) (by unfold maxLen; omega) (by omega) ?_; intro v9 w9 hO9 hb9 hg9 hn9; obtain ⟨ao9, cap9, rfl, -, -, -⟩ := hO9.slice; have hbt9 := i1.block (hg9.block pt i1.lt (fun e9 => (HOW.out pt e9.symm).2 rfl)); clear e0; have e0 := hbt9.cell 0 _ rfl; have f0 := hbt9.free 0 (by simp))
      have HO9 := Lib.hid hO9
      obtain ⟨W9, hW9⟩ : ∃ W', W' = w9.setCell ⟨pt, 0, none⟩ (.slice ao9 (SL.length + 1) cap9) := ⟨_, rfl⟩
      rw [← hW9]
      have hK1 : Keep (fun k => k = pt ∨ (Value.slice qo qn qc9).ownBlock = some k) W w9 := ⟨hg9.os, hg9.tape, hg9.output, hg9.size, fun k hk hs => hg9.block k hk (fun e => hs (.inr e.symm))⟩
      have hK2 : Keep (fun k => k = pt ∨ (Value.slice qo qn qc9).ownBlock = some k) W W9 := by rw [hW9]; exact hK1.set pt 0 _ (.inl (.inl rfl))
      have hOw : ∀ k, (Value.slice ao9 (SL.length + 1) cap9).ownBlock = some k → ((Value.slice qo qn qc9).ownBlock = some k ∨ W.heap.size ≤ k) := hn9
      have hnew : ∀ k, (Value.slice ao9 (SL.length + 1) cap9).ownBlock = some k → (k = g ∨ wB.heap.size ≤ k) ∧ k ≠ pt := fun k hk => by
        rcases hOw k hk with h | h
        · exact HOW.out k h
        · have := HK.out.size
          exact ⟨.inr (by omega), by have := i1.lt; omega⟩
      have hO10 : OwnsK 2 D0 83 W9 (.slice ao9 (SL.length + 1) cap9) (tput x.2 (pre2 ++ [x9]) st).length (tcel (tput x.2 (pre2 ++ [x9]) st)) := by
        rw [tput_snoc, ← HSL.out, List.length_cons, tcel_cons]
        have e2 : ((x9.toNat : Nat) : Int) = x9 := by have := HX91.out; omega
        rw [e2]
        have h1 : OwnsK 2 D0 83 w9 (.slice ao9 (SL.length + 1) cap9) (SL.length + 1) (tcel SL ++ [.int .i64 x9, .int .i64 ((x.2 + 1 : Nat) : Int)]) := HO9.out
        rw [hW9]
        exact h1.keep ((Keep.refl (fun k => k = pt) w9).set pt 0 _ (.inl rfl)) (fun k hk e => (hnew k hk).2 e)
      have hbt10 : BoxL W9 pt [.slice ao9 (SL.length + 1) cap9] := by rw [hW9]; exact hbt9.set 0 _ (by simp)
      have hKn : Keep (fun k => k = pt ∨ k = g) wB W9 := HK.out.trans hK2 (fun k hk h => by
        rcases h with h | h
        · exact .inl h
        · rcases (HOW.out k h).1 with h | h
          · exact .inr h
          · omega)
      refine ⟨_, TkI.mk rfl hbt10 hO10 hKn hnew, ⟨hK2.os, hK2.tape, hK2.output, hK2.size, fun k hk hs => hK2.same k hk hs, fun k h => ?_⟩, fun k h => ?_, fun k h hk => ?_⟩
      · rcases h with h | h
        · exact .inl (.inl h)
        · rcases hOw k h with h | h
          · exact .inl (.inr h)
          · exact .inr h
      · rcases h with rfl | h
        · exact hbt10.lt
        · exact (hO10.lt k h).2
      · have h6 := HD0.out
        refine hK2.same k hk (fun h9 => ?_)
        rcases h9 with h9 | h9
        · rcases h with h | h
          · omega
          · omega
        · have h8 := (HOW.out k h9).1
          have h7 := (i2.lt k h9).1
          rcases h with h | h
          · omega
          · omega
    case done =>
      rintro D S2 W hDw hI hdef
      obtain ⟨qo, qn, qc9, rfl, i1, i2, i4, i5⟩ := hI
      rw [tput_all HY9.out] at i2
      have hothW : Oth D0 S4 wB W := ⟨i4.os, i4.tape, i4.output, i4.size, fun k hk hs => i4.same k hk (fun h => by
        rcases h with h | h
        · subst h
          rcases hs with hs | hs
          · omega
          · exact hnp4 hs
        · subst h
          rcases hs with hs | hs
          · omega
          · exact hng4 hs)⟩
      have hoth4 : Oth D0 S4 W4 W := (Oth.of_below hbB9).trans hothW
      have hJW := hJ _ _ _ _ hJ4 (by rw [← hD0]; exact hoth4)
      have hMW : Marks D0 S4 W ds := hMB.keep (fun _ _ h => h) (fun k hk _ _ => i4.same k (Array.getElem?_eq_some_iff.1 hk).1 (fun h => by
        rcases h with h | h
        · subst h; exact HC2.out hk
        · subst h; exact HC3.out _ hk))
      have hSD : ¬ S4 D := fun h => by have := hT4 D h; omega
      have hMD : Marks D0 S4 W ({ target := .collected D, args := #[] } :: ds) := hMW.cons (by omega) hSD hdef (hMB.out hDw)
      have HJW := Lib.hid hJW
      have HMD := Lib.hid hMD
      have HI1 := Lib.hid i1
      have HI2 := Lib.hid i2
      have HI5 := Lib.hid i5
      have HFW := Lib.hid (hFl4.then_oth hoth4 (Nat.le_of_eq hD0.symm))
      have HTW : Hid (Top S4 W) := Lib.hid (fun k hk => Nat.lt_of_lt_of_le (hT4 k hk) hoth4.size)
      have HT4 := Lib.hid hT4
      have HSB4 := Lib.hid hSB4
      clear hJW hMD i1 i2 i5 hMW hT4 hothW hoth4 hdef hSB4
      gi_wp2_with fail
      gi_roundg f'
      case measure => rw [HGF.out]; omega
      case rel =>
        refine ⟨pre ++ [x], _, S4, qo, qn, qc9, HS2.out, HI1.out, HI2.out, HJW.out, HTW.out, HFW.out, hnp4, fun k hk => ⟨fun h => ?_, (HI5.out k hk).2⟩, HSB4.out, HMD.out⟩
        rcases (HI5.out k hk).1 with e | e
        · subst e; exact hng4 h
        · have := HT4.out k h; omega
    case stop =>
      rintro D c pre2 S2 W hDw hp hI hK
      exact hI.elim
    · rintro pre2 S2 W W' ⟨qo, qn, qc9, rfl, i1, i2, i4, i5⟩ hx
      exact TkI.mk rfl (i1.ext hx (by simp)) (i2.ext hx) ⟨hx.os.trans i4.os, hx.tape.trans i4.tape, hx.output.trans i4.output, Nat.le_trans i4.size hx.size, fun k hk hs => (hx.low k hk (Nat.lt_of_lt_of_le hk i4.size)).trans (i4.same k hk hs)⟩ i5
    · rintro c pre2 S2 W W' hI _; exact hI
    · rintro k h
      rcases h with rfl | h
      · exact ⟨hDp, by omega⟩
      · exact hOB.lt k h
    · exact TkI.mk rfl hbtB (by simpa [tput] using hOB) (Keep.refl _ _) (fun k hk => by simp [Value.ownBlock] at hk; subst hk; exact ⟨.inl rfl, hgpt⟩)
    · rintro x9 a' W W' ⟨h1, z2, z3, z4, z7, z9, z10, z11, z12, z13, z14, z15, z16, z17, z18, z19, z20, z21, z22, z23, z24, z25, z26, z27, z28, z29, z30, z31, z32, z33, z34, z35, z36, z37, z38, z39, z40, z41, z42, z43, z44, z45, z46, z47, z48, z49, z50, z51, z52, z53, z54, z55, z56, rfl⟩ hx
      exact ⟨Nat.le_trans h1 hx.size, _, _, _, _, _, _, _, _, _, _, _, _, _, _, _, _, _, _, _, _, _, _, _, _, _, _, _, _, _, _, _, _, _, _, _, _, _, _, _, _, _, _, _, _, _, _, _, _, _, _, _, _, rfl⟩
end Go.Proofs.YtlmjkbdodecbmaaGreatDoor
