/-
  Pi31: TreU (what is needed of them).
-/
import Derived.Test.YtlmjkbdodecbmaaGreatDoorPi07
import Derived.Test.YtlmjkbdodecbmaaGreatDoorPi29
import Derived.Test.YtlmjkbdodecbmaaGreatDoorPi30

namespace Go.Proofs.YtlmjkbdodecbmaaGreatDoor
open Go.RowKit Go.Shelf
set_option linter.unusedVariables false
set_option linter.unusedSimpArgs false
attribute [local go_sem] Oper.semAt_some field_nat
theorem OwnsK.some98 {K base : Nat} {e : TypeId} {w : World} {v : Value} {n : Nat} {xs : List Value} (h : OwnsK K base e w v n xs) (hn : 0 < n) : ∃ g c, v = .slice (some ⟨g, 0, none⟩) n c ∧ base ≤ g ∧ g < w.heap.size ∧ n ≤ c ∧ c ≤ maxLen := by
  obtain ⟨h1, ⟨_, h2⟩ | ⟨g, cap, cur, e1, h3, h4, h5, h6, h7, h8⟩⟩ := h
  · omega
  · exact ⟨g, cap, e1, h3, (Array.getElem?_eq_some_iff.1 h4).1, h5, h6⟩
/-- A way, as it is told: in a block of its own. -/
def PtEncS (D : Nat) (S : Nat → Prop) (W : World) (v : Array Value) (x : List Int) : Prop := ∃ (g n wc : Nat), v = #[.slice (some ⟨g, 0, none⟩) n wc] ∧ n = x.length ∧ D ≤ g ∧ OwnsK 1 D 3 W (.slice (some ⟨g, 0, none⟩) n wc) n (icel x) ∧ ¬ S g
theorem PtEncS.anti {D : Nat} {S T : Nat → Prop} {W : World} {v : Array Value} {x : List Int} (h : PtEncS D T W v x) (hST : ∀ k, S k → T k) : PtEncS D S W v x := by
  obtain ⟨g, n, wc, h1, h2, h3, h4, h5⟩ := h
  exact ⟨g, n, wc, h1, h2, h3, h4, fun hs => h5 (hST g hs)⟩
theorem PtEncS.av {D : Nat} {S : Nat → Prop} {W : World} {v : Array Value} {x : List Int} (h : PtEncS D S W v x) {k : Nat} (hk : AvV v k) : D ≤ k := by
  obtain ⟨g, n, wc, rfl, h2, h3, h4, h5⟩ := h
  obtain ⟨s, h6, h7⟩ := hk
  simp at h6
  subst h6
  have : g = k := by simpa [Value.ownBlock] using h7
  omega
/-- The list that is grown, its box, and the lists in it. -/
def WzI (D0 D p3 p5 : Nat) (stop : Int) (w : World) (pre : List (List Int)) (S : Nat → Prop) (W : World) : Prop := ∃ (ao : Option Addr) (an ac : Nat) (xs : List Value), (S = fun k => (k = p5 ∨ (Value.slice ao an ac).ownBlock = some k) ∨ OfL xs k) ∧ BoxL W p3 [.int .i64 stop] ∧ BoxL W p5 [.slice ao an ac] ∧ OwnsK 1 D 27 W (.slice ao an ac) pre.length xs ∧
  (∀ (i : Nat) (v : Value) (ns : List Int), xs[i]? = some v → pre[i]? = some ns → OwnsK 1 D 3 W v ns.length (icel ns)) ∧ (∀ (i j : Nat) (v u : Value) (g : Nat), xs[i]? = some v → xs[j]? = some u → v.ownBlock = some g → u.ownBlock = some g → i = j) ∧ (∀ k, OfL xs k → k ≠ p5 ∧ (Value.slice ao an ac).ownBlock ≠ some k ∧ k ≠ p3) ∧ Below w.heap.size w W
theorem WzI.oth {D0 D p3 p5 : Nat} {stop : Int} {w : World} {pre : List (List Int)} {S : Nat → Prop} {W W' : World} {D1 : Nat} (h : WzI D0 D p3 p5 stop w pre S W) (ho : Oth D1 S W W') (hw : w.heap.size ≤ D1) (h3 : p3 < D1) : WzI D0 D p3 p5 stop w pre S W' := by
  obtain ⟨ao, an, ac, xs, rfl, i1, i2, i4, i5, i6, i7, i8⟩ := h
  exact ⟨ao, an, ac, xs, rfl, i1.block (ho.same _ i1.lt (.inl h3)), i2.block (ho.same _ i2.lt (.inr (.inl (.inl rfl)))), i4.block fun g hg => ho.same g (i4.lt g hg).2 (.inr (.inl (.inr hg))), fun i v ns h1 h2 => (i5 i v ns h1 h2).block fun g hg => ho.same g ((i5 i v ns h1 h2).lt g hg).2 (.inr (.inr ⟨i, v, h1, hg⟩)), i6, i7, i8.trans ⟨ho.os, ho.tape, ho.output, ho.size, fun k hk => ho.same k (Nat.lt_of_lt_of_le hk i8.size) (.inl (by omega))⟩⟩
/-- What ways answers. -/
def WzPost (R : List (List Int)) (w : World) (e : Ending) (w' : World) : Prop := (∃ (ao : Option Addr) (ac : Nat) (xs : List Value), e = .returned (.slice ao R.length ac) ∧ OwnsK 1 w.heap.size 27 w' (.slice ao R.length ac) R.length xs ∧
  (∀ (i : Nat) (v : Value) (ns : List Int), xs[i]? = some v → R[i]? = some ns → OwnsK 1 w.heap.size 3 w' v ns.length (icel ns)) ∧ (∀ (i j : Nat) (v u : Value) (g : Nat), xs[i]? = some v → xs[j]? = some u → v.ownBlock = some g → u.ownBlock = some g → i = j) ∧ (∀ k, OfL xs k → (Value.slice ao R.length ac).ownBlock ≠ some k)) ∧ Below w.heap.size w w'
set_option maxRecDepth 100000 in
set_option maxHeartbeats 2000000 in
/-- Clone, of ints. -/
theorem cloneO_any (vo : Option Addr) (n vc : Nat) (ns : List Int) (B : Nat) (w : World) (HV : Hid (IntsB B w vo vc ns)) (HN : Hid (n = ns.length)) (hl : n ≤ 4000) (h0n : 0 < n) :
    Calls Tryz.prog 42 #[.slice vo n vc] w fun e w' => (∃ ug uc, e = .returned (.slice (some ⟨ug, 0, none⟩) n uc) ∧ Hid (OwnsK 1 w.heap.size 3 w' (.slice (some ⟨ug, 0, none⟩) n uc) n (icel ns))) ∧ Below w.heap.size w w' := by
  have hbf : Below w.heap.size w w := Below.refl _ _
  have hnil := fun (W : World) a n c => Lib.run_eql_slice_nil (P := Tryz.prog) W 27 3 a n c 0 0 Tryz.underlying27
  cases hvo : vo with
  | none =>
    have hc := HV.out.no hvo
    have h0 := HV.out.cap.1
    have hn := HN.out
    omega
  | some ad =>
    subst hvo
    obtain ⟨w1, hw1⟩ : ∃ W, W = w.alloc (.cells #[] 3) := ⟨_, rfl⟩
    have hb1 : Below w.heap.size w w1 := by rw [hw1]; exact (Below.refl _ _).alloc (Nat.le_refl _) _
    have hO1 : OwnsK 1 w.heap.size 3 w1 (.slice (some ⟨w.heap.size, 0, none⟩) 0 0) 0 [] := by
      rw [hw1]
      exact ⟨rfl, .inr ⟨w.heap.size, 0, #[], rfl, Nat.le_refl _, heap_alloc_new w _, Nat.le_refl _, by decide, rfl, rfl⟩⟩
    have hvc : ∀ (j : Nat) (u : Value), (icel ns)[j]? = some u → w1.cell? (ad.add j) = some u := fun j u hj => by
      obtain ⟨n, hn, rfl⟩ := icel_inv hj
      obtain ⟨b, off, e, hb, hc⟩ := HV.out.at_ j n hn
      cases e
      rw [Addr.add_lit]
      exact (hb1.cell (p := ⟨b, off + j, none⟩) (World.block_lt_of_cell? w ⟨b, off + j, none⟩ hc)).trans hc
    have HVC := Lib.hid hvc
    have HW := Lib.hid hw1
    clear hvc hw1
    go_enter Tryz.func42, Tryz.ntmps42
    go_wp2_with (at_builtin; rw [← HW.out]; refine wpList_plain rfl (fun K' hK' => ?_); refine step_appendT E_intT (news := icel ns) hO1 rfl rfl rfl (by rw [icel_len, Nat.mul_one]; exact HN.out.symm) (.inr ⟨ad, rfl, HVC.out⟩) (icel_one ns) (by omega) (by unfold maxLen; omega) hb1.size ?_; intro v2 w2 hO2 hg2 hn2; refine hK' _ _ ?_)
    rw [Nat.zero_add, List.nil_append] at hO2
    have hlt := hO2.lt
    obtain ⟨ug, uc, rfl, -, -, -, -⟩ := hO2.some98 h0n
    have hb2 : Below w.heap.size w w2 := hb1.trans ⟨hg2.os, hg2.tape, hg2.output, hg2.size, fun k hk => hg2.block k (Nat.lt_of_lt_of_le hk hb1.size) (by intro e; simp [Value.ownBlock] at e; omega)⟩
    have HR := Lib.hid hO2
    clear hO2 hg2 hn2 hlt hO1 HVC HW
    go_wp2_with fail
    go_ret
    exact ⟨⟨ug, uc, ret_one rfl, HR⟩, hb2⟩
set_option maxRecDepth 100000 in
set_option maxHeartbeats 8000000 in
/-- Paths' iterator. -/
theorem paths1_iterS (B : Nat) (t : TR) (no : Option Addr) (nc : Nat) (px : Nat) (w : World) (hT : TrIs B w t no nc) (hBw : B ≤ w.heap.size) (hpw : px < w.heap.size) (hsz : t.nodes.length + (t.nodes.map fun x => x.kids.length).sum ≤ 1500)
    (hx : BoxL w px [.slice no t.nodes.length nc, .int .i64 t.ms, .int .i64 t.nt]) :
    IterS Tryz.prog pathsF #[.pointer (some ⟨px, 0, none⟩)] PtEncS (pathsT t) (Res B px) w := by
  intro l9 J Jx S0 W1 hW1 hS0 hJ hJx hY h0
  replace hx := hx.kept hW1
  replace hT := hT.low (Low.of_below hW1 hBw)
  have hBw1 : B ≤ W1.heap.size := Nat.le_trans hBw hW1.size
  have hpw1 : px < W1.heap.size := Nat.lt_of_lt_of_le hpw hW1.size
  have HY := Lib.hid hY
  have HJ := Lib.hid hJ
  have HJX := Lib.hid hJx
  have HS0 := Lib.hid hS0
  clear hY hJ hJx
  obtain ⟨wR, hwR⟩ : ∃ W, W = ((W1.alloc (.cells #[.func (Fn.yield l9) #[] #[]] 87)).alloc (.cells #[.slice none 0 0] 27)) := ⟨_, rfl⟩
  have hbR : Below W1.heap.size W1 wR := by rw [hwR]; exact ((Below.refl _ W1).alloc (Nat.le_refl _) _).alloc (by simp <;> omega) _
  have hszR : wR.heap.size = W1.heap.size + 2 := by rw [hwR]; simp
  obtain ⟨p2, hp2⟩ : ∃ q, q = W1.heap.size := ⟨_, rfl⟩
  obtain ⟨p3, hp3⟩ : ∃ q, q = W1.heap.size + 1 := ⟨_, rfl⟩
  have hb2 : BoxL wR p2 [.func (Fn.yield l9) #[] #[]] := by rw [hwR, hp2]; exact (BoxL.new W1 _ _).kept ((Below.refl _ _).alloc (Nat.le_refl _) _)
  have hb3 : BoxL wR p3 [.slice none 0 0] := by rw [hwR, hp3]; exact BoxL.of1 (by go_simp) (by go_simp)
  have hxR := hx.kept hbR
  obtain ⟨wS, hwS⟩ : ∃ W, W = wR.alloc (.cells #[.slice no t.nodes.length nc, .int .i64 t.ms, .int .i64 t.nt] 24) := ⟨_, rfl⟩
  obtain ⟨py, hpy⟩ : ∃ q, q = wR.heap.size := ⟨_, rfl⟩
  have hbS : Below wR.heap.size wR wS := by rw [hwS]; exact (Below.refl _ _).alloc (Nat.le_refl _) _
  have hszS : wS.heap.size = wR.heap.size + 1 := by rw [hwS]; simp
  have hby : BoxL wS py [.slice no t.nodes.length nc, .int .i64 t.ms, .int .i64 t.nt] := by rw [hwS, hpy]; exact BoxL.new wR _ _
  have hb1S := hbR.trans (hbS.mono hbR.size)
  have hit := twalk1_iter B t no nc py wS (hT.low (Low.of_below hb1S hBw1)) (by omega) (by omega) hsz hby
  have hb2S := hb2.kept hbS
  have hb3S := hb3.kept hbS
  have hj0 := HJ.out _ _ _ _ h0 (Oth.of_below hb1S)
  have hTp0 : Top S0 wS := fun k hk => Nat.lt_of_lt_of_le (hS0 k hk).2 hb1S.size
  obtain ⟨L, hL⟩ : ∃ L, L = walkT t := ⟨_, rfl⟩
  have HL := Lib.hid hL
  have HDL : Hid (∀ x ∈ L, x.2 ≤ 2000) := Lib.hid (by rw [hL]; exact walkT_dep t (by omega))
  rw [← hL] at hit
  have HW := Lib.hid hwR
  have HWS := Lib.hid hwS
  have HX := Lib.hid hpy
  have H2 := Lib.hid hp2
  have H3 := Lib.hid hp3
  have HQ : W1.heap.size ≤ p2 ∧ p2 < p3 ∧ p3 < py ∧ py < wS.heap.size ∧ B ≤ W1.heap.size ∧ px < W1.heap.size := by omega
  have HT := Lib.hid hT
  have HSZ := Lib.hid hsz
  clear hwR hwS hpy hp2 hp3 hszR hszS hL hb2 hb3 hbS hbR hby hT hsz h0 hS0
  have e0 := hxR.cell 0 _ rfl
  have e1 := hxR.cell 1 _ rfl
  have e2 := hxR.cell 2 _ rfl
  refine callsIn_of_wp_marks Tryz.func41 rfl (by trivial) ?_ rfl
  simp only [IterArgs, Tryz.ntmps41, List.size_toArray, List.length_cons, List.length_nil, Nat.reduceAdd, Nat.reduceSub, Array.replicate_succ, Array.replicate_zero, List.push_toArray, List.append_toArray, List.nil_append, List.cons_append]
  gi_upto_region 2 with fail
  rw [← HW.out, ← H3.out, ← H2.out]
  gi_wp2_with fail
  refine ⟨trivial, rfl, callsIn_wide.2 ((treeWalk_any no t.nodes.length nc t.ms t.nt _).mono ?_)⟩
  rintro e w5 ⟨rfl, rfl⟩
  clear e0 e1 e2 hxR
  gi_wp2_with fail
  rw [← HWS.out, ← HX.out]
  clear HW HWS HX H2 H3
  obtain ⟨q1, q2, q3, q4, q5, q6⟩ := HQ
  have hBS : B ≤ wS.heap.size := by omega
  have hT1 : True := trivial
  refine wp_rangeY (gf := twalkF) (lb := #[.pointer (some ⟨py, 0, none⟩)]) rfl enters_twalk1 hit (fun W v x h => by cases h; rfl) (fun k hr => res_lt hBS q4 hr)
    (fun pre S W => ∃ (wo : Option Addr) (wn wc : Nat) (So : Nat → Prop), PtI W1.heap.size wS.heap.size p2 p3 px B t (.func (Fn.yield l9) #[] #[]) J S0 W1 pre S W wo wn wc So ∧ wS.heap.size ≤ W.heap.size)
    (fun c pre S W => c = .ret ∧ ∃ (So : Nat → Prop) (pt : List (List Int)), (∀ k, So k → S k) ∧ pt <+: pathsT t ∧ Jx pt So W ∧ Foot S0 So W1 W)
    ?_ ?_ (fun k => (k = p3 ∨ (Value.slice none 0 0).ownBlock = some k) ∨ S0 k) ?_ ?_
    (fun x9 a' W => a' = { tmps := #[.func (Fn.yield l9) #[] #[], .pointer (some ⟨px, 0, none⟩), .pointer (some ⟨p2, 0, none⟩), .pointer (some ⟨p3, 0, none⟩), .int .i64 (x9.1 : Int), .int .i64 (x9.2 : Int), .agg #[.slice no t.nodes.length nc, .int .i64 t.ms, .int .i64 t.nt], .func (.func twalkF) #[] #[.pointer (some ⟨py, 0, none⟩)], .int .i64 (x9.1 : Int), .int .i64 (x9.2 : Int), undef, undef, undef, undef, undef, undef, undef, undef, undef, undef, undef, undef, undef, undef, undef, undef, undef, undef, undef, undef, undef, undef], defers := [] })
    ?_ ?assign ?body ?done ?stop
  case assign =>
    rintro l8 pre x9 v9 S W K hi hnv hpre hK
    cases hnv
    gi_wp2
    exact hK _ _ (Below.refl _ _) hi rfl
  case body =>
    rintro l8 pre x9 a' S W ⟨wo, wn, wc, So, hI, hsW⟩ rfl hpre hSS
    obtain ⟨rfl, i2, i3, iO, iJ, iF, iA, iT⟩ := hI
    have hpre2 : (pre ++ [x9]) <+: walkT t := by rw [← HL.out]; exact hpre
    obtain ⟨hr1, hr2, hr3⟩ := way_room hpre2
    have hd := HDL.out x9 (hpre.subset (by simp))
    have hsb : shapeB t = true := by
      cases hs : shapeB t with
      | true => rfl
      | false =>
        have hw : walkT t = [] := by unfold walkT; rw [hs]; rfl
        rw [hw] at hpre2
        have := hpre2.length_le
        simp at this
    have hxN := walk_fst_lt hsb (hpre2.subset (show x9 ∈ pre ++ [x9] by simp))
    obtain ⟨y, hy9⟩ : ∃ y, t.nodes[x9.1]? = some y := ⟨_, List.getElem?_eq_getElem hxN⟩
    obtain ⟨m, hm⟩ : ∃ m, x9.2 = m + 1 := ⟨x9.2 - 1, by omega⟩
    obtain ⟨wy, hwy⟩ : ∃ q, q = wayP t (pre ++ [x9]) := ⟨_, rfl⟩
    have hwl : wy.length = m + 1 := by rw [hwy, hr3, hm]
    obtain ⟨ao1, cap1, hv1, hcap, hcm, -⟩ := iO.slice
    obtain rfl : wn = (wayP t pre).length := by cases hv1; rfl
    obtain rfl : wc = cap1 := by cases hv1; rfl
    have hml : m ≤ (wayP t pre).length := by omega
    have iC : OwnsK 1 wS.heap.size 3 W (.slice wo m wc) m (icel ((wayP t pre).take m)) := iO.cut hml (by rw [icel_len, Nat.mul_one, List.length_take]; omega) (icel_pre (List.take_prefix _ _))
    have hob : (Value.slice wo (wayP t pre).length wc).ownBlock = (Value.slice wo m wc).ownBlock := by cases wo <;> rfl
    have HWS2 : Hid (icel ((wayP t pre).take m) ++ [.int .i64 (x9.1 : Int)] = icel wy) := Lib.hid (by rw [hwy, wayP_snoc, hm, Nat.add_sub_cancel, icel_app]; rfl)
    rw [hob] at iA hSS ⊢
    have HKY : Hid (kidsT t x9.1 = [] ↔ y.kids.length = 0) := Lib.hid (by unfold kidsT; rw [hy9]; simp)
    have HPRE := Lib.hid hpre2
    have HWY := Lib.hid hwy
    have HWL := Lib.hid hwl
    have HM := Lib.hid hm
    have hdm : ((x9.2 : Nat) : Int) - 1 = (m : Int) := by omega
    have hm2 : m ≤ 2000 := by omega
    have qm0 : (0 : Int) ≤ (m : Int) := by omega
    have qmc : (m : Int) ≤ (wc : Int) := by omega
    have hxl : ((x9.1 : Nat) : Int) < ((t.nodes.length : Nat) : Int) := by unfold TR.N at hxN; omega
    have hx0 : (0 : Int) ≤ ((x9.1 : Nat) : Int) := by omega
    have hp3W := i3.lt
    have hiOlt := iC.lt
    have HLT := Lib.hid hiOlt
    have HY9 := Lib.hid hy9
    have HIJ := Lib.hid iJ
    have HIF := Lib.hid iF
    have HIT := Lib.hid iT
    have HIA := Lib.hid iA
    have HSS := Lib.hid hSS
    have HOB := Lib.hid hob
    unfold maxLen at hcm
    clear hr1 hr2 hr3 hd hm hwy hwl hv1 hcap hml hpre hpre2 hxN hy9 iO iJ iF iT iA hSS hiOlt hob hsb hcm
    have e3 := i3.cell 0 _ rfl
    gi_upto_region 6 with (gi_at_builtin; refine append1KIn E_intT iC rfl rfl rfl rfl rfl (by simp [Value.oneCell']) (by omega) (by unfold maxLen; omega) hsW ?_; intro v9 w9 hO9 hb9 hg9 hn9; obtain ⟨ao9, cap9, rfl, -, -, -⟩ := hO9.slice; have k39 := i3.block (hg9.block p3 i3.lt (fun e9 => by have := (HLT.out p3 e9.symm).1; omega)); clear e3; have e3 := k39.cell 0 _ rfl; have f3 := k39.free 0 (by simp))
    obtain ⟨W9, hW9⟩ : ∃ W', W' = w9.setCell ⟨p3, 0, none⟩ (.slice ao9 (m + 1) cap9) := ⟨_, rfl⟩
    rw [← hW9]
    have hK1 : Keep (fun k => k = p3 ∨ (Value.slice wo m wc).ownBlock = some k) W w9 := ⟨hg9.os, hg9.tape, hg9.output, hg9.size, fun k hk hs => hg9.block k hk (fun e => hs (.inr e.symm))⟩
    have hK9 : Keep (fun k => k = p3 ∨ (Value.slice wo m wc).ownBlock = some k) W W9 := by rw [hW9]; exact hK1.set p3 0 _ (.inl (.inl rfl))
    have hO10 : OwnsK 1 wS.heap.size 3 W9 (.slice ao9 (m + 1) cap9) (m + 1) (icel wy) := by
      rw [← HWS2.out, hW9]
      exact hO9.keep ((Keep.refl (fun k => k = p3) w9).set p3 0 _ (.inl rfl)) (fun k hk e => by have := (hO9.lt k hk).1; omega)
    have HOW : Hid (∀ k, (Value.slice ao9 (m + 1) cap9).ownBlock = some k → ((Value.slice wo m wc).ownBlock = some k ∨ W.heap.size ≤ k)) := Lib.hid hn9
    have k3 : BoxL W9 p3 [.slice ao9 (m + 1) cap9] := by rw [hW9]; exact k39.set 0 _ (by simp)
    have k2 := i2.keep hK9 (fun h => by rcases h with h | h; omega; have := (HLT.out p2 h).1; omega)
    have hoth9 : Oth W1.heap.size So W W9 := ⟨hK9.os, hK9.tape, hK9.output, hK9.size, fun k hk hs => hK9.same k hk (fun h => by
      rcases hs with hs | hs
      · rcases h with h | h
        · omega
        · have := (HLT.out k h).1; omega
      · obtain ⟨a1, a2, a3, a4⟩ := HIA.out k hs
        rcases h with h | h
        · exact a2 h
        · exact a3 h)⟩
    have hJ9 := HJ.out _ _ _ _ HIJ.out hoth9
    have hF9 := HIF.out.then_oth hoth9 (Nat.le_refl _)
    have hx9 : BoxL W9 px [.slice no t.nodes.length nc, .int .i64 t.ms, .int .i64 t.nt] := hx.block (hF9.same px q6 (fun h => (HS0.out px h).1 (.inr rfl)))
    obtain ⟨nb, noff, l, hno, hbB, hNI, hnd9⟩ := (HT.out.low (w' := W9) (fun k hk => hF9.same k (by omega) (fun h => (HS0.out k h).1 (.inl hk)))).at_ x9.1 y HY9.out
    subst hno
    clear hW9 hK1 hO9 hb9 hg9 hn9 k39 e3 f3 hoth9 iC i2 i3 hNI hdm qmc
    by_cases hk0 : y.kids.length = 0
    case neg =>
      have hkb : (((y.kids.length : Nat) : Int) == 0) = false := by rw [beq_eq_false_iff_ne]; omega
      have hk9 : ¬ kidsT t x9.1 = [] := fun h => hk0 (HKY.out.1 h)
      have HTN : Hid (toldP t (pre ++ [x9]) = toldP t pre) := Lib.hid (toldP_no pre hk9)
      clear hk9 hk0
      refine wpIn_region_tail9 (S := fun w' => BoxL w' px [.slice (some ⟨nb, noff, none⟩) t.nodes.length nc, .int .i64 t.ms, .int .i64 t.nt] ∧ ndAt w' nb (noff + x9.1 * 8) y l ∧ BoxL w' p2 [.func (Fn.yield l9) #[] #[]] ∧ BoxL w' p3 [.slice ao9 (m + 1) cap9]) [(true, 0), (true, 1), (true, 2), (true, 3), (true, 4), (true, 5), (true, 6), (true, 7), (true, 8), (true, 9), (true, 10), (false, 11)] (by kernel_rfl) (fun ⟨_, _, h⟩ => h) (by kernel_rfl) (by kernel_rfl) (by kernel_rfl) (by kernel_rfl) (by kernel_rfl) (by kernel_rfl) (by kernel_rfl) (by kernel_rfl) (fun _ _ _ h => h) ⟨hx9.drew, hnd9.drew, k2.drew, k3.drew⟩ (fun _ => ?_)
      simp only [pickOps, List.append_eq, List.cons_append, List.nil_append, List.getElem?_toArray, List.getElem?_cons_succ, List.getElem?_cons_zero]
      have hbd : Below W9.heap.size W9 W9.drew := (Below.refl _ _).drew
      generalize W9.drew = wd at hbd ⊢
      replace hx9 := hx9.kept hbd
      replace hnd9 := hnd9.kept hbd
      replace k2 := k2.kept hbd
      replace k3 := k3.kept hbd
      replace hO10 := hO10.kept hbd
      have hJd := HJ.out _ _ _ _ hJ9 ((Oth.of_below hbd).mono (Nat.le_refl _) (fun k h => h) : Oth W1.heap.size So W9 wd)
      have hFd : Foot S0 So W1 wd := hF9.then_oth (D := W1.heap.size) (Oth.of_below hbd) (Nat.le_refl _)
      have hKd : Keep (fun k => k = p3 ∨ (Value.slice wo m wc).ownBlock = some k) W wd := hK9.then_below hbd
      repeat (first | (refine seq_take (v := ?_) (by rfl) ?_ ?_; rotate_left; (· intro w hSw; (try dsimp only at hSw); obtain ⟨hLx, hNd, hL2, hL3⟩ := hSw; have e0 := hLx.cell 0 _ rfl; have c6 := hNd.c6; have e2 := hL2.cell 0 _ rfl; have e3 := hL3.cell 0 _ rfl; clear hLx hNd hL2 hL3; go_simp; all_goals with_reducible rfl); (try simp only [Act.put, List.setIfInBounds_toArray, List.set_cons_zero, List.set_cons_succ])) | (refine seq_leave (by rfl) ?_; (try simp only [Act.put, List.setIfInBounds_toArray, List.set_cons_zero, List.set_cons_succ])))
      refine seq_pass (by rfl) ⟨hx9, hnd9, k2, k3⟩ ?_
      (try simp only [Act.put, List.setIfInBounds_toArray, List.set_cons_zero, List.set_cons_succ])
      refine seq_end ?_
      refine tailI_pass rfl rfl ?_
      (try simp only [Act.put, List.setIfInBounds_toArray, List.set_cons_zero, List.set_cons_succ])
      refine tailI_pass rfl rfl ?_
      (try simp only [Act.put, List.setIfInBounds_toArray, List.set_cons_zero, List.set_cons_succ])
      refine tailI_end rfl rfl ?_
      refine ⟨fun f _ => trivial, ?_⟩
      go_simp
      (try simp only [Act.put, List.setIfInBounds_toArray, List.set_cons_zero, List.set_cons_succ])
      gi_wp2_with fail
      have HG1 : Hid (∀ k, (Value.slice ao9 (m + 1) cap9).ownBlock = some k → wS.heap.size ≤ k ∧ k < wd.heap.size ∧ ¬ So k) := Lib.hid (fun k hk => by
        obtain ⟨h1, h2⟩ := hO10.lt k hk
        refine ⟨h1, h2, fun hs => ?_⟩
        rcases HOW.out k hk with h | h
        · exact (HIA.out k hs).2.2.1 h
        · have := HIT.out k hs; omega)
      refine ⟨fun k => (k = p3 ∨ (Value.slice ao9 (m + 1) cap9).ownBlock = some k) ∨ So k, ⟨⟨ao9, m + 1, cap9, So, ⟨rfl, k2, k3, ?_, by rw [HTN.out]; exact hJd, hFd, fun k hk => ?_, fun k hk => Nat.lt_of_lt_of_le (HIT.out k hk) hKd.size⟩⟩, Nat.le_trans hsW hKd.size⟩, ⟨hKd.os, hKd.tape, hKd.output, hKd.size, fun k hk hs => hKd.same k hk (fun h => hs (.inl h)), fun k hk => ?_⟩, fun k hk => ?_⟩
      · rw [← HWY.out, HWL.out]; exact hO10
      · obtain ⟨a1, a2, a3, a4⟩ := HIA.out k hk
        exact ⟨a1, a2, fun h => (HG1.out k h).2.2 hk, a4⟩
      · rcases hk with (hk | hk) | hk
        · exact .inl (.inl (.inl hk))
        · rcases HOW.out k hk with h | h
          · exact .inl (.inl (.inr h))
          · exact .inr h
        · exact .inl (.inr hk)
      · rcases hk with (hk | hk) | hk
        · rw [hk]; exact k3.lt
        · exact (HG1.out k hk).2.1
        · exact Nat.lt_of_lt_of_le (HIT.out k hk) hKd.size
    case pos =>
      have hkb : (((y.kids.length : Nat) : Int) == 0) = true := by rw [beq_iff_eq]; omega
      have HTL : Hid (toldP t (pre ++ [x9]) = toldP t pre ++ [wy]) := Lib.hid (by rw [HWY.out]; exact toldP_leaf pre (HKY.out.2 hk0))
      clear hk0
      refine wpIn_region_tail9 (S := fun w' => BoxL w' px [.slice (some ⟨nb, noff, none⟩) t.nodes.length nc, .int .i64 t.ms, .int .i64 t.nt] ∧ ndAt w' nb (noff + x9.1 * 8) y l ∧ BoxL w' p2 [.func (Fn.yield l9) #[] #[]] ∧ BoxL w' p3 [.slice ao9 (m + 1) cap9]) [(true, 0), (true, 1), (true, 2), (true, 3), (true, 4), (true, 5), (true, 6), (true, 7), (true, 8), (true, 9), (true, 10), (false, 11)] (by kernel_rfl) (fun ⟨_, _, h⟩ => h) (by kernel_rfl) (by kernel_rfl) (by kernel_rfl) (by kernel_rfl) (by kernel_rfl) (by kernel_rfl) (by kernel_rfl) (by kernel_rfl) (fun _ _ _ h => h) ⟨hx9.drew, hnd9.drew, k2.drew, k3.drew⟩ (fun _ => ?_)
      simp only [pickOps, List.append_eq, List.cons_append, List.nil_append, List.getElem?_toArray, List.getElem?_cons_succ, List.getElem?_cons_zero]
      have hbd : Below W9.heap.size W9 W9.drew := (Below.refl _ _).drew
      generalize W9.drew = wd at hbd ⊢
      replace hx9 := hx9.kept hbd
      replace hnd9 := hnd9.kept hbd
      replace k2 := k2.kept hbd
      replace k3 := k3.kept hbd
      replace hO10 := hO10.kept hbd
      have hJd := HJ.out _ _ _ _ hJ9 ((Oth.of_below hbd).mono (Nat.le_refl _) (fun k h => h) : Oth W1.heap.size So W9 wd)
      have hFd : Foot S0 So W1 wd := hF9.then_oth (D := W1.heap.size) (Oth.of_below hbd) (Nat.le_refl _)
      have hKd : Keep (fun k => k = p3 ∨ (Value.slice wo m wc).ownBlock = some k) W wd := hK9.then_below hbd
      repeat (first | (refine seq_take (v := ?_) (by rfl) ?_ ?_; rotate_left; (· intro w hSw; (try dsimp only at hSw); obtain ⟨hLx, hNd, hL2, hL3⟩ := hSw; have e0 := hLx.cell 0 _ rfl; have c6 := hNd.c6; have e2 := hL2.cell 0 _ rfl; have e3 := hL3.cell 0 _ rfl; clear hLx hNd hL2 hL3; go_simp; all_goals with_reducible rfl); (try simp only [Act.put, List.setIfInBounds_toArray, List.set_cons_zero, List.set_cons_succ])) | (refine seq_leave (by rfl) ?_; (try simp only [Act.put, List.setIfInBounds_toArray, List.set_cons_zero, List.set_cons_succ])))
      refine seq_step (by rfl) (fun K hK => ?_)
      go_simp
      go_at_call 42
      have HVB : Hid (IntsB wd.heap.size wd ao9 cap9 wy) := Lib.hid (IntsQ.of_owns hO10 HWL.out).toB
      have HNW : Hid (m + 1 = wy.length) := Lib.hid HWL.out.symm
      (with_reducible refine (cloneO_any ao9 (m + 1) cap9 wy wd.heap.size wd HVB HNW (by omega) (by omega)).mono ?_)
      rintro e wc9 ⟨⟨ug, uc, rfl, HU⟩, hb⟩
      have hOd9 := hO10
      have hWd := hKd.size
      have hUG := (HU.out.lt ug (by simp [Value.ownBlock])).1
      have hFs := hFd.size
      replace hx9 := hx9.kept hb
      replace hnd9 := hnd9.kept hb
      replace k2 := k2.kept hb
      replace k3 := k3.kept hb
      replace hO10 := hO10.kept hb
      have hJc := HJ.out _ _ _ _ hJd ((Oth.of_below hb).mono (Nat.le_refl _) (fun k h => h) : Oth W1.heap.size So wd wc9)
      have hFc : Foot S0 So W1 wc9 := hFd.then_oth (D := W1.heap.size) (Oth.of_below hb) (Nat.le_refl _)
      have hKc : Keep (fun k => k = p3 ∨ (Value.slice wo m wc).ownBlock = some k) W wc9 := hKd.then_below hb
      have HPT : Hid ((toldP t pre ++ [wy]) <+: pathsT t) := Lib.hid (by rw [← HTL.out]; exact toldP_pre HPRE.out)
      obtain ⟨fn, tmps, assign, body, hy, hR⟩ := HY.out (toldP t pre) wy #[.slice (some ⟨ug, 0, none⟩) (m + 1) uc] So wc9 hJc ⟨ug, m + 1, uc, rfl, HWL.out.symm, by omega, HU.out.mono (by omega), fun hs => by have := HIT.out ug hs; omega⟩ HPT.out
      have hiO := hO10.lt
      have HUGS : Hid (p2 < ug ∧ p3 < ug ∧ (∀ k, (Value.slice ao9 (m + 1) cap9).ownBlock = some k → k ≠ ug) ∧ (B ≤ ug ∧ px < ug) ∧ W.heap.size ≤ ug) := Lib.hid ⟨by have := k2.lt; omega, by have := k3.lt; omega, fun k hk e => by have := (hOd9.lt k hk).2; omega, ⟨by omega, by omega⟩, by omega⟩
      clear hWd hUG hFs hiO
      have HR : Hid (RoundIn (Fence.wide.inRound l8) 0 Tryz.prog l9 fn tmps assign body wc9 _) := Lib.hid hR
      have HFC := Lib.hid hFc
      have HKC := Lib.hid hKc
      have HO10 := Lib.hid hO10
      clear hR hb hJc hJd hFd hKd HU HVB HNW hFc hKc hO10
      first | refine hK.out _ _ ⟨hx9, hnd9, k2, k3⟩ (fun _ => ?_) | (go_wp2_with fail; refine hK.out _ _ ⟨hx9, hnd9, k2, k3⟩ (fun _ => ?_))
      clear hK K
      (try simp only [Act.put, List.setIfInBounds_toArray, List.set_cons_zero, List.set_cons_succ])
      refine seq_end ?_
      refine tailI_end rfl rfl ?_
      refine ⟨fun f _ => trivial, ?_⟩
      go_simp
      refine ⟨rfl, HR.out.mono ?_⟩
      have HG1 : Hid (∀ k, (Value.slice ao9 (m + 1) cap9).ownBlock = some k → wS.heap.size ≤ k ∧ k < wc9.heap.size ∧ ¬ So k) := Lib.hid (fun k hk => by
        obtain ⟨h1, h2⟩ := HO10.out.lt k hk
        refine ⟨h1, h2, fun hs => ?_⟩
        rcases HOW.out k hk with h | h
        · exact (HIA.out k hs).2.2.1 h
        · have := HIT.out k hs; omega)
      have hugs := HUGS.out
      have HAV : Hid (∀ k, AvV #[.slice (some ⟨ug, 0, none⟩) (m + 1) uc] k → k = ug) := Lib.hid (fun k hk => by
        obtain ⟨s, h1, h2⟩ := hk
        simp at h1
        subst h1
        simpa [Value.ownBlock] using h2.symm)
      have hk2l := k2.lt
      have HU2 : Hid (p2 ≠ ug ∧ p3 ≠ ug ∧ (∀ k, (Value.slice ao9 (m + 1) cap9).ownBlock = some k → k ≠ ug) ∧ ¬ Res B px ug ∧ W.heap.size ≤ ug ∧ W1.heap.size ≤ ug) := Lib.hid ⟨by have := hugs.1; omega, by have := hugs.2.1; omega, hugs.2.2.1, fun hr => by have := hugs.2.2.2; rcases hr with hr | hr <;> omega, hugs.2.2.2.2, by omega⟩
      have HFA : Hid (Foot S0 (fun k => So k ∨ AvV #[.slice (some ⟨ug, 0, none⟩) (m + 1) uc] k) W1 wc9) := Lib.hid ⟨HFC.out.os, HFC.out.tape, HFC.out.output, HFC.out.size, HFC.out.same, fun k hk => by
        rcases hk with h | h
        · exact HFC.out.fresh k h
        · right; rw [HAV.out k h]; exact HU2.out.2.2.2.2.2⟩
      clear HR hy hugs hk2l
      rintro e W4 (⟨rfl, S4, hJ4, hF4, hT4⟩ | ⟨rfl, S4, hJ4, hF4⟩)
      case inl =>
        (try simp only [Act.put, List.setIfInBounds_toArray, List.set_cons_zero, List.set_cons_succ])
        refine tailI_end rfl rfl ?_
        refine ⟨fun f _ => trivial, ?_⟩
        go_simp
        (try simp only [Act.put, List.setIfInBounds_toArray, List.set_cons_zero, List.set_cons_succ])
        refine tailI_end rfl rfl ?_
        refine ⟨fun f _ => trivial, ?_⟩
        go_simp
        (try simp only [Act.put, List.setIfInBounds_toArray, List.set_cons_zero, List.set_cons_succ])
        gi_wp2_with fail
        refine ⟨fun k => (k = p3 ∨ (Value.slice ao9 (m + 1) cap9).ownBlock = some k) ∨ S4 k, ⟨⟨ao9, m + 1, cap9, S4, ⟨rfl, k2.block (hF4.same p2 k2.lt (fun h => by rcases h with h | h; exact (HIA.out p2 h).1 rfl; exact HU2.out.1 (HAV.out _ h))), k3.block (hF4.same p3 k3.lt (fun h => by rcases h with h | h; exact (HIA.out p3 h).2.1 rfl; exact HU2.out.2.1 (HAV.out _ h))), ?_, by rw [HTL.out]; exact hJ4, HFA.out.trans hF4, fun k hk => ?_, hT4⟩⟩, Nat.le_trans hsW (Nat.le_trans HKC.out.size hF4.size)⟩, ⟨hF4.os.trans HKC.out.os, hF4.tape.trans HKC.out.tape, hF4.output.trans HKC.out.output, Nat.le_trans HKC.out.size hF4.size, fun k hk hs => (hF4.same k (Nat.lt_of_lt_of_le hk HKC.out.size) (fun h => by rcases h with h | h; exact hs (.inr h); have h8 := HAV.out _ h; have h9 := HU2.out.2.2.2.2.1; omega)).trans (HKC.out.same k hk (fun h => hs (.inl h))), fun k hk => ?_⟩, fun k hk => ?_⟩
        · rw [← HWY.out, HWL.out]; exact HO10.out.block (fun g hg => hF4.same g (HG1.out g hg).2.1 (fun h => by rcases h with h | h; exact (HG1.out g hg).2.2 h; exact HU2.out.2.2.1 g hg (HAV.out _ h)))
        · rcases hF4.fresh k hk with (h | h) | h
          · obtain ⟨a1, a2, a3, a4⟩ := HIA.out k h
            exact ⟨a1, a2, fun h9 => (HG1.out k h9).2.2 h, a4⟩
          · have h8 := HAV.out k h
            subst h8
            obtain ⟨a1, a2, a3, a4, a5, a6⟩ := HU2.out
            exact ⟨fun e => a1 e.symm, fun e => a2 e.symm, fun h9 => a3 _ h9 rfl, a4⟩
          · have h1 := k2.lt
            have h2 := k3.lt
            have h3 := HFC.out.size
            exact ⟨by omega, by omega, fun h9 => by have := (HG1.out k h9).2.1; omega, fun hr => by rcases hr with hr | hr <;> omega⟩
        · rcases hk with (hk | hk) | hk
          · exact .inl (.inl (.inl hk))
          · rcases HOW.out k hk with h | h
            · exact .inl (.inl (.inr h))
            · exact .inr h
          · rcases hF4.fresh k hk with (h | h) | h
            · exact .inl (.inr h)
            · right; rw [HAV.out k h]; exact HU2.out.2.2.2.2.1
            · exact .inr (Nat.le_trans HKC.out.size h)
        · rcases hk with (hk | hk) | hk
          · rw [hk]; exact Nat.lt_of_lt_of_le k3.lt hF4.size
          · exact Nat.lt_of_lt_of_le (HG1.out k hk).2.1 hF4.size
          · exact hT4 k hk
      case inr =>
        (try simp only [Act.put, List.setIfInBounds_toArray, List.set_cons_zero, List.set_cons_succ])
        refine tailI_end rfl rfl ?_
        refine ⟨fun f _ => trivial, ?_⟩
        go_simp
        (try simp only [Act.put, List.setIfInBounds_toArray, List.set_cons_zero, List.set_cons_succ])
        refine tailI_end rfl rfl ?_
        refine ⟨fun f _ => trivial, ?_⟩
        go_simp
        (try simp only [Act.put, List.setIfInBounds_toArray, List.set_cons_zero, List.set_cons_succ])
        gi_wp2_with fail
        refine ⟨fun k => (k = p3 ∨ (Value.slice ao9 (m + 1) cap9).ownBlock = some k) ∨ S4 k, ⟨rfl, S4, fun k h => .inr h, toldP t pre ++ [wy], HPT.out, hJ4, HFA.out.trans hF4⟩, ⟨hF4.os.trans HKC.out.os, hF4.tape.trans HKC.out.tape, hF4.output.trans HKC.out.output, Nat.le_trans HKC.out.size hF4.size, fun k hk hs => (hF4.same k (Nat.lt_of_lt_of_le hk HKC.out.size) (fun h => by rcases h with h | h; exact hs (.inr h); have h8 := HAV.out _ h; have h9 := HU2.out.2.2.2.2.1; omega)).trans (HKC.out.same k hk (fun h => hs (.inl h))), fun k hk => ?_⟩⟩
        rcases hk with (hk | hk) | hk
        · exact .inl (.inl (.inl hk))
        · rcases HOW.out k hk with h | h
          · exact .inl (.inl (.inr h))
          · exact .inr h
        · rcases hF4.fresh k hk with (h | h) | h
          · exact .inl (.inr h)
          · right; rw [HAV.out k h]; exact HU2.out.2.2.2.2.1
          · exact .inr (Nat.le_trans HKC.out.size h)
  case done =>
    rintro S W ⟨wo, wn, wc, So, hI, hsW⟩ hSD hSR hdef
    obtain ⟨rfl, i2, i3, iO, iJ, iF, iA, iT⟩ := hI
    have hSo : ¬ So wS.heap.size := fun h => hSD (.inr h)
    have hM : Marks W1.heap.size So W [{ target := .collected wS.heap.size, args := #[] }] := (Marks.nil _ _ _).cons (by omega) hSo hdef (fun l e => by cases l <;> simp at e ⊢)
    have HJW := Lib.hid iJ
    have HM := Lib.hid hM
    have HF := Lib.hid iF
    clear hM iJ iF hdef i2 i3 iO
    gi_wp2_with fail
    refine leaves_marks (D0 := W1.heap.size) (S := So) rfl _ _ HM.out (fun W' hW' => ?_)
    exact ⟨⟨_, rfl⟩, .inl ⟨So, by show J (toldP t (walkT t)) So W'; rw [← HL.out]; exact HJ.out _ _ _ _ HJW.out hW', HF.out.then_oth hW' (Nat.le_refl _)⟩⟩
  case stop =>
    rintro c pre S W hp ⟨rfl, So, pt, hsub, hpt, hjx, hF⟩ hSD hdef
    have hSo : ¬ So wS.heap.size := fun h => hSD (hsub _ h)
    have hM : Marks W1.heap.size So W [{ target := .collected wS.heap.size, args := #[] }] := (Marks.nil _ _ _).cons (by omega) hSo hdef (fun l e => by cases l <;> simp at e ⊢)
    gi_wp2_with fail
    refine leaves_marks (D0 := W1.heap.size) (S := So) rfl _ _ hM (fun W' hW' => ?_)
    exact ⟨⟨_, rfl⟩, .inr ⟨pt, So, hpt, HJX.out _ _ _ _ hjx hW', hF.then_oth hW' (Nat.le_refl _)⟩⟩
  · rintro pre S W W' ⟨wo, wn, wc, So, ⟨rfl, i2, i3, iO, iJ, iF, iA, iT⟩, hsW⟩ ho
    have hoS : Oth W1.heap.size So W W' := ho.mono (by omega) (fun k h => .inr h)
    exact ⟨wo, wn, wc, So, ⟨rfl, i2.block (ho.same _ i2.lt (.inl (by omega))), i3.block (ho.same _ i3.lt (.inl (by omega))), iO.block (fun g hg => ho.same g (iO.lt g hg).2 (.inr (.inl (.inr hg)))), HJ.out _ _ _ _ iJ hoS, iF.then_oth hoS (Nat.le_refl _), iA, fun k hk => Nat.lt_of_lt_of_le (iT k hk) ho.size⟩, Nat.le_trans hsW ho.size⟩
  · rintro c pre S W W' ⟨rfl, So, pt, hsub, hpt, hjx, hF⟩ ho
    have hoS : Oth W1.heap.size So W W' := ho.mono (by omega) hsub
    exact ⟨rfl, So, pt, hsub, hpt, HJX.out _ _ _ _ hjx hoS, hF.then_oth hoS (Nat.le_refl _)⟩
  · rintro k ((rfl | hk) | hk)
    · exact ⟨fun hr => by rcases hr with hr | hr <;> omega, by omega⟩
    · simp [Value.ownBlock] at hk
    · obtain ⟨h1, h2⟩ := HS0.out k hk
      exact ⟨fun hr => by rcases hr with hr | hr; exact h1 (.inl hr); omega, by omega⟩
  · exact ⟨none, 0, 0, S0, ⟨rfl, hb2S, hb3S, OwnsK.nil _ _ _ _, hj0, Foot.of_below hb1S, fun k hk => by obtain ⟨h1, h2⟩ := HS0.out k hk; exact ⟨by omega, by omega, by simp [Value.ownBlock], h1⟩, hTp0⟩, Nat.le_refl _⟩
  · rintro x9 a' W W' rfl hx
    rfl
set_option maxRecDepth 100000 in
set_option maxHeartbeats 8000000 in
/-- ways. -/
theorem waysS_any (L : List (List Int)) (R : List (List Int)) (stop : Int) (B px : Nat) (w : World) (hit0 : IterS Tryz.prog pathsF #[.pointer (some ⟨px, 0, none⟩)] PtEncS L (Res B px) w) (hBw : B ≤ w.heap.size) (hpx : px < w.heap.size) (hLl : L.length ≤ 2000) (HR : Hid (R = cutL stop L)) :
    Calls Tryz.prog 13 #[.func (.func pathsF) #[] #[.pointer (some ⟨px, 0, none⟩)], .int .i64 stop] w (WzPost R w) := by
  refine (callsIn_wide (n := 0)).1 ?_
  refine callsIn_of_wp_marks Tryz.func13 rfl (by trivial) ?_ rfl
  simp only [Tryz.ntmps13, List.size_toArray, List.length_cons, List.length_nil, Nat.reduceAdd, Nat.reduceSub, Array.replicate_succ, Array.replicate_zero, List.push_toArray, List.append_toArray, List.nil_append, List.cons_append]
  obtain ⟨wR, hwR⟩ : ∃ W, W = ((w.alloc (.cells #[.int .i64 stop] 3)).alloc (.cells #[.slice none 0 0] 28)) := ⟨_, rfl⟩
  have hbR : Below w.heap.size w wR := by rw [hwR]; exact ((Below.refl _ w).alloc (Nat.le_refl _) _).alloc (by simp <;> omega) _
  have hszR : wR.heap.size = w.heap.size + 2 := by rw [hwR]; simp
  obtain ⟨p3, hp3⟩ : ∃ q, q = w.heap.size := ⟨_, rfl⟩
  obtain ⟨p5, hp5⟩ : ∃ q, q = w.heap.size + 1 := ⟨_, rfl⟩
  have hb3 : BoxL wR p3 [.int .i64 stop] := by rw [hwR, hp3]; exact (BoxL.new w _ _).kept ((Below.refl _ _).alloc (Nat.le_refl _) _)
  have hb5 : BoxL wR p5 [.slice none 0 0] := by rw [hwR, hp5]; exact BoxL.of1 (by go_simp) (by go_simp)
  have hit := hit0.mono hbR
  have HQ : p3 < p5 ∧ p5 < wR.heap.size ∧ w.heap.size ≤ p3 := by omega
  have HW := Lib.hid hwR
  have H3 := Lib.hid hp3
  have H5 := Lib.hid hp5
  have hBR : B ≤ wR.heap.size := by omega
  have hpR : px < wR.heap.size := by omega
  clear hwR hp3 hp5 hszR hit0
  gi_wp2_with fail
  rw [← HW.out, ← H5.out, ← H3.out]
  clear HW H3 H5
  obtain ⟨q1, q2, q3⟩ := HQ
  have hT1 : True := trivial
  refine wp_rangeS (gf := pathsF) (lb := #[.pointer (some ⟨px, 0, none⟩)]) rfl enters_paths1 hit (fun D S W v x h k hk => h.av hk) (fun D S T W v x hST h => h.anti hST) (fun D S W v x h => by obtain ⟨_, _, _, rfl, _⟩ := h; rfl) (fun k hr => res_lt hBR hpR hr)
    (fun pre S W => WzI w.heap.size wR.heap.size p3 p5 stop w pre S W ∧ NoStop stop pre.length ∧ wR.heap.size ≤ W.heap.size)
    (fun c pre S W => c = .exit 0 ∧ WzI w.heap.size wR.heap.size p3 p5 stop w pre S W ∧ (pre.length : Int) = stop ∧ 0 < pre.length ∧ wR.heap.size ≤ W.heap.size)
    ?_ ?_ (fun k => (k = p5 ∨ (Value.slice none 0 0).ownBlock = some k) ∨ OfL [] k) ?_ ?_
    (fun S A x9 a' W => ∃ (lg ln lc : Nat), (A lg ∧ ln = x9.length ∧ wR.heap.size ≤ lg ∧ OwnsK 1 wR.heap.size 3 W (.slice (some ⟨lg, 0, none⟩) ln lc) ln (icel x9) ∧ ¬ S lg) ∧ a' = { tmps := #[.func (.func pathsF) #[] #[.pointer (some ⟨px, 0, none⟩)], .int .i64 stop, undef, .pointer (some ⟨p3, 0, none⟩), .slice none 0 0, .pointer (some ⟨p5, 0, none⟩), .slice (some ⟨lg, 0, none⟩) ln lc, .func (.func pathsF) #[] #[.pointer (some ⟨px, 0, none⟩)], .slice (some ⟨lg, 0, none⟩) ln lc, undef, undef, undef, undef, undef, undef, undef, undef, undef], defers := [] })
    ?_ ?assign ?body ?done ?stop
  case assign =>
    rintro l8 pre x9 v9 S W K D1 hD1 hi hnv hpre hK
    obtain ⟨lg, ln, lc, rfl, h1, h2, h3, h4⟩ := hnv
    have H1 := Lib.hid h1
    have H2 : Hid (wR.heap.size ≤ lg) := Lib.hid (by omega)
    have H3 := Lib.hid (h3.mono hD1)
    clear h1 h2 h3 hD1
    gi_wp2
    exact hK _ _ (Below.refl _ _) hi ⟨lg, ln, lc, ⟨⟨.slice (some ⟨lg, 0, none⟩) ln lc, by simp, rfl⟩, H1.out, H2.out, H3.out, h4⟩, rfl⟩
  case body =>
    rintro l8 pre x9 a' S A W ⟨hI, hN, hsW⟩ ⟨lg, ln, lc, ⟨hA9, hln, hlg, hlO, hlS⟩, rfl⟩ hpre hS
    have HA9 := Lib.hid hA9
    clear hA9
    obtain ⟨ao, an, ac, xs, rfl, i3, i5, iA, iV, iX, iY, iW⟩ := hI
    have HV := Lib.hid iV
    have HX := Lib.hid iX
    have HYY := Lib.hid iY
    have HLO := Lib.hid hlO
    have HLS := Lib.hid hlS
    have HLG := Lib.hid hlg
    have HLN := Lib.hid hln
    have hlt9 := (hlO.lt lg (by simp [Value.ownBlock])).2
    have HLT9 := Lib.hid hlt9
    clear iV iX iY hlO hlS hlg hln hlt9
    have hpl : pre.length + 1 ≤ 2000 := by
      have := hpre.length_le
      rw [List.length_append] at this
      simp at this
      omega
    obtain ⟨ao1, cap1, hva, -, -, -⟩ := iA.slice
    have HA : Hid (an = pre.length) := Lib.hid (by cases hva; rfl)
    have HLT := Lib.hid iA.lt
    have HNS := Lib.hid hN
    have HIW := Lib.hid iW
    have HPL : Hid ((pre ++ [x9]).length = pre.length + 1) := Lib.hid (by simp)
    clear hva hpre hN iW
    have e5 := i5.cell 0 _ rfl
    gi_upto_region 5 with (gi_at_builtin; refine append1KIn E_rowsI iA rfl rfl rfl rfl rfl (by simp [Value.oneCell']) (by omega) (by unfold maxLen; omega) hsW ?_; intro v9 w9 hO9 hb9 hg9 hn9; obtain ⟨ao9, cap9, rfl, -, -, -⟩ := hO9.slice; have k59 := i5.block (hg9.block p5 i5.lt (fun e9 => by have := (HLT.out p5 e9.symm).1; omega)); have k39 := i3.block (hg9.block p3 i3.lt (fun e9 => by have := (HLT.out p3 e9.symm).1; omega)); clear e5; have e5 := k59.cell 0 _ rfl; have f5 := k59.free 0 (by simp))
    obtain ⟨W9, hW9⟩ : ∃ W', W' = w9.setCell ⟨p5, 0, none⟩ (.slice ao9 (pre.length + 1) cap9) := ⟨_, rfl⟩
    rw [← hW9]
    have hK1 : Keep (fun k => k = p5 ∨ (Value.slice ao an ac).ownBlock = some k) W w9 := ⟨hg9.os, hg9.tape, hg9.output, hg9.size, fun k hk hs => hg9.block k hk (fun e => hs (.inr e.symm))⟩
    have hK9 : Keep (fun k => k = p5 ∨ (Value.slice ao an ac).ownBlock = some k) W W9 := by rw [hW9]; exact hK1.set p5 0 _ (.inl (.inl rfl))
    have hO10 : OwnsK 1 wR.heap.size 27 W9 (.slice ao9 (pre.length + 1) cap9) (pre.length + 1) (xs ++ (#[.slice (some ⟨lg, 0, none⟩) ln lc] : Array Value).toList) := by
      rw [hW9]
      exact hO9.keep ((Keep.refl (fun k => k = p5) w9).set p5 0 _ (.inl rfl)) (fun k hk e => by have := (hO9.lt k hk).1; omega)
    have k5 : BoxL W9 p5 [.slice ao9 (pre.length + 1) cap9] := by rw [hW9]; exact k59.set 0 _ (by simp)
    have k3 : BoxL W9 p3 [.int .i64 stop] := by rw [hW9]; exact k39.setOther (by omega) _ _
    have HOW : Hid (∀ k, (Value.slice ao9 (pre.length + 1) cap9).ownBlock = some k → (Value.slice ao an ac).ownBlock = some k ∨ W.heap.size ≤ k) := Lib.hid hn9
    have hbW : Below w.heap.size w W9 := HIW.out.trans (hK9.below (fun k hk => by rcases hk with hk | hk; omega; have := (HLT.out k hk).1; have := HIW.out.size; omega) HIW.out.size)
    have hlx : lg ≠ p5 ∧ (Value.slice ao an ac).ownBlock ≠ some lg ∧ ¬ OfL xs lg := ⟨fun e => HLS.out (.inl (.inl e)), fun e => HLS.out (.inl (.inr e)), fun e => HLS.out (.inr e)⟩
    have hofl : ∀ k, OfL (xs ++ (#[.slice (some ⟨lg, 0, none⟩) ln lc] : Array Value).toList) k → OfL xs k ∨ k = lg := fun k ⟨i, v, h1, h2⟩ => by
      rcases Nat.lt_or_ge i xs.length with h3 | h3
      · rw [List.getElem?_append_left h3] at h1
        exact .inl ⟨i, v, h1, h2⟩
      · rw [List.getElem?_append_right h3] at h1
        cases hi9 : i - xs.length with
        | zero =>
          rw [hi9] at h1
          cases h1
          exact .inr (by simpa [Value.ownBlock] using h2.symm)
        | succ j => rw [hi9] at h1; simp at h1
    have hlen : xs.length = pre.length := by have := iA.len; rw [Nat.mul_one] at this; exact this
    have hKV : ∀ (i : Nat) (v : Value) (ns : List Int), (xs ++ (#[.slice (some ⟨lg, 0, none⟩) ln lc] : Array Value).toList)[i]? = some v → (pre ++ [x9])[i]? = some ns → OwnsK 1 wR.heap.size 3 W9 v ns.length (icel ns) := fun i v ns h1 h2 => by
      rcases Nat.lt_or_ge i xs.length with h3 | h3
      · rw [List.getElem?_append_left h3] at h1
        rw [List.getElem?_append_left (by omega)] at h2
        exact (HV.out i v ns h1 h2).keep hK9 (fun k hk e => by
          have hof : OfL xs k := ⟨i, v, h1, hk⟩
          obtain ⟨y1, y2, y3⟩ := HYY.out k hof
          rcases e with e | e
          · exact y1 e
          · exact y2 e)
      · rw [List.getElem?_append_right h3] at h1
        rw [List.getElem?_append_right (by omega)] at h2
        cases hi9 : i - xs.length with
        | zero =>
          rw [hi9] at h1
          rw [show i - pre.length = 0 by omega] at h2
          cases h1
          cases h2
          rw [← HLN.out]
          exact HLO.out.keep hK9 (fun k hk e => by
            have hkl : k = lg := by simpa [Value.ownBlock] using hk.symm
            subst hkl
            rcases e with e | e
            · exact hlx.1 e
            · exact hlx.2.1 e)
        | succ j => rw [hi9] at h1; simp at h1
    have hKX : ∀ (i j : Nat) (v u : Value) (g : Nat), (xs ++ (#[.slice (some ⟨lg, 0, none⟩) ln lc] : Array Value).toList)[i]? = some v → (xs ++ (#[.slice (some ⟨lg, 0, none⟩) ln lc] : Array Value).toList)[j]? = some u → v.ownBlock = some g → u.ownBlock = some g → i = j := fun i j v u g h1 h2 h3 h4 => by
      have old : ∀ (i : Nat) (v : Value), (xs ++ (#[.slice (some ⟨lg, 0, none⟩) ln lc] : Array Value).toList)[i]? = some v → v.ownBlock = some g → (i < xs.length ∧ xs[i]? = some v) ∨ (i = xs.length ∧ g = lg) := fun i v h1 h3 => by
        rcases Nat.lt_or_ge i xs.length with h5 | h5
        · rw [List.getElem?_append_left h5] at h1
          exact .inl ⟨h5, h1⟩
        · rw [List.getElem?_append_right h5] at h1
          cases hi9 : i - xs.length with
          | zero =>
            rw [hi9] at h1
            cases h1
            exact .inr ⟨by omega, by simpa [Value.ownBlock] using h3.symm⟩
          | succ j => rw [hi9] at h1; simp at h1
      rcases old i v h1 h3 with ⟨a1, a2⟩ | ⟨a1, a2⟩
      · rcases old j u h2 h4 with ⟨b1, b2⟩ | ⟨b1, b2⟩
        · exact HX.out i j v u g a2 b2 h3 h4
        · subst b2; exact (hlx.2.2 ⟨i, v, a2, h3⟩).elim
      · rcases old j u h2 h4 with ⟨b1, b2⟩ | ⟨b1, b2⟩
        · subst a2; exact (hlx.2.2 ⟨j, u, b2, h4⟩).elim
        · omega
    have hKY : ∀ k, OfL (xs ++ (#[.slice (some ⟨lg, 0, none⟩) ln lc] : Array Value).toList) k → k ≠ p5 ∧ (Value.slice ao9 (pre.length + 1) cap9).ownBlock ≠ some k ∧ k ≠ p3 := fun k hk => by
      have hk9 : k ≠ p5 ∧ (Value.slice ao an ac).ownBlock ≠ some k ∧ k ≠ p3 ∧ k < W.heap.size := by
        rcases hofl k hk with h | h
        · obtain ⟨y1, y2, y3⟩ := HYY.out k h
          obtain ⟨i, v, h1, h2⟩ := h
          have hi9 := (List.getElem?_eq_some_iff.1 h1).1
          exact ⟨y1, y2, y3, ((HV.out i v _ h1 (List.getElem?_eq_getElem (by omega))).lt k h2).2⟩
        · subst h
          exact ⟨hlx.1, hlx.2.1, by have := HLG.out; omega, HLT9.out⟩
      refine ⟨hk9.1, fun e => ?_, hk9.2.2.1⟩
      rcases HOW.out k e with h | h
      · exact hk9.2.1 h
      · have := hk9.2.2.2; omega
    have hWy : WzI w.heap.size wR.heap.size p3 p5 stop w (pre ++ [x9]) (fun k => (k = p5 ∨ (Value.slice ao9 (pre.length + 1) cap9).ownBlock = some k) ∨ OfL (xs ++ (#[.slice (some ⟨lg, 0, none⟩) ln lc] : Array Value).toList) k) W9 := ⟨ao9, pre.length + 1, cap9, _, rfl, k3, k5, by rw [HPL.out]; exact hO10, hKV, hKX, hKY, hbW⟩
    have hft : Foot (fun k => ((k = p5 ∨ (Value.slice ao an ac).ownBlock = some k) ∨ OfL xs k) ∨ A k) (fun k => ((k = p5 ∨ (Value.slice ao9 (pre.length + 1) cap9).ownBlock = some k) ∨ OfL (xs ++ (#[.slice (some ⟨lg, 0, none⟩) ln lc] : Array Value).toList) k)) W W9 := ⟨hK9.os, hK9.tape, hK9.output, hK9.size, fun k hk hs => hK9.same k hk (fun h => hs (.inl (.inl h))), fun k hk => by
      rcases hk with (h | h) | h
      · exact .inl (.inl (.inl (.inl h)))
      · rcases HOW.out k h with h | h
        · exact .inl (.inl (.inl (.inr h)))
        · exact .inr h
      · rcases hofl k h with h | h
        · exact .inl (.inl (.inr h))
        · subst h; exact .inl (.inr HA9.out)⟩
    have htp : Top (fun k => (k = p5 ∨ (Value.slice ao9 (pre.length + 1) cap9).ownBlock = some k) ∨ OfL (xs ++ (#[.slice (some ⟨lg, 0, none⟩) ln lc] : Array Value).toList) k) W9 := fun k hk => by
      rcases hk with (rfl | h) | ⟨i, v, h1, h2⟩
      · exact k5.lt
      · exact (hO10.lt k h).2
      · have hi9 := (List.getElem?_eq_some_iff.1 h1).1
        rw [List.length_append] at hi9
        exact ((hKV i v _ h1 (List.getElem?_eq_getElem (by rw [List.length_append]; simp at hi9 ⊢; omega))).lt k h2).2
    have HWYI := Lib.hid hWy
    have HFT := Lib.hid hft
    have HTP := Lib.hid htp
    have HSZ9 : Hid (wR.heap.size ≤ W9.heap.size) := Lib.hid (Nat.le_trans hsW hK9.size)
    clear hWy hft htp hbW hO10 hK9 hK1 hW9 hO9 hb9 hg9 hn9 k59 k39 e5 f5 i3 i5 iA
    have e5 := k5.cell 0 _ rfl
    have e3 := k3.cell 0 _ rfl
    by_cases hst : ((pre.length + 1 : Nat) : Int) = stop
    · have hsb : (((pre.length : Nat) : Int) + 1 == stop) = true := by rw [beq_iff_eq]; omega
      have HSS := Lib.hid hst
      clear hst
      gi_wp2_with fail
      exact ⟨_, ⟨rfl, HWYI.out, by rw [HPL.out]; exact HSS.out, by rw [HPL.out]; omega, HSZ9.out⟩, HFT.out⟩
    · have hsb : (((pre.length : Nat) : Int) + 1 == stop) = false := by rw [beq_eq_false_iff_ne]; omega
      have HSS := Lib.hid hst
      clear hst
      gi_wp2_with fail
      exact ⟨_, ⟨HWYI.out, by rw [HPL.out]; exact HNS.out.succ HSS.out, HSZ9.out⟩, HFT.out, HTP.out⟩
  case done =>
    rintro S W ⟨hI, hN, hsW⟩ hSD hSR hK
    have hRL : R = L := HR.out.trans (cutL_all hN).symm
    subst hRL
    clear HR hN hSD hSR
    obtain ⟨ao, an, ac, xs, rfl, i3, i5, iA, iV, iX, iY, iW⟩ := hI
    obtain ⟨ao1, cap1, hva, -, -, -⟩ := iA.slice
    obtain rfl : an = R.length := by cases hva; rfl
    have e5 := i5.cell 0 _ rfl
    have HK := Lib.hid hK
    have HA := Lib.hid iA
    have HV := Lib.hid iV
    have HX := Lib.hid iX
    have HYY := Lib.hid iY
    clear hva hK i5 iA iV iX iY
    gi_wp2_with fail
    have hx9 : Ext wR.heap.size W (W.putObj wR.heap.size (.deferred none)) := Ext.put (Nat.le_refl _) HK.out rfl
    refine ⟨by simp, .inl ⟨_, _, rfl, run_takeDeferred HK.out, ?_⟩⟩
    refine ⟨_, results_tmp rfl _ _ _, ?_⟩
    exact ⟨⟨_, _, xs, ret_one rfl, (HA.out.ext hx9).mono (by omega), fun i v ns h1 h2 => ((HV.out i v ns h1 h2).ext hx9).mono (by omega), HX.out, fun k hk => (HYY.out k hk).2.1⟩, below_extT iW hx9 (by omega) iW.size⟩
  case stop =>
    rintro c pre S W hp ⟨rfl, hI, hst, hp0, hsW⟩ hSD hK
    have hRL : pre = R := (cutL_stop hp hst hp0).trans HR.out.symm
    subst hRL
    clear HR hp hst hp0 hSD
    obtain ⟨ao, an, ac, xs, rfl, i3, i5, iA, iV, iX, iY, iW⟩ := hI
    obtain ⟨ao1, cap1, hva, -, -, -⟩ := iA.slice
    obtain rfl : an = pre.length := by cases hva; rfl
    have e5 := i5.cell 0 _ rfl
    have HK := Lib.hid hK
    have HA := Lib.hid iA
    have HV := Lib.hid iV
    have HX := Lib.hid iX
    have HYY := Lib.hid iY
    clear hva hK i5 iA iV iX iY
    gi_wp2_with fail
    have hx9 : Ext wR.heap.size W (W.putObj wR.heap.size (.deferred none)) := Ext.put (Nat.le_refl _) HK.out rfl
    refine ⟨by simp, .inl ⟨_, _, rfl, run_takeDeferred HK.out, ?_⟩⟩
    refine ⟨_, results_tmp rfl _ _ _, ?_⟩
    exact ⟨⟨_, _, xs, ret_one rfl, (HA.out.ext hx9).mono (by omega), fun i v ns h1 h2 => ((HV.out i v ns h1 h2).ext hx9).mono (by omega), HX.out, fun k hk => (HYY.out k hk).2.1⟩, below_extT iW hx9 (by omega) iW.size⟩
  · rintro pre S W W' ⟨hI, hN, hsW⟩ ho
    exact ⟨hI.oth ho (by omega) (by omega), hN, Nat.le_trans hsW ho.size⟩
  · rintro c pre S W W' ⟨rfl, hI, hst, hp0, hsW⟩ ho
    exact ⟨rfl, hI.oth ho (by omega) (by omega), hst, hp0, Nat.le_trans hsW ho.size⟩
  · rintro k ((rfl | hk) | ⟨_, _, hk, _⟩)
    · exact ⟨fun hr => by rcases hr with hr | hr <;> omega, by omega⟩
    · simp [Value.ownBlock] at hk
    · simp at hk
  · exact ⟨⟨none, 0, 0, [], rfl, hb3, hb5, OwnsK.nil _ _ _ _, fun i v ns h => by simp at h, fun i j v u g h => by simp at h, fun k ⟨i, v, h, _⟩ => by simp at h, hbR⟩, NoStop.zero _, Nat.le_refl _⟩
  · rintro S A x9 a' W W' ⟨lg, ln, lc, ⟨h0, h1, h2, h3, h4⟩, rfl⟩ hx
    exact ⟨lg, ln, lc, ⟨h0, h1, h2, h3.ext hx, h4⟩, rfl⟩
end Go.Proofs.YtlmjkbdodecbmaaGreatDoor
