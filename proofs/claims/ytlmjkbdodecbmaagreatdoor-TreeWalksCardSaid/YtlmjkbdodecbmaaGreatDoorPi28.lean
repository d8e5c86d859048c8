/-
  Pi28: TreM (what is needed of them).
-/
import Derived.Test.YtlmjkbdodecbmaaGreatDoorPi27

namespace Go.Proofs.YtlmjkbdodecbmaaGreatDoor
open Go.RowKit Go.Shelf
set_option linter.unusedVariables false
set_option linter.unusedSimpArgs false
attribute [local go_sem] Oper.semAt_some field_nat
theorem results_t3b {fn : Func} {s u : Nat} {tmps : Array Value} {w : World} {b : Nat} {x y z v : Value} (h : fn.results = #[.cell s 24, .tmp u]) (hp : tmps.getD s undef = .pointer (some ⟨b, 0, none⟩)) (hv : tmps.getD u undef = v) (hb : BoxL w b [x, y, z]) : (results fn tmps).run Tryz.prog w = .ok (.tuple #[.agg #[x, y, z], v]) w := by
  have hp' : tmps[s]?.getD undef = .pointer (some ⟨b, 0, none⟩) := by simpa using hp
  have hv' : tmps[u]?.getD undef = v := by simpa using hv
  simp only [results, h]
  simp [Sem.run_bind, Sem.run_pure, Result.andThen, hp', hv', asAddr, load_t3 (hb.cell 0 _ rfl) (hb.cell 1 _ rfl) (hb.cell 2 _ rfl)]
/-- What Order answers. -/
def OdPost (t : TR) (w : World) (e : Ending) (w' : World) : Prop := Below w.heap.size w w' ∧ ((shapeB t = false ∧ e = .returned (.tuple #[.agg #[.slice none 0 0, .int .i64 0, .int .i64 0], .bool false])) ∨ (shapeB t = true ∧ ∃ no nc, e = .returned (.tuple #[.agg #[.slice no (orderT t).nodes.length nc, .int .i64 t.ms, .int .i64 t.nt], .bool true]) ∧ TrIs w'.heap.size w' (orderT t) no nc))
set_option maxRecDepth 100000 in
set_option maxHeartbeats 8000000 in
/-- Order. -/
theorem torder_any (t : TR) (no : Option Addr) (nc : Nat) (B : Nat) (w : World) (hT : TrIs B w t no nc) (hBw : B ≤ w.heap.size) (hsz : t.nodes.length + (t.nodes.map fun x => x.kids.length).sum ≤ 1500) (hsm : Hid (∀ x ∈ t.nodes, SmN x)) :
    Calls Tryz.prog 18 #[.agg #[.slice no t.nodes.length nc, .int .i64 t.ms, .int .i64 t.nt]] w (OdPost t w) := by
  refine (callsIn_wide (n := 0)).1 ?_
  refine callsIn_of_wp_marks Tryz.func18 rfl (by trivial) ?_ rfl
  simp only [Tryz.ntmps18, List.size_toArray, List.length_cons, List.length_nil, Nat.reduceAdd, Nat.reduceSub, Array.replicate_succ, Array.replicate_zero, List.push_toArray, List.append_toArray, List.nil_append, List.cons_append]
  obtain ⟨wR, hwR⟩ : ∃ W, W = ((w.alloc (.cells #[.slice no t.nodes.length nc, .int .i64 t.ms, .int .i64 t.nt] 24)).alloc (.cells #[.slice none 0 0, .int .i64 0, .int .i64 0] 24)) := ⟨_, rfl⟩
  have hbf : Below w.heap.size w wR := by rw [hwR]; exact ((Below.refl _ w).alloc (Nat.le_refl _) _).alloc (by simp <;> omega) _
  have hszR : wR.heap.size = w.heap.size + 2 := by rw [hwR]; simp
  obtain ⟨p1, hp1⟩ : ∃ q, q = w.heap.size := ⟨_, rfl⟩
  obtain ⟨p2, hp2⟩ : ∃ q, q = w.heap.size + 1 := ⟨_, rfl⟩
  have hb1 : BoxL wR p1 [.slice no t.nodes.length nc, .int .i64 t.ms, .int .i64 t.nt] := by rw [hwR, hp1]; exact (BoxL.new w _ _).kept ((Below.refl _ _).alloc (Nat.le_refl _) _)
  have hb2 : BoxL wR p2 [.slice none 0 0, .int .i64 0, .int .i64 0] := by rw [hwR, hp2]; exact BoxL.of3 (by go_simp) (by go_simp) (by go_simp) (by go_simp) (by go_simp) (by go_simp)
  have hBR : B ≤ wR.heap.size := by omega
  have HT : Hid (TrIs B wR t no nc) := Lib.hid (hT.low (Low.of_below hbf hBw))
  have HSZ := Lib.hid hsz
  obtain ⟨sb, hsb⟩ : ∃ b, b = shapeB t := ⟨_, rfl⟩
  have HSB := Lib.hid hsb
  have HQ : Hid (w.heap.size ≤ p1 ∧ p1 < p2 ∧ p2 < wR.heap.size ∧ B ≤ p1) := Lib.hid (by omega)
  have HW := Lib.hid hwR
  have H1 := Lib.hid hp1
  have H2 := Lib.hid hp2
  clear hT hwR hszR hp1 hp2 hsb
  have e0 := hb1.cell 0 _ rfl
  have e1 := hb1.cell 1 _ rfl
  have e2 := hb1.cell 2 _ rfl
  gi_upto_region 1 with fail
  rw [← HW.out, ← H2.out, ← H1.out]
  clear HW H1 H2
  gi_wp2_with fail
  refine ⟨trivial, rfl, callsIn_wide.2 ((tshape_h t sb no nc B _ HT hBR HSZ HSB).mono ?_)⟩
  rintro e w3 ⟨v, rfl, hb, -⟩
  replace hbf := hbf.trans (hb.mono hbf.size)
  replace hb1 := hb1.kept hb
  replace hb2 := hb2.kept hb
  have HT3 : Hid (TrIs B w3 t no nc) := Lib.hid (HT.out.low (Low.of_below hb hBR))
  have HS3 : Hid (wR.heap.size ≤ w3.heap.size) := Lib.hid hb.size
  clear e0 e1 e2 hb HT
  cases sb
  · have g0 := hb2.cell 0 _ rfl
    have g1 := hb2.cell 1 _ rfl
    have g2 := hb2.cell 2 _ rfl
    have k0 := hb2.free 0 (by simp)
    have k1 := hb2.free 1 (by simp)
    have k2 := hb2.free 2 (by simp)
    gi_wp2_with fail
    obtain ⟨w7, hw7⟩ : ∃ W, W = ((w3.setCell ⟨p2, 0, none⟩ (.slice none 0 0)).setCell ⟨p2, 1, none⟩ (.int .i64 0)).setCell ⟨p2, 2, none⟩ (.int .i64 0) := ⟨_, rfl⟩
    have h72 : BoxL w7 p2 [.slice none 0 0, .int .i64 0, .int .i64 0] := by
      rw [hw7]
      exact ((hb2.set 0 (.slice none 0 0) (by simp)).set 1 (.int .i64 0) (by simp)).set 2 (.int .i64 0) (by simp)
    have hb7 : Below w.heap.size w w7 := by
      rw [hw7]
      exact ((hbf.setCell (p := ⟨p2, 0, none⟩) (by have := HQ.out; show _ ≤ p2; omega) _).setCell (p := ⟨p2, 1, none⟩) (by have := HQ.out; show _ ≤ p2; omega) _).setCell (p := ⟨p2, 2, none⟩) (by have := HQ.out; show _ ≤ p2; omega) _
    rw [← hw7]
    refine ⟨_, results_t3b rfl rfl rfl h72, ?_⟩
    exact ⟨hb7, .inl ⟨HSB.out.symm, rfl⟩⟩
  · obtain ⟨N, hN⟩ : ∃ N, N = t.nodes.length := ⟨_, rfl⟩
    have hNl : N ≤ 1500 := by omega
    have e0 := hb1.cell 0 _ rfl
    have e1 := hb1.cell 1 _ rfl
    have e2 := hb1.cell 2 _ rfl
    rw [← hN] at e0
    have HN := Lib.hid hN
    clear hN hsz
    gi_upto_region 4 with fail
    refine (wpIn_wide (n := 0)).2 ?_
    go_upto_region 5 with (at_make; refine makeT E_intT (n := N) rfl rfl rfl rfl (by omega) (by unfold maxLen; omega) ?_; intro w4 hO4 hb4)
    rw [made_ints, ← numL_nil] at hO4
    have hbn := BoxL.of_owns hO4
    obtain ⟨pn, hpn⟩ : ∃ q, q = w3.heap.size := ⟨_, rfl⟩
    rw [← hpn] at hbn
    rw [← hpn]
    replace hbf := hbf.trans (hb4.mono hbf.size)
    replace hb1 := hb1.kept hb4
    replace hb2 := hb2.kept hb4
    have hpn3 : w3.heap.size ≤ pn ∧ pn < w4.heap.size := ⟨by omega, hbn.lt⟩
    have hB3 : B ≤ w3.heap.size := by have := HS3.out; omega
    have HT4 : TrIs B w4 t no nc := HT3.out.low (Low.of_below hb4 (by omega))
    obtain ⟨w5, hw5⟩ : ∃ W, W = (w4.alloc (.cells #[.slice (some ⟨pn, 0, none⟩) N N] 27)).alloc (.cells #[.int .i64 0] 3) := ⟨_, rfl⟩
    have hb5 : Below w4.heap.size w4 w5 := by rw [hw5]; exact ((Below.refl _ w4).alloc (Nat.le_refl _) _).alloc (by simp <;> omega) _
    have hz5 : w5.heap.size = w4.heap.size + 2 := by rw [hw5]; simp
    obtain ⟨p6, hp6⟩ : ∃ q, q = w4.heap.size := ⟨_, rfl⟩
    obtain ⟨p7, hp7⟩ : ∃ q, q = w4.heap.size + 1 := ⟨_, rfl⟩
    have hb6 : BoxL w5 p6 [.slice (some ⟨pn, 0, none⟩) N N] := by rw [hw5, hp6]; exact (BoxL.new w4 _ _).kept ((Below.refl _ _).alloc (Nat.le_refl _) _)
    have hb7 : BoxL w5 p7 [.int .i64 (([] : List (Nat × Nat)).length : Int)] := by rw [hw5, hp7]; exact BoxL.of1 (by go_simp) (by go_simp)
    obtain ⟨wS, hwS⟩ : ∃ W, W = w5.alloc (.cells #[.slice no t.nodes.length nc, .int .i64 t.ms, .int .i64 t.nt] 24) := ⟨_, rfl⟩
    obtain ⟨px, hpx⟩ : ∃ q, q = w5.heap.size := ⟨_, rfl⟩
    have hbS : Below w5.heap.size w5 wS := by rw [hwS]; exact (Below.refl _ _).alloc (Nat.le_refl _) _
    have hzS : wS.heap.size = w5.heap.size + 1 := by rw [hwS]; simp
    have hbx : BoxL wS px [.slice no t.nodes.length nc, .int .i64 t.ms, .int .i64 t.nt] := by rw [hwS, hpx]; exact BoxL.new w5 _ _
    have hb4S := hb5.trans (hbS.mono hb5.size)
    have hTS : TrIs B wS t no nc := HT4.low (Low.of_below hb4S (by omega))
    have hit := twalk1_iter B t no nc px wS hTS (by omega) (by omega) HSZ.out hbx
    replace hbf := hbf.trans (hb4S.mono hbf.size)
    have hb1' := hb1.kept hb5
    replace hb1 := hb1.kept hb4S
    replace hb2 := hb2.kept hb4S
    replace hbn := hbn.kept hb4S
    have hb6' := hb6
    replace hb6 := hb6.kept hbS
    replace hb7 := hb7.kept hbS
    have hNT : N = t.N := HN.out
    obtain ⟨L, hL⟩ : ∃ L, L = walkT t := ⟨_, rfl⟩
    have HLS : Hid (∀ (pre : List (Nat × Nat)) (x : Nat × Nat), (pre ++ [x]) <+: L → x.1 ∉ pre.map Prod.fst ∧ x.1 < N ∧ pre.length < N) := Lib.hid (by rw [hL, hNT]; exact fun pre x h => snoc_new HSB.out.symm h)
    have HLW := Lib.hid hL
    rw [← hL] at hit
    have HQ2 : Hid (w.heap.size ≤ p1 ∧ p1 < p2 ∧ p2 < pn ∧ pn < p6 ∧ p6 < p7 ∧ p7 < px ∧ px < wS.heap.size ∧ B ≤ p1) := Lib.hid (by have := HQ.out; have := HS3.out; omega)
    have HW := Lib.hid hw5
    have HWS := Lib.hid hwS
    have HX := Lib.hid hpx
    have H6 := Lib.hid hp6
    have H7 := Lib.hid hp7
    have HTS := Lib.hid hTS
    clear hw5 hwS hpx hp6 hp7 hz5 hzS hL hbS hb5 hb4S hbx hTS HT4 hB3 hpn3 hb4 hO4 e0 e1 e2 hNT hpn HQ
    have e0 := hb1'.cell 0 _ rfl
    have e1 := hb1'.cell 1 _ rfl
    have e2 := hb1'.cell 2 _ rfl
    clear hb1'
    gi_upto_region 6 with fail
    rw [← HW.out, ← H7.out, ← H6.out]
    gi_wp2_with fail
    refine ⟨trivial, rfl, callsIn_wide.2 ((treeWalk_any no t.nodes.length nc t.ms t.nt _).mono ?_)⟩
    rintro e w9 ⟨rfl, rfl⟩
    clear e0 e1 e2
    gi_wp2_with fail
    rw [← HWS.out, ← HX.out]
    clear HW HWS HX H6 H7
    obtain ⟨q1, q2, q3, q4, q5, q6, q7, q8⟩ := HQ2.out
    have hBS : B ≤ wS.heap.size := by omega
    have hT1 : True := trivial
    refine wp_rangeW (gf := twalkF) (lb := #[.pointer (some ⟨px, 0, none⟩)]) rfl enters_twalk1 hit (fun W v x h => by cases h; rfl) (fun k hr => res_lt hBS q7 hr)
      (fun pre S W => OdI pn p7 N pre S W ∧ OdC p1 p2 p6 pn N t no nc B w W ∧ wS.heap.size ≤ W.heap.size)
      (fun c pre S W => False)
      ?_ ?_ (fun k => k = pn ∨ k = p7) ?_ ?_
      (fun x9 a' W => a' = { tmps := #[.agg #[.slice no t.nodes.length nc, .int .i64 t.ms, .int .i64 t.nt], .pointer (some ⟨p1, 0, none⟩), .pointer (some ⟨p2, 0, none⟩), .bool false, v, .bool true, .pointer (some ⟨p6, 0, none⟩), .pointer (some ⟨p7, 0, none⟩), .int .i64 (x9.1 : Int), undef, undef, undef, undef, undef, undef, .tuple #[v, .bool true], .agg #[.slice no t.nodes.length nc, .int .i64 t.ms, .int .i64 t.nt], .tuple #[v, .bool true], v, .bool true, .bool true, .bool false, undef, .pointer (some ⟨p1, 0, none⟩), .slice no N nc, .int .i64 (N : Int), .slice (some ⟨pn, 0, none⟩) N N, .agg #[.slice no t.nodes.length nc, .int .i64 t.ms, .int .i64 t.nt], .func (.func twalkF) #[] #[.pointer (some ⟨px, 0, none⟩)], .int .i64 (x9.1 : Int), .int .i64 (x9.2 : Int), undef, undef, undef, undef, undef, undef, undef, undef, undef, undef, undef, undef, undef, undef, undef, undef, undef, undef, undef, undef, undef, undef, undef, undef, undef, undef, undef, undef, undef, undef, undef, undef, undef, undef, undef, undef, undef, undef, undef, undef, undef, undef, undef, undef, undef, undef, undef, undef, undef, undef, undef, undef, undef, undef, undef, undef, undef, undef, undef, undef, undef, undef, undef, undef, undef, undef, undef, undef, undef, undef, undef, undef, undef, undef], defers := [] })
      ?_ ?assign ?body ?done ?stop
    case assign =>
      rintro l8 pre x9 v9 S W K hi hnv hpre hK
      cases hnv
      gi_wp2
      exact hK _ _ (Below.refl _ _) hi rfl
    case body =>
      rintro l8 pre x9 a' S W ⟨hI, hC, hsW⟩ rfl hpre hS
      obtain ⟨rfl, i1, i7⟩ := hI
      obtain ⟨hx1, hx2, hxp⟩ := HLS.out pre x9 hpre
      have HSN : Hid ((numL N pre).set x9.1 ((pre.length : Nat) : Int) = numL N (pre ++ [x9])) := Lib.hid (numL_snoc hx1)
      have e6 := hC.2.2.1.cell 0 _ rfl
      have e7 := i7.cell 0 _ rfl
      have f7 := i7.free 0 (by simp)
      have fi := i1.free x9.1 (by rw [icel_len, numL_len]; exact hx2)
      obtain ⟨u9, hu9⟩ : ∃ u, (numL N pre)[x9.1]? = some u := ⟨_, numL_get N pre x9.1 hx2⟩
      have ei := i1.cell x9.1 _ (icel_get hu9)
      have hqx : (0 : Int) ≤ (x9.1 : Int) := by omega
      have hqx2 : (x9.1 : Int) < (N : Int) := by omega
      have HPL : Hid ((pre ++ [x9]).length = pre.length + 1) := Lib.hid (by simp)
      have hpl : pre.length ≤ 1500 := by omega
      obtain ⟨wA, hwA⟩ : ∃ W', W' = W.setCell ⟨pn, x9.1, none⟩ (.int .i64 ((pre.length : Nat) : Int)) := ⟨_, rfl⟩
      have hKA : Keep (fun k => k = pn ∨ k = p7) W wA := by rw [hwA]; exact (Keep.refl _ _).set pn _ _ (.inl (.inl rfl))
      have j1 : BoxL wA pn (icel (numL N (pre ++ [x9]))) := by
        have := i1.set x9.1 (.int .i64 ((pre.length : Nat) : Int)) (by rw [icel_len, numL_len]; exact hx2)
        rw [icel_set, HSN.out] at this
        rw [hwA]; exact this
      have j7 : BoxL wA p7 [.int .i64 ((pre.length : Nat) : Int)] := by rw [hwA]; exact i7.setOther (by omega) _ _
      have HWA := Lib.hid hwA
      clear hpre hS hx1 hu9 hwA
      gi_upto_region 9 with fail
      rw [← HWA.out]
      clear e6 e7 f7 fi ei i1 i7 HWA
      have e7 := j7.cell 0 _ rfl
      have f7 := j7.free 0 (by simp)
      gi_wp2_with fail
      have hpp : ((pre.length : Nat) : Int) + 1 = (((pre ++ [x9]).length : Nat) : Int) := by rw [HPL.out]; omega
      rw [hpp]
      obtain ⟨wB, hwB⟩ : ∃ W', W' = wA.setCell ⟨p7, 0, none⟩ (.int .i64 (((pre ++ [x9]).length : Nat) : Int)) := ⟨_, rfl⟩
      have hKB : Keep (fun k => k = pn ∨ k = p7) W wB := by rw [hwB]; exact hKA.set p7 0 _ (.inl (.inr rfl))
      have k1 : BoxL wB pn (icel (numL N (pre ++ [x9]))) := by rw [hwB]; exact j1.setOther (by omega) _ _
      have k7 : BoxL wB p7 [.int .i64 (((pre ++ [x9]).length : Nat) : Int)] := by rw [hwB]; exact j7.set 0 _ (by simp)
      rw [← hwB]
      exact ⟨_, ⟨⟨rfl, k1, k7⟩, hC.keep hKB (fun k hk => by rcases hk with rfl | rfl <;> omega), Nat.le_trans hsW hKB.size⟩, Foot.of_keep hKB, fun k hk => by rcases hk with rfl | rfl; exact k1.lt; exact k7.lt⟩
    case done =>
      rintro D S W hD ⟨hI, hC, hsW⟩ hK
      obtain ⟨rfl, i1, i7⟩ := hI
      clear i7
      have HK := Lib.hid hK
      clear hK
      have e0 := hC.1.cell 0 _ rfl
      have e1 := hC.1.cell 1 _ rfl
      have e2 := hC.1.cell 2 _ rfl
      gi_upto_region 10 with fail
      clear e0 e1 e2 hit hb1 hb2 hbn hb6' hb6 hb7 hbf
      have hWS : wS.heap.size ≤ D ∧ D < W.heap.size := ⟨hD, (Array.getElem?_eq_some_iff.1 HK.out).1⟩
      have hl9 : t.nodes.length ≤ 1500 := by rw [← HN.out]; exact hNl
      refine (wpIn_wide (n := 0)).2 (wp_noPan ?_)
      refine wp_region_seqF (S := fun w' => BoxL w' p1 [.slice no t.nodes.length nc, .int .i64 t.ms, .int .i64 t.nt]) [⟨9, 9, .cells #[.slice none 0 0, .int .i64 0, .int .i64 0] 24⟩] [(true, 0), (true, 1), (true, 2), (true, 3), (true, 4), (true, 5), (true, 6), (false, 7), (true, 8)] [(false, 10)] (by kernel_rfl) (by kernel_rfl) (by kernel_rfl) (by kernel_rfl) (by kernel_rfl) (by kernel_rfl) (by decide) (by decide) (by kernel_rfl) (by rfl) ?_ (fun w8 o8 h8 => ?_) (fun _ _ _ _ _ h => h) hC.1.drew ?_
      · intro f hf; simp only [List.mem_cons, List.not_mem_nil, or_false] at hf; rcases hf with rfl; exact FlOk.alloc rfl rfl rfl (fun f w => by go_simp)
      · exact h8.kept ((Below.refl _ _).alloc (Nat.le_refl _) _)
      obtain ⟨D9, hD9⟩ : ∃ B, B = W.heap.size := ⟨_, rfl⟩
      rw [← hD9]
      simp only [pickOps, List.append_eq, List.cons_append, List.nil_append, List.getElem?_toArray, List.getElem?_cons_succ, List.getElem?_cons_zero]
      have HD9 : Hid (D9 ≤ W.heap.size) := Lib.hid (by omega)
      have hb : Below W.heap.size W W.drew := (Below.refl _ _).drew
      generalize W.drew = wd at hb ⊢
      replace hC := hC.kept hb
      replace i1 := i1.kept hb
      replace HK : Hid ((World.heap _)[D]? = some (.deferred (some []))) := Lib.hid (heap_kept HK.out hb)
      replace HD9 : Hid (D9 ≤ _) := Lib.hid (Nat.le_trans HD9.out (hb).size)
      clear hb
      repeat (refine seqF_take (v := ?_) (fun t => by rfl) ?_ ?_; rotate_left; (· intro a9 h9 w hSw; (try dsimp only at hSw); obtain ⟨x9, rfl⟩ : ∃ x, a9 = Act.put _ (some 9) x := ⟨_, h9.one⟩; clear h9; have e0 := hSw.cell 0 _ rfl; have e1 := hSw.cell 1 _ rfl; have e2 := hSw.cell 2 _ rfl; clear hSw; simp only [Act.put, List.setIfInBounds_toArray, List.set_cons_zero, List.set_cons_succ]; go_simp; all_goals with_reducible rfl); simp only [Act.put, List.setIfInBounds_toArray, List.set_cons_zero, List.set_cons_succ])
      refine seqF_step (fun t => by rfl) (fun a9 wa h9 hb hS9 K hK => ?_)
      obtain ⟨x9, rfl⟩ : ∃ x, a9 = Act.put _ (some 9) x := ⟨_, h9.one⟩
      clear h9 hS9
      (try simp only [Act.put, List.setIfInBounds_toArray, List.set_cons_zero, List.set_cons_succ] at hK); simp only [Act.put, List.setIfInBounds_toArray, List.set_cons_zero, List.set_cons_succ]
      replace hC := hC.kept hb
      replace i1 := i1.kept hb
      replace HK : Hid ((World.heap _)[D]? = some (.deferred (some []))) := Lib.hid (heap_kept HK.out hb)
      replace HD9 : Hid (D9 ≤ _) := Lib.hid (Nat.le_trans HD9.out (hb).size)
      clear hb
      refine step_makeT E_nodeT (n := t.nodes.length) rfl rfl rfl (by omega) (by unfold maxLen; omega) ?_
      intro wm hOm hb
      obtain ⟨g, hg⟩ : ∃ g, g = wa.heap.size := ⟨_, rfl⟩
      rw [← hg] at hOm
      rw [← hg]
      have hgD : D9 ≤ g := by have := HD9.out; omega
      have hbK := hb
      replace hC := hC.kept hb
      replace i1 := i1.kept hb
      replace HK : Hid ((World.heap _)[D]? = some (.deferred (some []))) := Lib.hid (heap_kept HK.out hb)
      replace HD9 : Hid (D9 ≤ _) := Lib.hid (Nat.le_trans HD9.out (hb).size)
      clear hb hg
      first | refine hK.out _ _ hC.1 hbK ?_ | (go_wp2_with fail; refine hK.out _ _ hC.1 hbK ?_)
      clear hbK
      clear hK K
      (try simp only [Act.put, List.setIfInBounds_toArray, List.set_cons_zero, List.set_cons_succ])
      repeat (refine seqF_take (v := ?_) (fun t => by rfl) ?_ ?_; rotate_left; (· intro a9 h9 w hSw; (try dsimp only at hSw); obtain ⟨x9, rfl⟩ : ∃ x, a9 = Act.put _ (some 9) x := ⟨_, h9.one⟩; clear h9; have e0 := hSw.cell 0 _ rfl; have e1 := hSw.cell 1 _ rfl; have e2 := hSw.cell 2 _ rfl; clear hSw; simp only [Act.put, List.setIfInBounds_toArray, List.set_cons_zero, List.set_cons_succ]; go_simp; all_goals with_reducible rfl); simp only [Act.put, List.setIfInBounds_toArray, List.set_cons_zero, List.set_cons_succ])
      refine seqF_end (fun a9 we h9 hb hS9 hAt hNe => ?_)
      have hb0 := hb
      obtain ⟨x9, rfl⟩ : ∃ x, a9 = Act.put _ (some 9) x := ⟨_, h9.one⟩
      clear h9 hS9
      (try simp only [Act.put, List.setIfInBounds_toArray, List.set_cons_zero, List.set_cons_succ])
      (try simp only [Act.put, List.setIfInBounds_toArray, List.set_cons_zero, List.set_cons_succ] at hAt hNe)
      replace hC := hC.kept hb
      replace i1 := i1.kept hb
      replace HK : Hid ((World.heap _)[D]? = some (.deferred (some []))) := Lib.hid (heap_kept HK.out hb)
      replace HD9 : Hid (D9 ≤ _) := Lib.hid (Nat.le_trans HD9.out (hb).size)
      clear hb
      obtain ⟨p9, hx9, hg9, hh9⟩ := (hAt ⟨9, 9, .cells #[.slice none 0 0, .int .i64 0, .int .i64 0] 24⟩ (by simp)).slot rfl
      replace hx9 : x9 = _ := hx9
      subst hx9
      clear hAt hNe
      simp only [pickOps, List.append_eq, List.cons_append, List.nil_append, List.getElem?_toArray, List.getElem?_cons_succ, List.getElem?_cons_zero]
      replace hOm := hOm.kept hb0
      clear hb0
      obtain ⟨cur, hcur, -⟩ := hOm.obj
      have hne9 : p9 ≠ g := fun e9 => by rw [e9, hcur] at hh9; cases hh9
      have hbg := BoxL.of_ownsK hOm
      have hb9 : BoxL we p9 [.slice none 0 0, .int .i64 0, .int .i64 0] := BoxL.of_obj hh9
      clear hcur hh9 hOm
      have e0 := hb9.cell 0 _ rfl
      have e1 := hb9.cell 1 _ rfl
      have e2 := hb9.cell 2 _ rfl
      have f0 := hb9.free 0 (by simp)
      have f1 := hb9.free 1 (by simp)
      have f2 := hb9.free 2 (by simp)
      refine seq_step (by rfl) (fun K hK => ?_)
      go_simp
      obtain ⟨w6, hw6⟩ : ∃ W, W = ((we.setCell ⟨p9, 0, none⟩ (.slice (some ⟨g, 0, none⟩) t.nodes.length t.nodes.length)).setCell ⟨p9, 1, none⟩ (.int .i64 t.ms)).setCell ⟨p9, 2, none⟩ (.int .i64 t.nt) := ⟨_, rfl⟩
      rw [← hw6]
      have h69 : BoxL w6 p9 [.slice (some ⟨g, 0, none⟩) t.nodes.length t.nodes.length, .int .i64 t.ms, .int .i64 t.nt] := by
        rw [hw6]
        exact ((hb9.set 0 (.slice (some ⟨g, 0, none⟩) t.nodes.length t.nodes.length) (by simp)).set 1 (.int .i64 t.ms) (by simp)).set 2 (.int .i64 t.nt) (by simp)
      have hK6 : Keep (fun k => k = p9) we w6 := by rw [hw6]; exact (((Keep.refl (fun k => k = p9) we).set p9 0 _ (.inl rfl)).set p9 1 _ (.inl rfl)).set p9 2 _ (.inl rfl)
      replace hbg := hbg.keep hK6 (fun e => hne9 e.symm)
      replace hC := hC.keep hK6 (fun k hk => by cases hk; omega)
      replace i1 := i1.keep hK6 (by omega)
      replace HK : Hid ((World.heap _)[D]? = some (.deferred (some []))) := Lib.hid ((hK6.same D (Array.getElem?_eq_some_iff.1 HK.out).1 (by omega)).trans HK.out)
      replace HD9 : Hid (D9 ≤ _) := Lib.hid (Nat.le_trans HD9.out hK6.size)
      clear e0 e1 e2 f0 f1 f2 hw6 hK6 hb9
      first | refine hK.out _ _ hC.1 (fun _ => ?_) | (go_wp2_with fail; refine hK.out _ _ hC.1 (fun _ => ?_))
      clear hK K
      (try simp only [Act.put, List.setIfInBounds_toArray, List.set_cons_zero, List.set_cons_succ])
      refine seq_end (NoPan.normal ?_)
      have HD9W : Hid (D9 ≤ w6.heap.size) := HD9
      obtain ⟨DW, hDW⟩ : ∃ d, d = w6.heap.size := ⟨_, rfl⟩
      have e0 := hC.1.cell 0 _ rfl
      gi_wp2_with fail
      clear e0
      have HG : Hid (w.heap.size ≤ p1 ∧ p1 < p2 ∧ p2 < pn ∧ pn < p6 ∧ p6 < wS.heap.size ∧ wS.heap.size ≤ D ∧ D < D9 ∧ D9 ≤ g ∧ D9 ≤ p9 ∧ p9 ≠ g ∧ g < DW ∧ p9 < DW ∧ B ≤ p1) := Lib.hid (by have := h69.lt; have := hbg.lt; omega)
      have HSH : Hid (shapeB t = true) := Lib.hid HSB.out.symm
      have HNL : Hid (∀ j, j < t.nodes.length → (numL N L)[j]? = some ((posT t j : Nat) : Int)) := Lib.hid (by
        intro j hj
        rw [HLW.out, HN.out]
        exact numL_all HSH.out hj)
      have hRow : OdRow t DW w6.heap.size w6 _ 0 := OdRow.start (cs := (madeCells (Value.agg #[.int .i64 0, .int .i64 0, .slice none 0 0, .slice none 0 0, .string ⟨#[]⟩, .string ⟨#[]⟩, .slice none 0 0, .int .i64 0]).cells (t.nodes.length * 8)).toList) (by simp [madeCells, TR.N])
      have hDW2 : DW ≤ w6.heap.size := by omega
      have HRow := Lib.hid hRow
      clear HD9 HD9W hDW hgD hg9 hne9 hD9 hWS hsW hD hRow q1 q2 q3 q4 q5 q6 q7 q8 hBS hT1 HQ2 HTS HT3 HS3 hBR HLW HLS
      refine (wpIn_wide (n := 0)).2 ?_
      go_loopg [49] t.nodes.length (fun gg iv wr => ∃ (i : Nat) (cs : List Value), i + gg = t.nodes.length ∧ iv = .int .i64 (i : Int) ∧ OdC p1 p2 p6 pn N t no nc B w wr ∧ BoxL wr pn (icel (numL N L)) ∧ BoxL wr p9 [.slice (some ⟨g, 0, none⟩) t.nodes.length t.nodes.length, .int .i64 t.ms, .int .i64 t.nt] ∧ BoxL wr g cs ∧ Hid (OdRow t DW wr.heap.size wr cs i) ∧ Hid (wr.heap[D]? = some (.deferred (some []))) ∧ DW ≤ wr.heap.size)
      case atStart => exact ⟨0, _, by omega, rfl, hC, i1, h69, hbg, HRow, HK, hDW2⟩
      clear hC i1 h69 hbg HRow HK hDW2
      case round =>
        obtain ⟨i, cs, hi, rfl, hC, i1, h69, hbg, HRow, HK, hDW⟩ := hrel
        by_cases hil : i < t.nodes.length
        case pos =>
          have hii : ((i : Nat) : Int) < ((t.nodes.length : Nat) : Int) := by omega
          have hqi : (0 : Int) ≤ (i : Int) := by omega
          obtain ⟨x, hx9⟩ : ∃ k, t.nodes[i]? = some k := ⟨_, List.getElem?_eq_getElem hil⟩
          have HSX : Hid (SmN x) := Lib.hid (hsm.out x (List.mem_of_getElem? hx9))
          have HSP : Hid (SmP 4000 x.p) := Lib.hid HSX.out.p
          obtain ⟨nb, noff, l, hno, hbB, hNI, hnd⟩ := hC.2.2.2.1.out.at_ i x hx9
          subst hno
          have HX := Lib.hid hx9
          obtain ⟨c0, c1, c2, c3, c4, c5, c6, c7⟩ := hnd
          obtain ⟨w1, hwE, hb1, hz1, pv, hpE, hbv⟩ := boxN wr x l
          have HW := Lib.hid hwE
          have HPV : Hid (wr.heap.size ≤ pv ∧ pv < w1.heap.size) := Lib.hid (by omega)
          clear hwE hx9 hz1
          go_upto_region 14 with fail
          rw [← HW.out, ← hpE]
          clear HW hpE c0 c1 c2 c3 c4 c5 c6 c7
          have hBw9 : B ≤ wr.heap.size := hC.2.2.2.2.2
          have HNI : Hid (NdIs B w1 x l) := Lib.hid (hNI.low (Low.of_below hb1 hBw9))
          have HNP : Hid (PtIs B w1 x.p l.vo l.vc l.ko l.kc) := Lib.hid HNI.out.p
          have HBw : Hid (B ≤ w1.heap.size) := Lib.hid (Nat.le_trans hBw9 hb1.size)
          replace hC := hC.kept hb1
          replace i1 := i1.kept hb1
          replace h69 := h69.kept hb1
          replace hbg := hbg.kept hb1
          replace HRow : Hid (OdRow t DW w1.heap.size w1 cs i) := Lib.hid (HRow.out.go hb1.size (Mid.of_below hb1 (Nat.le_refl _)))
          replace HK : Hid (w1.heap[D]? = some (.deferred (some []))) := Lib.hid (heap_kept HK.out hb1)
          have hDW1 : DW ≤ w1.heap.size := Nat.le_trans hDW hb1.size
          clear hb1 hNI hBw9
          go_cut [12] from 54 to 61 (fun p12v wx => ∃ (p12 : Nat) (uo : Option Addr) (uc : Nat) (lo : Option Addr) (lc : Nat), p12v = .pointer (some ⟨p12, 0, none⟩) ∧ BoxL wx p12 [.int .i64 x.p.op, .int .i64 x.p.fld, .slice uo x.p.vals.length uc, .slice lo x.p.kids.length lc, .string ⟨x.sc.toArray⟩, .string ⟨x.ct.toArray⟩, .slice none 0 0, .int .i64 (-1)] ∧ Hid (∃ qa qb, w1.heap.size ≤ qa ∧ qb ≤ wx.heap.size ∧ ¬ (qa ≤ p12 ∧ p12 < qb) ∧ PQt qa qb wx x.p uo uc lo lc) ∧ Below w1.heap.size w1 wx ∧ w1.heap.size ≤ p12)
          case first =>
            clear hC i1 h69 hbg HRow HK hDW1 hDW HNI
            refine wp_noPan ?_
            refine wp_region_held_drew (S := fun w' => BoxL w' pv [.int .i64 x.p.op, .int .i64 x.p.fld, .slice l.vo x.p.vals.length l.vc, .slice l.ko x.p.kids.length l.kc, .string ⟨x.sc.toArray⟩, .string ⟨x.ct.toArray⟩, .slice l.io x.kids.length l.ic, .int .i64 x.df]) (by kernel_rfl) hbv.drew (fun _ => ?_)
            have h1d : Below w1.heap.size w1 w1.drew := (Below.refl _ _).drew
            generalize w1.drew = wd at h1d ⊢
            replace hbv := hbv.kept h1d
            replace HNP : Hid (PtIs B wd x.p l.vo l.vc l.ko l.kc) := Lib.hid (HNP.out.low (Low.of_below h1d HBw.out))
            replace HBw : Hid (B ≤ wd.heap.size) := Lib.hid (Nat.le_trans HBw.out h1d.size)
            (refine wpAnyH_take (i := 0) (v := ?_) rfl (by kernel_rfl) (by kernel_rfl) (by kernel_rfl) (fun _ _ _ h => h) (Or.inl ⟨by rfl, ?_⟩) hbv ?_; rotate_left; (· intro w hSw; (try dsimp only at hSw); have e0 := hSw.cell 0 _ rfl; have e1 := hSw.cell 1 _ rfl; have e2 := hSw.cell 2 _ rfl; have e3 := hSw.cell 3 _ rfl; have e4 := hSw.cell 4 _ rfl; have e5 := hSw.cell 5 _ rfl; have e6 := hSw.cell 6 _ rfl; have e7 := hSw.cell 7 _ rfl; clear hSw; go_simp; all_goals with_reducible rfl); (try simp only [List.getElem_toArray, List.getElem_cons_succ, List.getElem_cons_zero, Act.put, List.setIfInBounds_toArray, List.set_cons_zero, List.set_cons_succ]))
            (refine wpAnyH_take (i := 1) (v := ?_) rfl (by kernel_rfl) (by kernel_rfl) (by kernel_rfl) (fun _ _ _ h => h) (Or.inl ⟨by rfl, ?_⟩) hbv ?_; rotate_left; (· intro w hSw; (try dsimp only at hSw); have e0 := hSw.cell 0 _ rfl; have e1 := hSw.cell 1 _ rfl; have e2 := hSw.cell 2 _ rfl; have e3 := hSw.cell 3 _ rfl; have e4 := hSw.cell 4 _ rfl; have e5 := hSw.cell 5 _ rfl; have e6 := hSw.cell 6 _ rfl; have e7 := hSw.cell 7 _ rfl; clear hSw; go_simp; all_goals with_reducible rfl); (try simp only [List.getElem_toArray, List.getElem_cons_succ, List.getElem_cons_zero, Act.put, List.setIfInBounds_toArray, List.set_cons_zero, List.set_cons_succ]))
            (refine wpAnyH_take (i := 3) (v := ?_) rfl (by kernel_rfl) (by kernel_rfl) (by kernel_rfl) (fun _ _ _ h => h) (Or.inl ⟨by rfl, ?_⟩) hbv ?_; rotate_left; (· intro w hSw; (try dsimp only at hSw); have e0 := hSw.cell 0 _ rfl; have e1 := hSw.cell 1 _ rfl; have e2 := hSw.cell 2 _ rfl; have e3 := hSw.cell 3 _ rfl; have e4 := hSw.cell 4 _ rfl; have e5 := hSw.cell 5 _ rfl; have e6 := hSw.cell 6 _ rfl; have e7 := hSw.cell 7 _ rfl; clear hSw; go_simp; all_goals with_reducible rfl); (try simp only [List.getElem_toArray, List.getElem_cons_succ, List.getElem_cons_zero, Act.put, List.setIfInBounds_toArray, List.set_cons_zero, List.set_cons_succ]))
            (refine wpAnyH_take (i := 4) (v := ?_) rfl (by kernel_rfl) (by kernel_rfl) (by kernel_rfl) (fun _ _ _ h => h) (Or.inl ⟨by rfl, ?_⟩) hbv ?_; rotate_left; (· intro w hSw; (try dsimp only at hSw); have e0 := hSw.cell 0 _ rfl; have e1 := hSw.cell 1 _ rfl; have e2 := hSw.cell 2 _ rfl; have e3 := hSw.cell 3 _ rfl; have e4 := hSw.cell 4 _ rfl; have e5 := hSw.cell 5 _ rfl; have e6 := hSw.cell 6 _ rfl; have e7 := hSw.cell 7 _ rfl; clear hSw; go_simp; all_goals with_reducible rfl); (try simp only [List.getElem_toArray, List.getElem_cons_succ, List.getElem_cons_zero, Act.put, List.setIfInBounds_toArray, List.set_cons_zero, List.set_cons_succ]))
            (refine wpAnyH_take (i := 5) (v := ?_) rfl (by kernel_rfl) (by kernel_rfl) (by kernel_rfl) (fun _ _ _ h => h) (Or.inl ⟨by rfl, ?_⟩) hbv ?_; rotate_left; (· intro w hSw; (try dsimp only at hSw); have e0 := hSw.cell 0 _ rfl; have e1 := hSw.cell 1 _ rfl; have e2 := hSw.cell 2 _ rfl; have e3 := hSw.cell 3 _ rfl; have e4 := hSw.cell 4 _ rfl; have e5 := hSw.cell 5 _ rfl; have e6 := hSw.cell 6 _ rfl; have e7 := hSw.cell 7 _ rfl; clear hSw; go_simp; all_goals with_reducible rfl); (try simp only [List.getElem_toArray, List.getElem_cons_succ, List.getElem_cons_zero, Act.put, List.setIfInBounds_toArray, List.set_cons_zero, List.set_cons_succ]))
            (refine wpAnyH_take (i := 6) (v := ?_) rfl (by kernel_rfl) (by kernel_rfl) (by kernel_rfl) (fun _ _ _ h => h) (Or.inl ⟨by rfl, ?_⟩) hbv ?_; rotate_left; (· intro w hSw; (try dsimp only at hSw); have e0 := hSw.cell 0 _ rfl; have e1 := hSw.cell 1 _ rfl; have e2 := hSw.cell 2 _ rfl; have e3 := hSw.cell 3 _ rfl; have e4 := hSw.cell 4 _ rfl; have e5 := hSw.cell 5 _ rfl; have e6 := hSw.cell 6 _ rfl; have e7 := hSw.cell 7 _ rfl; clear hSw; go_simp; all_goals with_reducible rfl); (try simp only [List.getElem_toArray, List.getElem_cons_succ, List.getElem_cons_zero, Act.put, List.setIfInBounds_toArray, List.set_cons_zero, List.set_cons_succ]))
            refine wpAnyH_ready (rs := [2, 8]) (by kernel_rfl) (by simp) (AllReadyH.cons rfl (fun K hK => ?_) (AllReadyH.cons rfl (fun K hK => ?_) AllReadyH.nil))
            · skip
              go_simp
              go_at_call 69
              (with_reducible refine (copied_h x.p l.vo l.vc l.ko l.kc B _ HNP HBw HSP).mono ?_)
              rintro e wm ⟨uo, uc, lo, lc, rfl, hQ, hb⟩
              obtain ⟨qa, hqa⟩ : ∃ q, q = World.size9 wd := ⟨_, rfl⟩
              obtain ⟨qb, hqb⟩ : ∃ q, q = World.size9 wm := ⟨_, rfl⟩
              unfold World.size9 at hqa hqb
              rw [← hqa, ← hqb] at hQ
              have hqa1 : w1.heap.size ≤ qa := by rw [hqa]; exact h1d.size
              have hqb1 : qb ≤ wm.heap.size := by omega
              replace hbv := hbv.kept hb
              replace h1d := h1d.trans (hb.mono h1d.size)
              clear hb hqa hqb
              first | refine hK.out _ _ hbv (fun _ => ?_) | (go_wp2_with fail; refine hK.out _ _ hbv (fun _ => ?_))
              clear hK K
              (try simp only [List.getElem_toArray, List.getElem_cons_succ, List.getElem_cons_zero, Act.put, List.setIfInBounds_toArray, List.set_cons_zero, List.set_cons_succ])
              (refine wpAnyH_take (i := 7) (v := ?_) rfl (by kernel_rfl) (by kernel_rfl) (by kernel_rfl) (fun _ _ _ h => h) (Or.inl ⟨by rfl, ?_⟩) hbv ?_; rotate_left; (· intro w hSw; (try dsimp only at hSw); clear hSw; go_simp; all_goals with_reducible rfl); (try simp only [List.getElem_toArray, List.getElem_cons_succ, List.getElem_cons_zero, Act.put, List.setIfInBounds_toArray, List.set_cons_zero, List.set_cons_succ]))
              refine wpAnyH_ready (rs := [8]) (by kernel_rfl) (by simp) (AllReadyH.cons rfl (fun K hK => ?_) AllReadyH.nil)
              go_simp
              obtain ⟨wb, hwE⟩ : ∃ W, W = wm.alloc (.cells #[.int .i64 0, .int .i64 0, .slice none 0 0, .slice none 0 0, .string ⟨#[]⟩, .string ⟨#[]⟩, .slice none 0 0, .int .i64 0] 36) := ⟨_, rfl⟩
              obtain ⟨p12, hpE⟩ : ∃ q, q = wm.heap.size := ⟨_, rfl⟩
              have hb : Below wm.heap.size wm wb := by rw [hwE]; exact (Below.refl _ _).alloc (Nat.le_refl _) _
              have hb12 : BoxL wb p12 [.int .i64 0, .int .i64 0, .slice none 0 0, .slice none 0 0, .string ⟨#[]⟩, .string ⟨#[]⟩, .slice none 0 0, .int .i64 0] := by rw [hwE, hpE]; exact BoxL.new wm _ _
              have h112 : w1.heap.size ≤ p12 := by rw [hpE]; exact h1d.size
              have hnq : ¬ (qa ≤ p12 ∧ p12 < qb) := by omega
              replace hQ := hQ.mid (Mid.of_below hb hqb1)
              replace hqb1 := Nat.le_trans hqb1 hb.size
              replace hbv := hbv.kept hb
              replace h1d := h1d.trans (hb.mono h1d.size)
              rw [← hwE, ← hpE]
              clear hb hwE hpE
              first | refine hK.out _ _ hbv (fun _ => ?_) | (go_wp2_with fail; refine hK.out _ _ hbv (fun _ => ?_))
              clear hK K
              (try simp only [List.getElem_toArray, List.getElem_cons_succ, List.getElem_cons_zero, Act.put, List.setIfInBounds_toArray, List.set_cons_zero, List.set_cons_succ])
              refine wpAnyH_ready (rs := [9]) (by kernel_rfl) (by simp) (AllReadyH.cons rfl (fun K hK => ?_) AllReadyH.nil)
              have x0 := hb12.cell 0 _ rfl
              have x1 := hb12.cell 1 _ rfl
              have x2 := hb12.cell 2 _ rfl
              have x3 := hb12.cell 3 _ rfl
              have x4 := hb12.cell 4 _ rfl
              have x5 := hb12.cell 5 _ rfl
              have x6 := hb12.cell 6 _ rfl
              have x7 := hb12.cell 7 _ rfl
              have f0 := hb12.free 0 (by simp)
              have f1 := hb12.free 1 (by simp)
              have f2 := hb12.free 2 (by simp)
              have f3 := hb12.free 3 (by simp)
              have f4 := hb12.free 4 (by simp)
              have f5 := hb12.free 5 (by simp)
              have f6 := hb12.free 6 (by simp)
              have f7 := hb12.free 7 (by simp)
              go_simp
              obtain ⟨we, hwE⟩ : ∃ W, W = ((((((((wb.setCell ⟨p12, 0, none⟩ (.int .i64 x.p.op)).setCell ⟨p12, 1, none⟩ (.int .i64 x.p.fld)).setCell ⟨p12, 2, none⟩ (.slice uo x.p.vals.length uc)).setCell ⟨p12, 3, none⟩ (.slice lo x.p.kids.length lc)).setCell ⟨p12, 4, none⟩ (.string ⟨x.sc.toArray⟩)).setCell ⟨p12, 5, none⟩ (.string ⟨x.ct.toArray⟩)).setCell ⟨p12, 6, none⟩ (.slice none 0 0)).setCell ⟨p12, 7, none⟩ (.int .i64 (-1))) := ⟨_, rfl⟩
              rw [← hwE]
              have hB12 : BoxL we p12 [.int .i64 x.p.op, .int .i64 x.p.fld, .slice uo x.p.vals.length uc, .slice lo x.p.kids.length lc, .string ⟨x.sc.toArray⟩, .string ⟨x.ct.toArray⟩, .slice none 0 0, .int .i64 (-1)] := by rw [hwE]; exact ((((((((hb12.set 0 (.int .i64 x.p.op) (by simp)).set 1 (.int .i64 x.p.fld) (by simp)).set 2 (.slice uo x.p.vals.length uc) (by simp)).set 3 (.slice lo x.p.kids.length lc) (by simp)).set 4 (.string ⟨x.sc.toArray⟩) (by simp)).set 5 (.string ⟨x.ct.toArray⟩) (by simp)).set 6 (.slice none 0 0) (by simp)).set 7 (.int .i64 (-1)) (by simp))
              have hKE : Keep (fun k => k = p12) wb we := by rw [hwE]; exact (((((((((Keep.refl (fun k => k = p12) wb).set p12 0 _ (.inl rfl)).set p12 1 _ (.inl rfl)).set p12 2 _ (.inl rfl)).set p12 3 _ (.inl rfl)).set p12 4 _ (.inl rfl)).set p12 5 _ (.inl rfl)).set p12 6 _ (.inl rfl)).set p12 7 _ (.inl rfl))
              have hQE := hQ.mid (w' := we) (fun k h1 h2 => hKE.same k (by omega) (fun e => hnq (by omega)))
              have hqE : qb ≤ we.heap.size := Nat.le_trans hqb1 hKE.size
              have hbE : Below w1.heap.size w1 we := h1d.trans (hKE.below (fun k hk => by omega) h1d.size)
              replace hbv := hbv.keep hKE (fun e => by have := HPV.out; omega)
              clear hwE hKE x0 x1 x2 x3 x4 x5 x6 x7 f0 f1 f2 f3 f4 f5 f6 f7
              first | refine hK.out _ _ hbv (fun _ => ?_) | (go_wp2_with fail; refine hK.out _ _ hbv (fun _ => ?_))
              clear hK K
              (try simp only [List.getElem_toArray, List.getElem_cons_succ, List.getElem_cons_zero, Act.put, List.setIfInBounds_toArray, List.set_cons_zero, List.set_cons_succ])
              refine wpAnyH_done (by kernel_rfl) (NoPan.normal ?_) _
              go_wp2_with fail
              go_meet
              case rel => exact ⟨p12, uo, uc, lo, lc, rfl, hB12, Lib.hid ⟨qa, qb, hqa1, hqE, hnq, hQE⟩, hbE, h112⟩
            · skip
              go_simp
              obtain ⟨wb, hwE⟩ : ∃ W, W = wd.alloc (.cells #[.int .i64 0, .int .i64 0, .slice none 0 0, .slice none 0 0, .string ⟨#[]⟩, .string ⟨#[]⟩, .slice none 0 0, .int .i64 0] 36) := ⟨_, rfl⟩
              obtain ⟨p12, hpE⟩ : ∃ q, q = wd.heap.size := ⟨_, rfl⟩
              have hb : Below wd.heap.size wd wb := by rw [hwE]; exact (Below.refl _ _).alloc (Nat.le_refl _) _
              have hb12 : BoxL wb p12 [.int .i64 0, .int .i64 0, .slice none 0 0, .slice none 0 0, .string ⟨#[]⟩, .string ⟨#[]⟩, .slice none 0 0, .int .i64 0] := by rw [hwE, hpE]; exact BoxL.new wd _ _
              have h112 : w1.heap.size ≤ p12 := by rw [hpE]; exact h1d.size
              replace HNP : Hid (PtIs B wb x.p l.vo l.vc l.ko l.kc) := Lib.hid (HNP.out.low (Low.of_below hb HBw.out))
              replace HBw : Hid (B ≤ wb.heap.size) := Lib.hid (Nat.le_trans HBw.out hb.size)
              replace hbv := hbv.kept hb
              replace h1d := h1d.trans (hb.mono h1d.size)
              rw [← hwE, ← hpE]
              clear hb hwE hpE
              first | refine hK.out _ _ hbv (fun _ => ?_) | (go_wp2_with fail; refine hK.out _ _ hbv (fun _ => ?_))
              clear hK K
              (try simp only [List.getElem_toArray, List.getElem_cons_succ, List.getElem_cons_zero, Act.put, List.setIfInBounds_toArray, List.set_cons_zero, List.set_cons_succ])
              refine wpAnyH_ready (rs := [2]) (by kernel_rfl) (by simp) (AllReadyH.cons rfl (fun K hK => ?_) AllReadyH.nil)
              go_simp
              go_at_call 69
              (with_reducible refine (copied_h x.p l.vo l.vc l.ko l.kc B _ HNP HBw HSP).mono ?_)
              rintro e wm ⟨uo, uc, lo, lc, rfl, hQ, hb⟩
              obtain ⟨qa, hqa⟩ : ∃ q, q = World.size9 wb := ⟨_, rfl⟩
              obtain ⟨qb, hqb⟩ : ∃ q, q = World.size9 wm := ⟨_, rfl⟩
              unfold World.size9 at hqa hqb
              rw [← hqa, ← hqb] at hQ
              have hqa1 : w1.heap.size ≤ qa := by rw [hqa]; exact h1d.size
              have hqb1 : qb ≤ wm.heap.size := by omega
              replace hbv := hbv.kept hb
              have hnq : ¬ (qa ≤ p12 ∧ p12 < qb) := by have := hb12.lt; omega
              replace hb12 := hb12.kept hb
              replace h1d := h1d.trans (hb.mono h1d.size)
              clear hb hqa hqb
              first | refine hK.out _ _ hbv (fun _ => ?_) | (go_wp2_with fail; refine hK.out _ _ hbv (fun _ => ?_))
              clear hK K
              (try simp only [List.getElem_toArray, List.getElem_cons_succ, List.getElem_cons_zero, Act.put, List.setIfInBounds_toArray, List.set_cons_zero, List.set_cons_succ])
              (refine wpAnyH_take (i := 7) (v := ?_) rfl (by kernel_rfl) (by kernel_rfl) (by kernel_rfl) (fun _ _ _ h => h) (Or.inl ⟨by rfl, ?_⟩) hbv ?_; rotate_left; (· intro w hSw; (try dsimp only at hSw); clear hSw; go_simp; all_goals with_reducible rfl); (try simp only [List.getElem_toArray, List.getElem_cons_succ, List.getElem_cons_zero, Act.put, List.setIfInBounds_toArray, List.set_cons_zero, List.set_cons_succ]))
              refine wpAnyH_ready (rs := [9]) (by kernel_rfl) (by simp) (AllReadyH.cons rfl (fun K hK => ?_) AllReadyH.nil)
              have x0 := hb12.cell 0 _ rfl
              have x1 := hb12.cell 1 _ rfl
              have x2 := hb12.cell 2 _ rfl
              have x3 := hb12.cell 3 _ rfl
              have x4 := hb12.cell 4 _ rfl
              have x5 := hb12.cell 5 _ rfl
              have x6 := hb12.cell 6 _ rfl
              have x7 := hb12.cell 7 _ rfl
              have f0 := hb12.free 0 (by simp)
              have f1 := hb12.free 1 (by simp)
              have f2 := hb12.free 2 (by simp)
              have f3 := hb12.free 3 (by simp)
              have f4 := hb12.free 4 (by simp)
              have f5 := hb12.free 5 (by simp)
              have f6 := hb12.free 6 (by simp)
              have f7 := hb12.free 7 (by simp)
              go_simp
              obtain ⟨we, hwE⟩ : ∃ W, W = ((((((((wm.setCell ⟨p12, 0, none⟩ (.int .i64 x.p.op)).setCell ⟨p12, 1, none⟩ (.int .i64 x.p.fld)).setCell ⟨p12, 2, none⟩ (.slice uo x.p.vals.length uc)).setCell ⟨p12, 3, none⟩ (.slice lo x.p.kids.length lc)).setCell ⟨p12, 4, none⟩ (.string ⟨x.sc.toArray⟩)).setCell ⟨p12, 5, none⟩ (.string ⟨x.ct.toArray⟩)).setCell ⟨p12, 6, none⟩ (.slice none 0 0)).setCell ⟨p12, 7, none⟩ (.int .i64 (-1))) := ⟨_, rfl⟩
              rw [← hwE]
              have hB12 : BoxL we p12 [.int .i64 x.p.op, .int .i64 x.p.fld, .slice uo x.p.vals.length uc, .slice lo x.p.kids.length lc, .string ⟨x.sc.toArray⟩, .string ⟨x.ct.toArray⟩, .slice none 0 0, .int .i64 (-1)] := by rw [hwE]; exact ((((((((hb12.set 0 (.int .i64 x.p.op) (by simp)).set 1 (.int .i64 x.p.fld) (by simp)).set 2 (.slice uo x.p.vals.length uc) (by simp)).set 3 (.slice lo x.p.kids.length lc) (by simp)).set 4 (.string ⟨x.sc.toArray⟩) (by simp)).set 5 (.string ⟨x.ct.toArray⟩) (by simp)).set 6 (.slice none 0 0) (by simp)).set 7 (.int .i64 (-1)) (by simp))
              have hKE : Keep (fun k => k = p12) wm we := by rw [hwE]; exact (((((((((Keep.refl (fun k => k = p12) wm).set p12 0 _ (.inl rfl)).set p12 1 _ (.inl rfl)).set p12 2 _ (.inl rfl)).set p12 3 _ (.inl rfl)).set p12 4 _ (.inl rfl)).set p12 5 _ (.inl rfl)).set p12 6 _ (.inl rfl)).set p12 7 _ (.inl rfl))
              have hQE := hQ.mid (w' := we) (fun k h1 h2 => hKE.same k (by omega) (fun e => hnq (by omega)))
              have hqE : qb ≤ we.heap.size := Nat.le_trans hqb1 hKE.size
              have hbE : Below w1.heap.size w1 we := h1d.trans (hKE.below (fun k hk => by omega) h1d.size)
              replace hbv := hbv.keep hKE (fun e => by have := HPV.out; omega)
              clear hwE hKE x0 x1 x2 x3 x4 x5 x6 x7 f0 f1 f2 f3 f4 f5 f6 f7
              first | refine hK.out _ _ hbv (fun _ => ?_) | (go_wp2_with fail; refine hK.out _ _ hbv (fun _ => ?_))
              clear hK K
              (try simp only [List.getElem_toArray, List.getElem_cons_succ, List.getElem_cons_zero, Act.put, List.setIfInBounds_toArray, List.set_cons_zero, List.set_cons_succ])
              refine wpAnyH_done (by kernel_rfl) (NoPan.normal ?_) _
              go_wp2_with fail
              go_meet
              case rel => exact ⟨p12, uo, uc, lo, lc, rfl, hB12, Lib.hid ⟨qa, qb, hqa1, hqE, hnq, hQE⟩, hbE, h112⟩
          case rest =>
            obtain ⟨p12, uo, uc, lo, lc, rfl, hB12, HQ, hb2, h112⟩ := hcut
            obtain ⟨w2, hwE⟩ : ∃ W, W = wc := ⟨_, rfl⟩
            subst hwE
            replace hC := hC.kept hb2
            replace i1 := i1.kept hb2
            replace h69 := h69.kept hb2
            replace hbg := hbg.kept hb2
            replace hbv := hbv.kept hb2
            obtain ⟨hh, hhe⟩ : ∃ q, q = w1.heap.size := ⟨_, rfl⟩
            replace HRow : Hid (OdRow t DW hh w2 cs i) := Lib.hid (by rw [hhe]; exact HRow.out.go (Nat.le_refl _) (Mid.of_below hb2 (Nat.le_refl _)))
            replace HK : Hid (w2.heap[D]? = some (.deferred (some []))) := Lib.hid (heap_kept HK.out hb2)
            have HKI : Hid (IntsB B w2 l.io l.ic x.kids) := Lib.hid (HNI.out.k.low (Low.of_below hb2 HBw.out))
            have HP12 : Hid (DW ≤ hh ∧ hh ≤ p12 ∧ pv < hh ∧ p12 < w2.heap.size ∧ DW ≤ pv) := Lib.hid (by have := hB12.lt; have := HPV.out; omega)
            replace HQ : Hid (∃ qa qb, DW ≤ qa ∧ qb ≤ w2.heap.size ∧ ¬ (qa ≤ p12 ∧ p12 < qb) ∧ PQt qa qb w2 x.p uo uc lo lc) := Lib.hid (by obtain ⟨qa, qb, h1, h2, h3, h4⟩ := HQ.out; exact ⟨qa, qb, by omega, h2, h3, h4⟩)
            have hkl : x.kids.length ≤ 1500 := by have := kids_sum HX.out; have := HSZ.out; omega
            have HNN : Hid (N = t.nodes.length) := HN
            have HNI2 : Hid (x.sc.length ≤ 9223372036854775807 ∧ x.ct.length ≤ 9223372036854775807) := Lib.hid ⟨HNI.out.sc, HNI.out.ct⟩
            clear hb2 h112 hhe HNP HNI HBw HSP HSX hDW1 hDW hbB
            obtain ⟨cb, hcb⟩ : ∃ c, c = decide (0 ≤ x.df ∧ x.df < (N : Int)) := ⟨_, rfl⟩
            have HCB := Lib.hid hcb
            have v4 := hbv.cell 7 _ rfl
            have e6 := hC.2.2.1.cell 0 _ rfl
            clear hcb
            go_upto_region 15 with fail
            go_cut [71] from 62 to 71 (fun c9 wx => c9 = .bool cb ∧ wx = w2)
            case first =>
              by_cases g0 : 0 ≤ x.df
              · by_cases g1 : x.df < (N : Int)
                · have e9 : cb = true := by rw [HCB.out]; exact decide_eq_true ⟨g0, g1⟩
                  subst e9
                  go_wp2_with fail
                  go_meet
                  case rel => exact ⟨rfl, rfl⟩
                · have e9 : cb = false := by rw [HCB.out]; exact decide_eq_false (fun h => g1 h.2)
                  subst e9
                  go_wp2_with fail
                  go_meet
                  case rel => exact ⟨rfl, rfl⟩
              · have e9 : cb = false := by rw [HCB.out]; exact decide_eq_false (fun h => g0 h.1)
                subst e9
                go_wp2_with fail
                go_meet
                case rel => exact ⟨rfl, rfl⟩
            case rest =>
              obtain ⟨rfl, rfl⟩ := hcut
              obtain ⟨dv, hdv⟩ : ∃ d, d = (newN t x).df := ⟨_, rfl⟩
              have HDV := Lib.hid hdv
              clear hdv v4 e6
              cases cb
              case false =>
                have hde : (-1 : Int) = dv := by
                  rw [HDV.out]
                  show -1 = if 0 ≤ x.df ∧ x.df < (t.N : Int) then _ else -1
                  rw [if_neg (by have h9 := HCB.out; rw [HNN.out] at h9; exact of_decide_eq_false h9.symm)]
                obtain ⟨w3, hwE⟩ : ∃ W, W = wc := ⟨_, rfl⟩
                subst hwE
                rw [hde] at hB12
                have v6 := hbv.cell 6 _ rfl
                clear hde
                go_wp2_with fail
                obtain ⟨go, hgo⟩ : ∃ go, go = gk := ⟨_, rfl⟩
                subst hgo
                clear v6
                have HNK : Hid ((newN t x).kids.length = x.kids.length) := Lib.hid (by simp [newN])
                go_loopg [81] x.kids.length (fun gg jv wr => ∃ (j : Nat) (ko : Option Addr) (kn kc : Nat), j + gg = x.kids.length ∧ jv = .int .i64 (j : Int) ∧ OwnsK 1 w3.heap.size 3 wr (.slice ko kn kc) j (icel ((newN t x).kids.take j)) ∧ BoxL wr p12 [.int .i64 x.p.op, .int .i64 x.p.fld, .slice uo x.p.vals.length uc, .slice lo x.p.kids.length lc, .string ⟨x.sc.toArray⟩, .string ⟨x.ct.toArray⟩, .slice ko kn kc, .int .i64 dv] ∧ Keep (fun k => k = p12) w3 wr)
                case atStart => exact ⟨0, none, 0, 0, by omega, rfl, OwnsK.nil _ _ _ _, hB12, Keep.refl _ _⟩
                clear hB12
                case round =>
                  obtain ⟨j, ko, kn, kc, hj, rfl, hO, hB12, hKp⟩ := hrel
                  have hg9 := HG.out
                  have hq9 := HP12.out
                  have h6 := hC.2.2.1.keep hKp (by omega)
                  have hn1 := i1.keep hKp (by omega)
                  by_cases hjl : j < x.kids.length
                  case pos =>
                    have hjj : ((j : Nat) : Int) < ((x.kids.length : Nat) : Int) := by omega
                    have hqj : (0 : Int) ≤ (j : Int) := by omega
                    obtain ⟨k, hk9⟩ : ∃ k, x.kids[j]? = some k := ⟨_, List.getElem?_eq_getElem hjl⟩
                    obtain ⟨up, _, hon, _⟩ := shapeB_true HSH.out
                    obtain ⟨hk1, hk2, _⟩ := hon.val i x HX.out k (List.mem_of_getElem? hk9)
                    obtain ⟨kk, rfl⟩ : ∃ n : Nat, k = (n : Int) := ⟨k.toNat, by omega⟩
                    have hkN : kk < t.nodes.length := by unfold TR.N at hk2; omega
                    have hqk : (0 : Int) ≤ (kk : Int) := by omega
                    have hqN : (kk : Int) < (N : Int) := by have := HNN.out; omega
                    have HTK : Hid (icel ((newN t x).kids.take j) ++ [.int .i64 ((posT t kk : Nat) : Int)] = icel ((newN t x).kids.take (j + 1))) := Lib.hid (by
                      have h9 : (newN t x).kids[j]? = some ((posT t kk : Nat) : Int) := by show (x.kids.map _)[j]? = _; rw [List.getElem?_map, hk9]; rfl
                      rw [List.take_add_one, h9]
                      unfold icel
                      simp)
                    obtain ⟨kb, koff, hko, hkB, ck⟩ := (HKI.out.low (w' := wr) (fun k hk => hKp.same k (by omega) (by omega))).at_ j _ hk9
                    rw [hko]
                    clear hon hk1 hk2 hk9
                    go_upto_region 20 with fail
                    clear ck
                    refine wp_noPan ?_
                    refine wp_region_seqT (S := fun w' => BoxL w' p12 [.int .i64 x.p.op, .int .i64 x.p.fld, .slice uo x.p.vals.length uc, .slice lo x.p.kids.length lc, .string ⟨x.sc.toArray⟩, .string ⟨x.ct.toArray⟩, .slice ko kn kc, .int .i64 dv] ∧ BoxL w' p6 [.slice (some ⟨pn, 0, none⟩) N N] ∧ BoxL w' pn (icel (numL N L))) [(true, 0), (true, 1), (true, 2), (true, 3), (true, 4), (true, 5), (false, 6), (false, 7), (true, 8)] (by kernel_rfl) (by kernel_rfl) (by kernel_rfl) (by kernel_rfl) (by kernel_rfl) (by kernel_rfl) (fun _ _ _ _ _ h => h) ⟨hB12.drew, h6.drew, hn1.drew⟩ (fun _ => ?_)
                    simp only [pickOps, List.append_eq, List.cons_append, List.nil_append, List.getElem?_toArray, List.getElem?_cons_succ, List.getElem?_cons_zero]
                    have hb : Below wr.heap.size wr wr.drew := (Below.refl _ _).drew
                    generalize wr.drew = wd at hb ⊢
                    replace hB12 := hB12.kept hb
                    replace h6 := h6.kept hb
                    replace hn1 := hn1.kept hb
                    replace hO := hO.kept hb
                    replace hKp := hKp.then_below hb
                    clear hb
                    repeat (first | (refine seq_take (v := ?_) (by rfl) ?_ ?_; rotate_left; (· intro w hSw; (try dsimp only at hSw); obtain ⟨hL12, hL6, hLn⟩ := hSw; have x6 := hL12.cell 6 _ rfl; have e6 := hL6.cell 0 _ rfl; have en := hLn.cell kk _ (icel_get (HNL.out kk (by omega))); clear hL12 hL6 hLn; go_simp; all_goals with_reducible rfl); (try simp only [Act.put, List.setIfInBounds_toArray, List.set_cons_zero, List.set_cons_succ])) | (refine seq_leave (by rfl) ?_; (try simp only [Act.put, List.setIfInBounds_toArray, List.set_cons_zero, List.set_cons_succ])))
                    refine seq_step (by rfl) (fun K hK => ?_)
                    go_simp
                    obtain ⟨wb, hwE⟩ : ∃ W, W = wd.alloc (.cells #[.int .i64 ((posT t kk : Nat) : Int)] 3) := ⟨_, rfl⟩
                    obtain ⟨pb, hpE⟩ : ∃ q, q = wd.heap.size := ⟨_, rfl⟩
                    have hb : Below wd.heap.size wd wb := by rw [hwE]; exact (Below.refl _ _).alloc (Nat.le_refl _) _
                    have hbN : BoxL wb pb [.int .i64 ((posT t kk : Nat) : Int)] := by rw [hwE, hpE]; exact BoxL.new wd _ _
                    rw [← hwE, ← hpE]
                    clear hwE hpE
                    replace hB12 := hB12.kept hb
                    replace h6 := h6.kept hb
                    replace hn1 := hn1.kept hb
                    replace hO := hO.kept hb
                    replace hKp := hKp.then_below hb
                    clear hb
                    first | refine hK.out _ _ ⟨hB12, h6, hn1⟩ (fun _ => ?_) | (go_wp2_with fail; refine hK.out _ _ ⟨hB12, h6, hn1⟩ (fun _ => ?_))
                    clear hK K
                    (try simp only [Act.put, List.setIfInBounds_toArray, List.set_cons_zero, List.set_cons_succ])
                    refine seq_step (by rfl) (fun K hK => ?_)
                    refine step_appendKs (us := [.int .i64 ((posT t kk : Nat) : Int)]) E_intT hO rfl rfl rfl rfl (fun j u hj => by rw [Addr.add_lit, Nat.zero_add]; exact hbN.cell j u hj) (by simp [Value.oneCell']) (by omega) (by unfold maxLen; omega) hKp.size ?_
                    intro v9 w9 hO9 hg9 hn9
                    obtain ⟨ko9, kc9, rfl, -, -, -⟩ := hO9.slice
                    have hB9 : Below w3.heap.size wb w9 := ⟨hg9.os, hg9.tape, hg9.output, hg9.size, fun k hk => hg9.block k (by have := hKp.size; omega) (fun e9 => by have := (hO.lt k e9.symm).1; omega)⟩
                    rw [HTK.out] at hO9
                    replace hB12 := hB12.block (hB9.block p12 (by omega))
                    replace h6 := h6.block (hB9.block p6 (by omega))
                    replace hn1 := hn1.block (hB9.block pn (by omega))
                    replace hKp := hKp.below_to hB9
                    clear hB9 hg9 hn9 hO hbN
                    have hO := hO9
                    clear hO9
                    first | refine hK.out _ _ ⟨hB12, h6, hn1⟩ (fun _ => ?_) | (go_wp2_with fail; refine hK.out _ _ ⟨hB12, h6, hn1⟩ (fun _ => ?_))
                    clear hK K
                    (try simp only [Act.put, List.setIfInBounds_toArray, List.set_cons_zero, List.set_cons_succ])
                    repeat (first | (refine seq_take (v := ?_) (by rfl) ?_ ?_; rotate_left; (· intro w hSw; (try dsimp only at hSw); obtain ⟨hL12, hL6, hLn⟩ := hSw; have x6 := hL12.cell 6 _ rfl; have e6 := hL6.cell 0 _ rfl; have en := hLn.cell kk _ (icel_get (HNL.out kk (by omega))); clear hL12 hL6 hLn; go_simp; all_goals with_reducible rfl); (try simp only [Act.put, List.setIfInBounds_toArray, List.set_cons_zero, List.set_cons_succ])) | (refine seq_leave (by rfl) ?_; (try simp only [Act.put, List.setIfInBounds_toArray, List.set_cons_zero, List.set_cons_succ])))
                    refine seq_end ?_
                    refine tail_end rfl rfl ?_
                    have x6 := hB12.cell 6 _ rfl
                    have f6 := hB12.free 6 (by simp)
                    go_simp
                    obtain ⟨we, hwE⟩ : ∃ W, W = w9.setCell ⟨p12, 6, none⟩ (.slice ko9 (j + 1) kc9) := ⟨_, rfl⟩
                    rw [← hwE]
                    have hKE : Keep (fun k => k = p12) w9 we := by rw [hwE]; exact (Keep.refl (fun k => k = p12) w9).set p12 6 _ (.inl rfl)
                    replace hB12 : BoxL we p12 [.int .i64 x.p.op, .int .i64 x.p.fld, .slice uo x.p.vals.length uc, .slice lo x.p.kids.length lc, .string ⟨x.sc.toArray⟩, .string ⟨x.ct.toArray⟩, .slice ko9 (j + 1) kc9, .int .i64 dv] := by rw [hwE]; exact hB12.set 6 _ (by simp)
                    replace h6 := h6.keep hKE (by omega)
                    replace hn1 := hn1.keep hKE (by omega)
                    replace hO := hO.keep hKE (fun q hq e => by have := (hO.lt q hq).1; omega)
                    replace hKp := hKp.trans hKE (fun k _ h => h)
                    clear hwE hKE x6 f6
                    refine NoPan.normal ?_
                    rw [← hko]
                    go_wp2_with fail
                    go_roundg (gk - 1)
                    case measure => omega
                    case rel => exact ⟨j + 1, ko9, j + 1, kc9, by omega, by go_num, hO, hB12, hKp⟩
                  case neg =>
                    have hjj : ¬ ((j : Nat) : Int) < ((x.kids.length : Nat) : Int) := by omega
                    have hje : j = x.kids.length := by omega
                    subst hje
                    rw [List.take_of_length_le (by rw [HNK.out]; omega)] at hO
                    obtain ⟨ko1, kc1, hke, -, -, -⟩ := hO.slice
                    obtain rfl : kn = x.kids.length := by cases hke; rfl
                    clear hke hj hjl
                    have h9k := h69.keep hKp (by omega)
                    have hgk := hbg.keep hKp (by omega)
                    have hroom := HRow.out.room HSH.out (j := i) hil
                    have hpi := posT_lt HSH.out (n := i) hil
                    have hqp : (0 : Int) ≤ ((posT t i : Nat) : Int) := by omega
                    have hqpN : ((posT t i : Nat) : Int) < ((t.nodes.length : Nat) : Int) := by unfold TR.N at hpi; omega
                    have hiN : ((i : Nat) : Int) < (N : Int) := by have := HNN.out; omega
                    go_upto_region 22 with fail
                    refine wp_noPan ?_
                    refine wp_region_seq (S := fun w' => BoxL w' p12 [.int .i64 x.p.op, .int .i64 x.p.fld, .slice uo x.p.vals.length uc, .slice lo x.p.kids.length lc, .string ⟨x.sc.toArray⟩, .string ⟨x.ct.toArray⟩, .slice ko x.kids.length kc, .int .i64 dv] ∧ BoxL w' p6 [.slice (some ⟨pn, 0, none⟩) N N] ∧ BoxL w' pn (icel (numL N L)) ∧ BoxL w' p9 [.slice (some ⟨g, 0, none⟩) t.nodes.length t.nodes.length, .int .i64 t.ms, .int .i64 t.nt]) [(true, 0), (true, 1), (true, 2), (true, 3), (true, 4), (true, 5), (true, 6), (true, 7), (false, 8)] (by kernel_rfl) (by kernel_rfl) (by kernel_rfl) (by kernel_rfl) (by kernel_rfl) (fun _ _ _ _ _ h => h) ⟨hB12.drew, h6.drew, hn1.drew, h9k.drew⟩ (fun _ => ?_)
                    simp only [pickOps, List.append_eq, List.cons_append, List.nil_append, List.getElem?_toArray, List.getElem?_cons_succ, List.getElem?_cons_zero]
                    have hb : Below wr.heap.size wr wr.drew := (Below.refl _ _).drew
                    generalize wr.drew = wd at hb ⊢
                    replace hB12 := hB12.kept hb
                    replace h6 := h6.kept hb
                    replace hn1 := hn1.kept hb
                    replace h9k := h9k.kept hb
                    replace hgk := hgk.kept hb
                    replace hO := hO.kept hb
                    replace hKp := hKp.then_below hb
                    clear hb
                    repeat (first | (refine seq_take (v := ?_) (by rfl) ?_ ?_; rotate_left; (· intro w hSw; (try dsimp only at hSw); obtain ⟨hL12, hL6, hLn, hL9⟩ := hSw; have x0 := hL12.cell 0 _ rfl; have x1 := hL12.cell 1 _ rfl; have x2 := hL12.cell 2 _ rfl; have x3 := hL12.cell 3 _ rfl; have x4 := hL12.cell 4 _ rfl; have x5 := hL12.cell 5 _ rfl; have x6 := hL12.cell 6 _ rfl; have x7 := hL12.cell 7 _ rfl; have e6 := hL6.cell 0 _ rfl; have e9 := hL9.cell 0 _ rfl; have en := hLn.cell i _ (icel_get (HNL.out i hil)); clear hL12 hL6 hLn hL9; go_simp; all_goals with_reducible rfl); (try simp only [Act.put, List.setIfInBounds_toArray, List.set_cons_zero, List.set_cons_succ])) | (refine seq_leave (by rfl) ?_; (try simp only [Act.put, List.setIfInBounds_toArray, List.set_cons_zero, List.set_cons_succ])))
                    refine seq_step (by rfl) (fun K hK => ?_)
                    obtain ⟨z0, hz0⟩ : ∃ u, cs[posT t i * 8]? = some u := ⟨_, List.getElem?_eq_getElem (by omega)⟩
                    have m0 := hgk.cell _ _ hz0
                    have l0 := hgk.free (posT t i * 8) (by omega)
                    obtain ⟨z1, hz1⟩ : ∃ u, cs[posT t i * 8 + 1]? = some u := ⟨_, List.getElem?_eq_getElem (by omega)⟩
                    have m1 := hgk.cell _ _ hz1
                    have l1 := hgk.free (posT t i * 8 + 1) (by omega)
                    obtain ⟨z2, hz2⟩ : ∃ u, cs[posT t i * 8 + 2]? = some u := ⟨_, List.getElem?_eq_getElem (by omega)⟩
                    have m2 := hgk.cell _ _ hz2
                    have l2 := hgk.free (posT t i * 8 + 2) (by omega)
                    obtain ⟨z3, hz3⟩ : ∃ u, cs[posT t i * 8 + 3]? = some u := ⟨_, List.getElem?_eq_getElem (by omega)⟩
                    have m3 := hgk.cell _ _ hz3
                    have l3 := hgk.free (posT t i * 8 + 3) (by omega)
                    obtain ⟨z4, hz4⟩ : ∃ u, cs[posT t i * 8 + 4]? = some u := ⟨_, List.getElem?_eq_getElem (by omega)⟩
                    have m4 := hgk.cell _ _ hz4
                    have l4 := hgk.free (posT t i * 8 + 4) (by omega)
                    obtain ⟨z5, hz5⟩ : ∃ u, cs[posT t i * 8 + 5]? = some u := ⟨_, List.getElem?_eq_getElem (by omega)⟩
                    have m5 := hgk.cell _ _ hz5
                    have l5 := hgk.free (posT t i * 8 + 5) (by omega)
                    obtain ⟨z6, hz6⟩ : ∃ u, cs[posT t i * 8 + 6]? = some u := ⟨_, List.getElem?_eq_getElem (by omega)⟩
                    have m6 := hgk.cell _ _ hz6
                    have l6 := hgk.free (posT t i * 8 + 6) (by omega)
                    obtain ⟨z7, hz7⟩ : ∃ u, cs[posT t i * 8 + 7]? = some u := ⟨_, List.getElem?_eq_getElem (by omega)⟩
                    have m7 := hgk.cell _ _ hz7
                    have l7 := hgk.free (posT t i * 8 + 7) (by omega)
                    clear hz0 hz1 hz2 hz3 hz4 hz5 hz6 hz7
                    go_simp
                    obtain ⟨we, hwE⟩ : ∃ W, W = ((((((((wd.setCell ⟨g, posT t i * 8, none⟩ (.int .i64 x.p.op)).setCell ⟨g, posT t i * 8 + 1, none⟩ (.int .i64 x.p.fld)).setCell ⟨g, posT t i * 8 + 2, none⟩ (.slice uo x.p.vals.length uc)).setCell ⟨g, posT t i * 8 + 3, none⟩ (.slice lo x.p.kids.length lc)).setCell ⟨g, posT t i * 8 + 4, none⟩ (.string ⟨x.sc.toArray⟩)).setCell ⟨g, posT t i * 8 + 5, none⟩ (.string ⟨x.ct.toArray⟩)).setCell ⟨g, posT t i * 8 + 6, none⟩ (.slice ko x.kids.length kc)).setCell ⟨g, posT t i * 8 + 7, none⟩ (.int .i64 dv)) := ⟨_, rfl⟩
                    rw [← hwE]
                    have hG : BoxL we g (set8 cs (posT t i * 8) (.int .i64 x.p.op) (.int .i64 x.p.fld) (.slice uo x.p.vals.length uc) (.slice lo x.p.kids.length lc) (.string ⟨x.sc.toArray⟩) (.string ⟨x.ct.toArray⟩) (.slice ko x.kids.length kc) (.int .i64 dv)) := by rw [hwE]; exact hgk.set8 (.int .i64 x.p.op) (.int .i64 x.p.fld) (.slice uo x.p.vals.length uc) (.slice lo x.p.kids.length lc) (.string ⟨x.sc.toArray⟩) (.string ⟨x.ct.toArray⟩) (.slice ko x.kids.length kc) (.int .i64 dv) hroom
                    have hKE : Keep (fun k => k = g) wd we := by rw [hwE]; exact (((((((((Keep.refl (fun k => k = g) wd).set g _ _ (.inl rfl)).set g _ _ (.inl rfl)).set g _ _ (.inl rfl)).set g _ _ (.inl rfl)).set g _ _ (.inl rfl)).set g _ _ (.inl rfl)).set g _ _ (.inl rfl)).set g _ _ (.inl rfl))
                    clear hwE m0 l0 m1 l1 m2 l2 m3 l3 m4 l4 m5 l5 m6 l6 m7 l7
                    replace hB12 := hB12.keep hKE (by omega)
                    replace h6 := h6.keep hKE (by omega)
                    replace hn1 := hn1.keep hKE (by omega)
                    replace h9k := h9k.keep hKE (by omega)
                    replace hO := hO.keep hKE (fun q hq e => by have := (hO.lt q hq).1; omega)
                    have hKZ : Keep (fun k => k = p12 ∨ k = g) w3 we := (hKp.mono (fun k _ h => .inl h)).trans hKE (fun k _ h => .inr h)
                    clear hKE hKp hgk
                    first | refine hK.out _ _ ⟨hB12, h6, hn1, h9k⟩ (fun _ => ?_) | (go_wp2_with fail; refine hK.out _ _ ⟨hB12, h6, hn1, h9k⟩ (fun _ => ?_))
                    clear hK K
                    (try simp only [Act.put, List.setIfInBounds_toArray, List.set_cons_zero, List.set_cons_succ])
                    refine seq_end (NoPan.normal ?_)
                    replace hC := hC.keep hKZ (fun k hk => by rcases hk with rfl | rfl <;> omega)
                    replace HK : Hid (we.heap[D]? = some (.deferred (some []))) := Lib.hid ((hKZ.same D (Array.getElem?_eq_some_iff.1 HK.out).1 (by omega)).trans HK.out)
                    have hrow9 : OdRow t DW we.heap.size we cs i := HRow.out.go (by have := hKZ.size; omega) (fun k h1 h2 => hKZ.same k (by omega) (by omega))
                    have hndq : NdQ DW we.heap.size we (newN t x) ⟨uo, uc, lo, lc, ko, kc⟩ := by
                      obtain ⟨qa, qb, q1, q2, q3, q4⟩ := HQ.out
                      have hz := hKZ.size
                      have q5 := (q4.mid (fun k ha hb => hKZ.same k (by omega) (fun h => by rcases h with h | h; exact q3 (by omega); omega))).widen q1 (show qb ≤ we.heap.size by omega)
                      have q6 := (IntsQ.of_owns hO (by rw [HNK.out])).widen (show DW ≤ w3.heap.size by omega) (Nat.le_refl _)
                      exact ⟨q5, q6, HNI2.out.1, HNI2.out.2⟩
                    have hstep := OdRow.step HSH.out hrow9 HX.out hndq
                    rw [← HDV.out] at hstep
                    have HST : Hid (OdRow t DW we.heap.size we (set8 cs (posT t i * 8) (.int .i64 x.p.op) (.int .i64 x.p.fld) (.slice uo x.p.vals.length uc) (.slice lo x.p.kids.length lc) (.string ⟨x.sc.toArray⟩) (.string ⟨x.ct.toArray⟩) (.slice ko x.kids.length kc) (.int .i64 dv)) (i + 1)) := Lib.hid (by
                      have h9 := hstep
                      dsimp only at h9
                      rw [HNK.out] at h9
                      exact h9)
                    have hDWe : DW ≤ we.heap.size := by have := hKZ.size; omega
                    clear hstep hndq hrow9 hKZ hroom hB12 h6
                    go_wp2_with fail
                    go_roundg (go - 1)
                    case measure => omega
                    case rel => exact ⟨i + 1, _, by omega, by go_num, hC, hn1, h9k, hG, HST, HK, hDWe⟩
              case true =>
                have hdr := of_decide_eq_true HCB.out.symm
                obtain ⟨dk, hdk⟩ : ∃ d : Nat, x.df = (d : Int) := ⟨x.df.toNat, by omega⟩
                have hdN : dk < t.nodes.length := by have := HNN.out; omega
                have hde : ((posT t dk : Nat) : Int) = dv := by
                  rw [HDV.out]
                  show _ = if 0 ≤ x.df ∧ x.df < (t.N : Int) then ((posT t x.df.toNat : Nat) : Int) else -1
                  rw [if_pos (by rw [HNN.out] at hdr; exact hdr), hdk, Int.toNat_natCast]
                have v7 := hbv.cell 7 _ rfl
                rw [hdk] at v7
                have HDK := Lib.hid hdk
                clear hdk
                have e6 := hC.2.2.1.cell 0 _ rfl
                have en := i1.cell dk _ (icel_get (HNL.out dk hdN))
                rw [hde] at en
                have x7 := hB12.cell 7 _ rfl
                have f7 := hB12.free 7 (by simp)
                have hqk : (0 : Int) ≤ (dk : Int) := by omega
                have hqk2 : (dk : Int) < (N : Int) := by have := HDK.out; omega
                obtain ⟨w3, hw3⟩ : ∃ W, W = wc.setCell ⟨p12, 7, none⟩ (.int .i64 dv) := ⟨_, rfl⟩
                have hK3 : Keep (fun k => k = p12) wc w3 := by rw [hw3]; exact (Keep.refl (fun k => k = p12) wc).set p12 7 _ (.inl rfl)
                have hz3 : w3.heap.size = wc.heap.size := by rw [hw3]; simp [World.setCell]
                have hB3 : BoxL w3 p12 [.int .i64 x.p.op, .int .i64 x.p.fld, .slice uo x.p.vals.length uc, .slice lo x.p.kids.length lc, .string ⟨x.sc.toArray⟩, .string ⟨x.ct.toArray⟩, .slice none 0 0, .int .i64 dv] := by rw [hw3]; exact hB12.set 7 _ (by simp)
                have HW3 := Lib.hid hw3
                clear hw3 hdr
                go_upto_region 17 with fail
                rw [← HW3.out]
                clear HW3 v7 e6 en x7 f7 hde hqk hqk2 hB12
                have hB12 := hB3
                clear hB3
                replace hC := hC.keep hK3 (fun k hk => by cases hk; have := HP12.out; have := HG.out; omega)
                replace i1 := i1.keep hK3 (by have := HP12.out; have := HG.out; omega)
                replace h69 := h69.keep hK3 (by have := HP12.out; have := HG.out; omega)
                replace hbg := hbg.keep hK3 (by have := HP12.out; have := HG.out; omega)
                replace hbv := hbv.keep hK3 (by have := HP12.out; omega)
                replace HRow : Hid (OdRow t DW hh w3 cs i) := Lib.hid (HRow.out.go (Nat.le_refl _) (fun k h1 h2 => hK3.same k (by have := HP12.out; omega) (by have := HP12.out; omega)))
                replace HK : Hid (w3.heap[D]? = some (.deferred (some []))) := Lib.hid ((hK3.same D (Array.getElem?_eq_some_iff.1 HK.out).1 (by have := HP12.out; have := HG.out; omega)).trans HK.out)
                replace HKI : Hid (IntsB B w3 l.io l.ic x.kids) := Lib.hid (HKI.out.low fun k hk => hK3.same k (by have := HP12.out; have := HG.out; omega) (by have := HP12.out; have := HG.out; omega))
                replace HQ : Hid (∃ qa qb, DW ≤ qa ∧ qb ≤ w3.heap.size ∧ ¬ (qa ≤ p12 ∧ p12 < qb) ∧ PQt qa qb w3 x.p uo uc lo lc) := Lib.hid (by obtain ⟨qa, qb, h1, h2, h3, h4⟩ := HQ.out; exact ⟨qa, qb, h1, by omega, h3, h4.mid (fun k ha hb => hK3.same k (by omega) (fun e => h3 (by omega)))⟩)
                replace HP12 : Hid (DW ≤ hh ∧ hh ≤ p12 ∧ pv < hh ∧ p12 < w3.heap.size ∧ DW ≤ pv) := Lib.hid (by have := HP12.out; omega)
                have v6 := hbv.cell 6 _ rfl
                clear hK3 hz3
                go_wp2_with fail
                obtain ⟨go, hgo⟩ : ∃ go, go = gk := ⟨_, rfl⟩
                subst hgo
                clear v6
                have HNK : Hid ((newN t x).kids.length = x.kids.length) := Lib.hid (by simp [newN])
                go_loopg [81] x.kids.length (fun gg jv wr => ∃ (j : Nat) (ko : Option Addr) (kn kc : Nat), j + gg = x.kids.length ∧ jv = .int .i64 (j : Int) ∧ OwnsK 1 w3.heap.size 3 wr (.slice ko kn kc) j (icel ((newN t x).kids.take j)) ∧ BoxL wr p12 [.int .i64 x.p.op, .int .i64 x.p.fld, .slice uo x.p.vals.length uc, .slice lo x.p.kids.length lc, .string ⟨x.sc.toArray⟩, .string ⟨x.ct.toArray⟩, .slice ko kn kc, .int .i64 dv] ∧ Keep (fun k => k = p12) w3 wr)
                case atStart => exact ⟨0, none, 0, 0, by omega, rfl, OwnsK.nil _ _ _ _, hB12, Keep.refl _ _⟩
                clear hB12
                case round =>
                  obtain ⟨j, ko, kn, kc, hj, rfl, hO, hB12, hKp⟩ := hrel
                  have hg9 := HG.out
                  have hq9 := HP12.out
                  have h6 := hC.2.2.1.keep hKp (by omega)
                  have hn1 := i1.keep hKp (by omega)
                  by_cases hjl : j < x.kids.length
                  case pos =>
                    have hjj : ((j : Nat) : Int) < ((x.kids.length : Nat) : Int) := by omega
                    have hqj : (0 : Int) ≤ (j : Int) := by omega
                    obtain ⟨k, hk9⟩ : ∃ k, x.kids[j]? = some k := ⟨_, List.getElem?_eq_getElem hjl⟩
                    obtain ⟨up, _, hon, _⟩ := shapeB_true HSH.out
                    obtain ⟨hk1, hk2, _⟩ := hon.val i x HX.out k (List.mem_of_getElem? hk9)
                    obtain ⟨kk, rfl⟩ : ∃ n : Nat, k = (n : Int) := ⟨k.toNat, by omega⟩
                    have hkN : kk < t.nodes.length := by unfold TR.N at hk2; omega
                    have hqk : (0 : Int) ≤ (kk : Int) := by omega
                    have hqN : (kk : Int) < (N : Int) := by have := HNN.out; omega
                    have HTK : Hid (icel ((newN t x).kids.take j) ++ [.int .i64 ((posT t kk : Nat) : Int)] = icel ((newN t x).kids.take (j + 1))) := Lib.hid (by
                      have h9 : (newN t x).kids[j]? = some ((posT t kk : Nat) : Int) := by show (x.kids.map _)[j]? = _; rw [List.getElem?_map, hk9]; rfl
                      rw [List.take_add_one, h9]
                      unfold icel
                      simp)
                    obtain ⟨kb, koff, hko, hkB, ck⟩ := (HKI.out.low (w' := wr) (fun k hk => hKp.same k (by omega) (by omega))).at_ j _ hk9
                    rw [hko]
                    clear hon hk1 hk2 hk9
                    go_upto_region 20 with fail
                    clear ck
                    refine wp_noPan ?_
                    refine wp_region_seqT (S := fun w' => BoxL w' p12 [.int .i64 x.p.op, .int .i64 x.p.fld, .slice uo x.p.vals.length uc, .slice lo x.p.kids.length lc, .string ⟨x.sc.toArray⟩, .string ⟨x.ct.toArray⟩, .slice ko kn kc, .int .i64 dv] ∧ BoxL w' p6 [.slice (some ⟨pn, 0, none⟩) N N] ∧ BoxL w' pn (icel (numL N L))) [(true, 0), (true, 1), (true, 2), (true, 3), (true, 4), (true, 5), (false, 6), (false, 7), (true, 8)] (by kernel_rfl) (by kernel_rfl) (by kernel_rfl) (by kernel_rfl) (by kernel_rfl) (by kernel_rfl) (fun _ _ _ _ _ h => h) ⟨hB12.drew, h6.drew, hn1.drew⟩ (fun _ => ?_)
                    simp only [pickOps, List.append_eq, List.cons_append, List.nil_append, List.getElem?_toArray, List.getElem?_cons_succ, List.getElem?_cons_zero]
                    have hb : Below wr.heap.size wr wr.drew := (Below.refl _ _).drew
                    generalize wr.drew = wd at hb ⊢
                    replace hB12 := hB12.kept hb
                    replace h6 := h6.kept hb
                    replace hn1 := hn1.kept hb
                    replace hO := hO.kept hb
                    replace hKp := hKp.then_below hb
                    clear hb
                    repeat (first | (refine seq_take (v := ?_) (by rfl) ?_ ?_; rotate_left; (· intro w hSw; (try dsimp only at hSw); obtain ⟨hL12, hL6, hLn⟩ := hSw; have x6 := hL12.cell 6 _ rfl; have e6 := hL6.cell 0 _ rfl; have en := hLn.cell kk _ (icel_get (HNL.out kk (by omega))); clear hL12 hL6 hLn; go_simp; all_goals with_reducible rfl); (try simp only [Act.put, List.setIfInBounds_toArray, List.set_cons_zero, List.set_cons_succ])) | (refine seq_leave (by rfl) ?_; (try simp only [Act.put, List.setIfInBounds_toArray, List.set_cons_zero, List.set_cons_succ])))
                    refine seq_step (by rfl) (fun K hK => ?_)
                    go_simp
                    obtain ⟨wb, hwE⟩ : ∃ W, W = wd.alloc (.cells #[.int .i64 ((posT t kk : Nat) : Int)] 3) := ⟨_, rfl⟩
                    obtain ⟨pb, hpE⟩ : ∃ q, q = wd.heap.size := ⟨_, rfl⟩
                    have hb : Below wd.heap.size wd wb := by rw [hwE]; exact (Below.refl _ _).alloc (Nat.le_refl _) _
                    have hbN : BoxL wb pb [.int .i64 ((posT t kk : Nat) : Int)] := by rw [hwE, hpE]; exact BoxL.new wd _ _
                    rw [← hwE, ← hpE]
                    clear hwE hpE
                    replace hB12 := hB12.kept hb
                    replace h6 := h6.kept hb
                    replace hn1 := hn1.kept hb
                    replace hO := hO.kept hb
                    replace hKp := hKp.then_below hb
                    clear hb
                    first | refine hK.out _ _ ⟨hB12, h6, hn1⟩ (fun _ => ?_) | (go_wp2_with fail; refine hK.out _ _ ⟨hB12, h6, hn1⟩ (fun _ => ?_))
                    clear hK K
                    (try simp only [Act.put, List.setIfInBounds_toArray, List.set_cons_zero, List.set_cons_succ])
                    refine seq_step (by rfl) (fun K hK => ?_)
                    refine step_appendKs (us := [.int .i64 ((posT t kk : Nat) : Int)]) E_intT hO rfl rfl rfl rfl (fun j u hj => by rw [Addr.add_lit, Nat.zero_add]; exact hbN.cell j u hj) (by simp [Value.oneCell']) (by omega) (by unfold maxLen; omega) hKp.size ?_
                    intro v9 w9 hO9 hg9 hn9
                    obtain ⟨ko9, kc9, rfl, -, -, -⟩ := hO9.slice
                    have hB9 : Below w3.heap.size wb w9 := ⟨hg9.os, hg9.tape, hg9.output, hg9.size, fun k hk => hg9.block k (by have := hKp.size; omega) (fun e9 => by have := (hO.lt k e9.symm).1; omega)⟩
                    rw [HTK.out] at hO9
                    replace hB12 := hB12.block (hB9.block p12 (by omega))
                    replace h6 := h6.block (hB9.block p6 (by omega))
                    replace hn1 := hn1.block (hB9.block pn (by omega))
                    replace hKp := hKp.below_to hB9
                    clear hB9 hg9 hn9 hO hbN
                    have hO := hO9
                    clear hO9
                    first | refine hK.out _ _ ⟨hB12, h6, hn1⟩ (fun _ => ?_) | (go_wp2_with fail; refine hK.out _ _ ⟨hB12, h6, hn1⟩ (fun _ => ?_))
                    clear hK K
                    (try simp only [Act.put, List.setIfInBounds_toArray, List.set_cons_zero, List.set_cons_succ])
                    repeat (first | (refine seq_take (v := ?_) (by rfl) ?_ ?_; rotate_left; (· intro w hSw; (try dsimp only at hSw); obtain ⟨hL12, hL6, hLn⟩ := hSw; have x6 := hL12.cell 6 _ rfl; have e6 := hL6.cell 0 _ rfl; have en := hLn.cell kk _ (icel_get (HNL.out kk (by omega))); clear hL12 hL6 hLn; go_simp; all_goals with_reducible rfl); (try simp only [Act.put, List.setIfInBounds_toArray, List.set_cons_zero, List.set_cons_succ])) | (refine seq_leave (by rfl) ?_; (try simp only [Act.put, List.setIfInBounds_toArray, List.set_cons_zero, List.set_cons_succ])))
                    refine seq_end ?_
                    refine tail_end rfl rfl ?_
                    have x6 := hB12.cell 6 _ rfl
                    have f6 := hB12.free 6 (by simp)
                    go_simp
                    obtain ⟨we, hwE⟩ : ∃ W, W = w9.setCell ⟨p12, 6, none⟩ (.slice ko9 (j + 1) kc9) := ⟨_, rfl⟩
                    rw [← hwE]
                    have hKE : Keep (fun k => k = p12) w9 we := by rw [hwE]; exact (Keep.refl (fun k => k = p12) w9).set p12 6 _ (.inl rfl)
                    replace hB12 : BoxL we p12 [.int .i64 x.p.op, .int .i64 x.p.fld, .slice uo x.p.vals.length uc, .slice lo x.p.kids.length lc, .string ⟨x.sc.toArray⟩, .string ⟨x.ct.toArray⟩, .slice ko9 (j + 1) kc9, .int .i64 dv] := by rw [hwE]; exact hB12.set 6 _ (by simp)
                    replace h6 := h6.keep hKE (by omega)
                    replace hn1 := hn1.keep hKE (by omega)
                    replace hO := hO.keep hKE (fun q hq e => by have := (hO.lt q hq).1; omega)
                    replace hKp := hKp.trans hKE (fun k _ h => h)
                    clear hwE hKE x6 f6
                    refine NoPan.normal ?_
                    rw [← hko]
                    go_wp2_with fail
                    go_roundg (gk - 1)
                    case measure => omega
                    case rel => exact ⟨j + 1, ko9, j + 1, kc9, by omega, by go_num, hO, hB12, hKp⟩
                  case neg =>
                    have hjj : ¬ ((j : Nat) : Int) < ((x.kids.length : Nat) : Int) := by omega
                    have hje : j = x.kids.length := by omega
                    subst hje
                    rw [List.take_of_length_le (by rw [HNK.out]; omega)] at hO
                    obtain ⟨ko1, kc1, hke, -, -, -⟩ := hO.slice
                    obtain rfl : kn = x.kids.length := by cases hke; rfl
                    clear hke hj hjl
                    have h9k := h69.keep hKp (by omega)
                    have hgk := hbg.keep hKp (by omega)
                    have hroom := HRow.out.room HSH.out (j := i) hil
                    have hpi := posT_lt HSH.out (n := i) hil
                    have hqp : (0 : Int) ≤ ((posT t i : Nat) : Int) := by omega
                    have hqpN : ((posT t i : Nat) : Int) < ((t.nodes.length : Nat) : Int) := by unfold TR.N at hpi; omega
                    have hiN : ((i : Nat) : Int) < (N : Int) := by have := HNN.out; omega
                    go_upto_region 22 with fail
                    refine wp_noPan ?_
                    refine wp_region_seq (S := fun w' => BoxL w' p12 [.int .i64 x.p.op, .int .i64 x.p.fld, .slice uo x.p.vals.length uc, .slice lo x.p.kids.length lc, .string ⟨x.sc.toArray⟩, .string ⟨x.ct.toArray⟩, .slice ko x.kids.length kc, .int .i64 dv] ∧ BoxL w' p6 [.slice (some ⟨pn, 0, none⟩) N N] ∧ BoxL w' pn (icel (numL N L)) ∧ BoxL w' p9 [.slice (some ⟨g, 0, none⟩) t.nodes.length t.nodes.length, .int .i64 t.ms, .int .i64 t.nt]) [(true, 0), (true, 1), (true, 2), (true, 3), (true, 4), (true, 5), (true, 6), (true, 7), (false, 8)] (by kernel_rfl) (by kernel_rfl) (by kernel_rfl) (by kernel_rfl) (by kernel_rfl) (fun _ _ _ _ _ h => h) ⟨hB12.drew, h6.drew, hn1.drew, h9k.drew⟩ (fun _ => ?_)
                    simp only [pickOps, List.append_eq, List.cons_append, List.nil_append, List.getElem?_toArray, List.getElem?_cons_succ, List.getElem?_cons_zero]
                    have hb : Below wr.heap.size wr wr.drew := (Below.refl _ _).drew
                    generalize wr.drew = wd at hb ⊢
                    replace hB12 := hB12.kept hb
                    replace h6 := h6.kept hb
                    replace hn1 := hn1.kept hb
                    replace h9k := h9k.kept hb
                    replace hgk := hgk.kept hb
                    replace hO := hO.kept hb
                    replace hKp := hKp.then_below hb
                    clear hb
                    repeat (first | (refine seq_take (v := ?_) (by rfl) ?_ ?_; rotate_left; (· intro w hSw; (try dsimp only at hSw); obtain ⟨hL12, hL6, hLn, hL9⟩ := hSw; have x0 := hL12.cell 0 _ rfl; have x1 := hL12.cell 1 _ rfl; have x2 := hL12.cell 2 _ rfl; have x3 := hL12.cell 3 _ rfl; have x4 := hL12.cell 4 _ rfl; have x5 := hL12.cell 5 _ rfl; have x6 := hL12.cell 6 _ rfl; have x7 := hL12.cell 7 _ rfl; have e6 := hL6.cell 0 _ rfl; have e9 := hL9.cell 0 _ rfl; have en := hLn.cell i _ (icel_get (HNL.out i hil)); clear hL12 hL6 hLn hL9; go_simp; all_goals with_reducible rfl); (try simp only [Act.put, List.setIfInBounds_toArray, List.set_cons_zero, List.set_cons_succ])) | (refine seq_leave (by rfl) ?_; (try simp only [Act.put, List.setIfInBounds_toArray, List.set_cons_zero, List.set_cons_succ])))
                    refine seq_step (by rfl) (fun K hK => ?_)
                    obtain ⟨z0, hz0⟩ : ∃ u, cs[posT t i * 8]? = some u := ⟨_, List.getElem?_eq_getElem (by omega)⟩
                    have m0 := hgk.cell _ _ hz0
                    have l0 := hgk.free (posT t i * 8) (by omega)
                    obtain ⟨z1, hz1⟩ : ∃ u, cs[posT t i * 8 + 1]? = some u := ⟨_, List.getElem?_eq_getElem (by omega)⟩
                    have m1 := hgk.cell _ _ hz1
                    have l1 := hgk.free (posT t i * 8 + 1) (by omega)
                    obtain ⟨z2, hz2⟩ : ∃ u, cs[posT t i * 8 + 2]? = some u := ⟨_, List.getElem?_eq_getElem (by omega)⟩
                    have m2 := hgk.cell _ _ hz2
                    have l2 := hgk.free (posT t i * 8 + 2) (by omega)
                    obtain ⟨z3, hz3⟩ : ∃ u, cs[posT t i * 8 + 3]? = some u := ⟨_, List.getElem?_eq_getElem (by omega)⟩
                    have m3 := hgk.cell _ _ hz3
                    have l3 := hgk.free (posT t i * 8 + 3) (by omega)
                    obtain ⟨z4, hz4⟩ : ∃ u, cs[posT t i * 8 + 4]? = some u := ⟨_, List.getElem?_eq_getElem (by omega)⟩
                    have m4 := hgk.cell _ _ hz4
                    have l4 := hgk.free (posT t i * 8 + 4) (by omega)
                    obtain ⟨z5, hz5⟩ : ∃ u, cs[posT t i * 8 + 5]? = some u := ⟨_, List.getElem?_eq_getElem (by omega)⟩
                    have m5 := hgk.cell _ _ hz5
                    have l5 := hgk.free (posT t i * 8 + 5) (by omega)
                    obtain ⟨z6, hz6⟩ : ∃ u, cs[posT t i * 8 + 6]? = some u := ⟨_, List.getElem?_eq_getElem (by omega)⟩
                    have m6 := hgk.cell _ _ hz6
                    have l6 := hgk.free (posT t i * 8 + 6) (by omega)
                    obtain ⟨z7, hz7⟩ : ∃ u, cs[posT t i * 8 + 7]? = some u := ⟨_, List.getElem?_eq_getElem (by omega)⟩
                    have m7 := hgk.cell _ _ hz7
                    have l7 := hgk.free (posT t i * 8 + 7) (by omega)
                    clear hz0 hz1 hz2 hz3 hz4 hz5 hz6 hz7
                    go_simp
                    obtain ⟨we, hwE⟩ : ∃ W, W = ((((((((wd.setCell ⟨g, posT t i * 8, none⟩ (.int .i64 x.p.op)).setCell ⟨g, posT t i * 8 + 1, none⟩ (.int .i64 x.p.fld)).setCell ⟨g, posT t i * 8 + 2, none⟩ (.slice uo x.p.vals.length uc)).setCell ⟨g, posT t i * 8 + 3, none⟩ (.slice lo x.p.kids.length lc)).setCell ⟨g, posT t i * 8 + 4, none⟩ (.string ⟨x.sc.toArray⟩)).setCell ⟨g, posT t i * 8 + 5, none⟩ (.string ⟨x.ct.toArray⟩)).setCell ⟨g, posT t i * 8 + 6, none⟩ (.slice ko x.kids.length kc)).setCell ⟨g, posT t i * 8 + 7, none⟩ (.int .i64 dv)) := ⟨_, rfl⟩
                    rw [← hwE]
                    have hG : BoxL we g (set8 cs (posT t i * 8) (.int .i64 x.p.op) (.int .i64 x.p.fld) (.slice uo x.p.vals.length uc) (.slice lo x.p.kids.length lc) (.string ⟨x.sc.toArray⟩) (.string ⟨x.ct.toArray⟩) (.slice ko x.kids.length kc) (.int .i64 dv)) := by rw [hwE]; exact hgk.set8 (.int .i64 x.p.op) (.int .i64 x.p.fld) (.slice uo x.p.vals.length uc) (.slice lo x.p.kids.length lc) (.string ⟨x.sc.toArray⟩) (.string ⟨x.ct.toArray⟩) (.slice ko x.kids.length kc) (.int .i64 dv) hroom
                    have hKE : Keep (fun k => k = g) wd we := by rw [hwE]; exact (((((((((Keep.refl (fun k => k = g) wd).set g _ _ (.inl rfl)).set g _ _ (.inl rfl)).set g _ _ (.inl rfl)).set g _ _ (.inl rfl)).set g _ _ (.inl rfl)).set g _ _ (.inl rfl)).set g _ _ (.inl rfl)).set g _ _ (.inl rfl))
                    clear hwE m0 l0 m1 l1 m2 l2 m3 l3 m4 l4 m5 l5 m6 l6 m7 l7
                    replace hB12 := hB12.keep hKE (by omega)
                    replace h6 := h6.keep hKE (by omega)
                    replace hn1 := hn1.keep hKE (by omega)
                    replace h9k := h9k.keep hKE (by omega)
                    replace hO := hO.keep hKE (fun q hq e => by have := (hO.lt q hq).1; omega)
                    have hKZ : Keep (fun k => k = p12 ∨ k = g) w3 we := (hKp.mono (fun k _ h => .inl h)).trans hKE (fun k _ h => .inr h)
                    clear hKE hKp hgk
                    first | refine hK.out _ _ ⟨hB12, h6, hn1, h9k⟩ (fun _ => ?_) | (go_wp2_with fail; refine hK.out _ _ ⟨hB12, h6, hn1, h9k⟩ (fun _ => ?_))
                    clear hK K
                    (try simp only [Act.put, List.setIfInBounds_toArray, List.set_cons_zero, List.set_cons_succ])
                    refine seq_end (NoPan.normal ?_)
                    replace hC := hC.keep hKZ (fun k hk => by rcases hk with rfl | rfl <;> omega)
                    replace HK : Hid (we.heap[D]? = some (.deferred (some []))) := Lib.hid ((hKZ.same D (Array.getElem?_eq_some_iff.1 HK.out).1 (by omega)).trans HK.out)
                    have hrow9 : OdRow t DW we.heap.size we cs i := HRow.out.go (by have := hKZ.size; omega) (fun k h1 h2 => hKZ.same k (by omega) (by omega))
                    have hndq : NdQ DW we.heap.size we (newN t x) ⟨uo, uc, lo, lc, ko, kc⟩ := by
                      obtain ⟨qa, qb, q1, q2, q3, q4⟩ := HQ.out
                      have hz := hKZ.size
                      have q5 := (q4.mid (fun k ha hb => hKZ.same k (by omega) (fun h => by rcases h with h | h; exact q3 (by omega); omega))).widen q1 (show qb ≤ we.heap.size by omega)
                      have q6 := (IntsQ.of_owns hO (by rw [HNK.out])).widen (show DW ≤ w3.heap.size by omega) (Nat.le_refl _)
                      exact ⟨q5, q6, HNI2.out.1, HNI2.out.2⟩
                    have hstep := OdRow.step HSH.out hrow9 HX.out hndq
                    rw [← HDV.out] at hstep
                    have HST : Hid (OdRow t DW we.heap.size we (set8 cs (posT t i * 8) (.int .i64 x.p.op) (.int .i64 x.p.fld) (.slice uo x.p.vals.length uc) (.slice lo x.p.kids.length lc) (.string ⟨x.sc.toArray⟩) (.string ⟨x.ct.toArray⟩) (.slice ko x.kids.length kc) (.int .i64 dv)) (i + 1)) := Lib.hid (by
                      have h9 := hstep
                      dsimp only at h9
                      rw [HNK.out] at h9
                      exact h9)
                    have hDWe : DW ≤ we.heap.size := by have := hKZ.size; omega
                    clear hstep hndq hrow9 hKZ hroom hB12 h6
                    go_wp2_with fail
                    go_roundg (go - 1)
                    case measure => omega
                    case rel => exact ⟨i + 1, _, by omega, by go_num, hC, hn1, h9k, hG, HST, HK, hDWe⟩
        case neg =>
          have hii : ¬ ((i : Nat) : Int) < ((t.nodes.length : Nat) : Int) := by omega
          have hie : i = t.N := by unfold TR.N; omega
          subst hie
          have HOL : Hid ((orderT t).nodes.length = t.nodes.length) := Lib.hid (orderT_len HSH.out)
          have e0 := h69.cell 0 _ rfl
          have e1 := h69.cell 1 _ rfl
          have e2 := h69.cell 2 _ rfl
          have k2 := hC.2.1
          have r0 := k2.cell 0 _ rfl
          have r1 := k2.cell 1 _ rfl
          have r2 := k2.cell 2 _ rfl
          have f0 := k2.free 0 (by simp)
          have f1 := k2.free 1 (by simp)
          have f2 := k2.free 2 (by simp)
          clear hi hil
          go_wp2_with fail
          gi_wp2_with fail
          obtain ⟨w7, hw7⟩ : ∃ W, W = ((wr.setCell ⟨p2, 0, none⟩ (.slice (some ⟨g, 0, none⟩) t.nodes.length t.nodes.length)).setCell ⟨p2, 1, none⟩ (.int .i64 t.ms)).setCell ⟨p2, 2, none⟩ (.int .i64 t.nt) := ⟨_, rfl⟩
          have h72 : BoxL w7 p2 [.slice (some ⟨g, 0, none⟩) t.nodes.length t.nodes.length, .int .i64 t.ms, .int .i64 t.nt] := by
            rw [hw7]
            exact ((k2.set 0 (.slice (some ⟨g, 0, none⟩) t.nodes.length t.nodes.length) (by simp)).set 1 (.int .i64 t.ms) (by simp)).set 2 (.int .i64 t.nt) (by simp)
          have hK7 : Keep (fun k => k = p2) wr w7 := by rw [hw7]; exact (((Keep.refl (fun k => k = p2) wr).set p2 0 _ (.inl rfl)).set p2 1 _ (.inl rfl)).set p2 2 _ (.inl rfl)
          have hz7 : w7.heap.size = wr.heap.size := by rw [hw7]; simp [World.setCell]
          rw [← hw7]
          have hD7 : w7.heap[D]? = some (.deferred (some [])) := (hK7.same D (Array.getElem?_eq_some_iff.1 HK.out).1 (by have := HG.out; omega)).trans HK.out
          clear e0 e1 e2 r0 r1 r2 f0 f1 f2 hw7
          refine ⟨by simp, .inl ⟨_, _, rfl, run_takeDeferred hD7, ?_⟩⟩
          obtain ⟨w8, hw8⟩ : ∃ W, W = w7.putObj D (.deferred none) := ⟨_, rfl⟩
          have hp8 : ∀ k, k ≠ D → w8.heap[k]? = w7.heap[k]? := fun k hk => by rw [hw8]; exact World.putObj_heap_other hk
          have hz8 : w8.heap.size = w7.heap.size := by rw [hw8]; simp [World.putObj]
          have hx8 : Ext D w7 w8 := by rw [hw8]; exact Ext.put (Nat.le_refl _) hD7 rfl
          rw [← hw8]
          refine ⟨_, results_t3b rfl rfl rfl (h72.block (hp8 p2 (by have := HG.out; omega))), ?_⟩
          have hb7 : Below w.heap.size w w7 := hC.2.2.2.2.1.trans (hK7.below (fun k hk => by have := HG.out; omega) hC.2.2.2.2.1.size)
          refine ⟨below_extT hb7 hx8 (by have := HG.out; omega) hb7.size, .inr ⟨HSH.out, some ⟨g, 0, none⟩, t.N, ?_, ?_⟩⟩
          · rw [HOL.out]; rfl
          · have hm : Mid DW wr.heap.size wr w8 := fun k h1 h2 => (hp8 k (by have := HG.out; omega)).trans (hK7.same k h2 (by have := HG.out; omega))
            have hg8 : BoxL w8 g cs := (hbg.keep hK7 (by have := HG.out; omega)).block (hp8 g (by have := HG.out; omega))
            exact OdRow.done HSH.out (HRow.out.go (by omega) hm) hg8 hg8.lt (by unfold TR.N maxLen; omega)
    case stop =>
      rintro D c pre S W hD hp hI hK
      exact hI.elim
    · rintro pre S W W' ⟨hI, hC, hsW⟩ ho
      exact ⟨hI.oth ho, hC.oth ho (by omega) (by omega) (by omega), Nat.le_trans hsW ho.size⟩
    · rintro c pre S W W' hI ho
      exact hI
    · rintro k hk
      have hk9 : k = pn ∨ k = p7 := hk
      exact ⟨fun hr => by rcases hr with hr | hr <;> omega, by omega⟩
    · exact ⟨⟨rfl, hbn, hb7⟩, ⟨hb1, hb2, hb6, HTS, hbf, by omega⟩, Nat.le_refl _⟩
    · rintro x9 a' W W' rfl hx
      rfl
end Go.Proofs.YtlmjkbdodecbmaaGreatDoor
