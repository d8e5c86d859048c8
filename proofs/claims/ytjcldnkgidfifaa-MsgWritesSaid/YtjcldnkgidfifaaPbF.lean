/-
  pbuf: walks (6): Each, Fields.
-/
import Derived.Test.YtjcldnkgidfifaaPbE
import Derived.Test.YtjcldnkgidfifaaHeapO
namespace Go.Proofs.Ytjcldnkgidfifaa
open Go.RowKit Go.Shelf
set_option linter.unusedVariables false
set_option linter.unusedSimpArgs false
attribute [local go_sem] Oper.semAt_some

theorem each_any (b : List UInt8) (w : World) : Calls Try.prog 50 #[.string ⟨b.toArray⟩] w fun e w' => e = .returned (.func (.func 55) #[] #[.pointer (some ⟨w.heap.size, 0, none⟩)]) ∧ w' = w.alloc (.cells #[.string ⟨b.toArray⟩] 9) := by
  go_enter Try.func50, Try.ntmps50
  go_wp2_with fail
  go_ret
  exact ⟨rfl, rfl⟩
theorem enters_each1 : ∀ args w, (callFunc 55 args).run Try.prog w = .ok (.enter 55 args) w := enters_of Try.func55 (by kernel_rfl) rfl
theorem Try.info77 : (Try.prog.info? 77).map (fun i => (i.zero, i.size, i.bytes)) = some (some (.agg #[.int .i64 0, .int .i64 0, .int .i64 0, .int .u64 0, .string ⟨#[]⟩]), 5, 48) := by kernel_rfl
theorem E5 : ElemK Try.prog 83 77 (.agg #[.int .i64 0, .int .i64 0, .int .i64 0, .int .u64 0, .string ⟨#[]⟩]) 5 48 := elemK_of Try.underlying83 Try.info77 rfl (by decide)
def fcells (f : Fld) : List Value := [.int .i64 (f.num : Int), .int .i64 (f.kind : Int), .int .i64 (f.place : Int), .int .u64 (f.val : Int), .string ⟨f.data.toArray⟩]
def frow (fs : List Fld) : List Value := fs.flatMap fcells
theorem frow_snoc (fs : List Fld) (f : Fld) : frow (fs ++ [f]) = frow fs ++ fcells f := by simp [frow]
def badI (xs : List Itm) : Option Itm := xs.find? (fun x => x.code != 0)
theorem badI_none {xs : List Itm} (h : ∀ y ∈ xs, y.code = 0) : badI xs = none := by
  unfold badI; rw [List.find?_eq_none]; intro x hx; simp [h x hx]
theorem badI_some {pre rest : List Itm} {x : Itm} (h : ∀ y ∈ pre, y.code = 0) (hx : x.code ≠ 0) : badI (pre ++ [x] ++ rest) = some x := by
  unfold badI
  rw [List.find?_append, List.find?_append, show List.find? (fun x : Itm => x.code != 0) pre = none from badI_none h]
  simp [hx]
theorem below_ext {B D : Nat} {w W W' : World} (h : Below B w W) (hx : Ext D W W') (hD : B ≤ D) (hBw : B ≤ W.heap.size) : Below B w W' :=
  h.trans ⟨hx.os, hx.tape, hx.output, hx.size, fun k hk => hx.low k (by omega) (by omega)⟩
theorem grown_footP {W w1 : World} {bx : Nat} {v v' : Value} (hg : W.grownBy w1 v.ownBlock) (hlt : bx < W.heap.size) (ho : ∀ g, v'.ownBlock = some g → v.ownBlock = some g ∨ W.heap.size ≤ g) (u : Value) :
    Foot (fun k => k = bx ∨ v.ownBlock = some k) (fun k => k = bx ∨ v'.ownBlock = some k) W (w1.setCell ⟨bx, 0, none⟩ u) where
  os := hg.os
  tape := hg.tape
  output := hg.output
  size := by simpa using hg.size
  same k hk hs := by
    have h1 : k ≠ bx := fun e => hs (.inl e)
    have h2 : ¬ (some k = v.ownBlock) := fun e => hs (.inr e.symm)
    have := (grownBy_set (grownBy_refl w1 (some bx)) 0 u).block k (Nat.lt_of_lt_of_le hk hg.size) (by simpa using h1)
    exact this.trans (hg.block k hk h2)
  fresh k h := by
    rcases h with h | h
    · exact .inl (.inl h)
    · rcases ho k h with h1 | h1
      · exact .inl (.inr h1)
      · exact .inr h1
theorem ext_deferredP {W : World} {D : Nat} (hD : W.heap[D]? = some (.deferred (some []))) : Ext D W (W.putObj D (.deferred none)) := Ext.put (Nat.le_refl _) hD rfl
theorem Foot.setC {S : Nat → Prop} {W W' : World} (h : Foot S S W W') (g j : Nat) (u : Value) (hg : S g) : Foot S S W (W'.setCell ⟨g, j, none⟩ u) := by
  have hs := grownBy_set (grownBy_refl W' (some g)) j u
  exact h.trans ⟨hs.os, hs.tape, hs.output, hs.size, fun k hk hs2 => hs.block k hk (fun e => by cases e; exact hs2 hg), fun _ h => .inl h⟩
/-- What is told of all fields of bytes. -/
def FldsPost (w : World) (b : List UInt8) (e : Ending) (w' : World) : Prop :=
  ((badI (itemsF b) = none ∧ ∃ v, e = .returned (.tuple #[v, diagV 0 0 []]) ∧ OwnsK 5 w.heap.size 77 w' v (itemsF b).length (frow ((itemsF b).map (·.f)))) ∨
  (∃ x, badI (itemsF b) = some x ∧ x.code ≠ 0 ∧ e = .returned (.tuple #[.slice none 0 0, diagV x.code x.place x.what]))) ∧ Below w.heap.size w w'
set_option maxRecDepth 100000 in
set_option maxHeartbeats 4000000 in
theorem fields_any (b : List UInt8) (w : World) (hbl : b.length ≤ 1000000000000) (hil : (itemsF b).length ≤ 1000000000000) :
    Calls Try.prog 40 #[.string ⟨b.toArray⟩] w (FldsPost w b) := by
  refine (callsIn_wide (n := 0)).1 ?_
  refine callsIn_of_wp_marks Try.func40 rfl (by trivial) ?_ rfl
  simp only [Try.ntmps40, List.size_toArray, List.length_cons, List.length_nil, Nat.reduceAdd, Nat.reduceSub, Array.replicate_succ, Array.replicate_zero, List.push_toArray, List.append_toArray, List.nil_append, List.cons_append]
  gi_wp2_with fail
  refine ⟨trivial, rfl, callsIn_wide.2 ((each_any b _).mono ?_)⟩
  rintro e w1 ⟨rfl, rfl⟩
  obtain ⟨w0, hw0⟩ : ∃ w0, w0 = ((((w.alloc (.cells #[.slice none 0 0] 83)).alloc (.cells #[.int .i64 0, .int .i64 0, .string ⟨#[]⟩] 54)).alloc (.cells #[.slice none 0 0] 83)).alloc (.cells #[.string ⟨b.toArray⟩] 9)) := ⟨_, rfl⟩
  have hbel : Below w.heap.size w w0 := by
    rw [hw0]; exact ((((Below.refl _ w).alloc (Nat.le_refl _) _).alloc (by simp <;> omega) _).alloc (by simp <;> omega) _).alloc (by simp <;> omega) _
  have hsz0 : w0.heap.size = w.heap.size + 4 := by rw [hw0]; simp
  obtain ⟨p1, hp1⟩ : ∃ p, p = w.heap.size := ⟨_, rfl⟩
  obtain ⟨p2, hp2⟩ : ∃ p, p = w.heap.size + 1 := ⟨_, rfl⟩
  obtain ⟨po, hpo⟩ : ∃ p, p = w.heap.size + 1 + 1 := ⟨_, rfl⟩
  obtain ⟨px, hpx⟩ : ∃ p, p = w.heap.size + 1 + 1 + 1 := ⟨_, rfl⟩
  have hr1 : BoxL w0 p1 [.slice none 0 0] := by rw [hw0, hp1]; exact BoxL.of1 (by go_simp) (by go_simp)
  have hr2 : BoxL w0 p2 [.int .i64 0, .int .i64 0, .string ⟨#[]⟩] := by rw [hw0, hp2]; exact BoxL.of3 (by go_simp) (by go_simp) (by go_simp) (by go_simp) (by go_simp) (by go_simp)
  have hbo : BoxL w0 po [.slice none 0 0] := by rw [hw0, hpo]; exact BoxL.of1 (by go_simp) (by go_simp)
  have hbx : w0.cell? ⟨px, 0, none⟩ = some (.string ⟨b.toArray⟩) := by rw [hw0, hpx]; go_simp
  have hit := each1_iter b px w.heap.size w0 hbx hbl (by omega)
  have HW := Lib.hid hw0
  clear hw0
  gi_wp2_with fail
  rw [← HW.out]
  rw [← hpx, ← hpo, ← hp2, ← hp1]
  clear HW
  have HQ : w.heap.size ≤ p1 ∧ p1 < p2 ∧ p2 < po ∧ po < px ∧ px < w0.heap.size := by omega
  clear hp1 hp2 hpo hpx hsz0
  obtain ⟨q1, q2, q3, q4, q5⟩ := HQ
  refine wp_rangeA (gf := 55) (lb := #[.pointer (some ⟨px, 0, none⟩)]) rfl enters_each1 hit (fun A C D => KeepC.trans) (fun A C => KeepC.ext) (fun W v x h => by rw [h]; rfl) (by omega)
    (fun pre S W => ∃ v, (S = fun k => (k = po ∨ v.ownBlock = some k) ∨ (k = p1 ∨ k = p2)) ∧ (∀ y ∈ pre, y.code = 0) ∧ BoxL W p1 [.slice none 0 0] ∧ BoxL W p2 [.int .i64 0, .int .i64 0, .string ⟨#[]⟩] ∧ BoxL W po [v] ∧ OwnsK 5 w0.heap.size 77 W v pre.length (frow (pre.map (·.f))) ∧ Below w.heap.size w W ∧ w0.heap.size ≤ W.heap.size)
    (fun c pre S W => c = .ret ∧ ∃ pre0 x, pre = pre0 ++ [x] ∧ (∀ y ∈ pre0, y.code = 0) ∧ x.code ≠ 0 ∧ BoxL W p1 [.slice none 0 0] ∧ BoxL W p2 [.int .i64 (x.code : Int), .int .i64 (x.place : Int), .string ⟨x.what.toArray⟩] ∧ Below w.heap.size w W)
    ?_ ?_ (fun k => k = po ∨ (k = p1 ∨ k = p2)) (fun k hk => ⟨by omega, by omega⟩) ?_
    (fun x a' W => ∃ b5 b6, po < b5 ∧ po < b6 ∧ BoxL W b5 (fcells x.f) ∧ BoxL W b6 [.int .i64 (x.code : Int), .int .i64 (x.place : Int), .string ⟨x.what.toArray⟩] ∧ a' = { tmps := #[.string ⟨b.toArray⟩, undef, .pointer (some ⟨p1, 0, none⟩), .pointer (some ⟨p2, 0, none⟩), .pointer (some ⟨po, 0, none⟩), .pointer (some ⟨b5, 0, none⟩), .pointer (some ⟨b6, 0, none⟩), .string ⟨b.toArray⟩, .func (.func 55) #[] #[.pointer (some ⟨px, 0, none⟩)], fldC x.f, diagV x.code x.place x.what, undef, undef, undef, undef, undef, undef, undef, undef, undef, undef], defers := [] })
    ?_ ?assign ?body ?done ?stop
  case assign =>
    rintro l pre x v S W K hi hnv hpre hK
    obtain rfl : v = itmV x := hnv
    unfold itmV
    gi_wp2
    have hb : Below W.heap.size W ((W.alloc (.cells #[.int .i64 (x.f.num : Int), .int .i64 (x.f.kind : Int), .int .i64 (x.f.place : Int), .int .u64 (x.f.val : Int), .string ⟨x.f.data.toArray⟩] 77)).alloc (.cells #[.int .i64 (x.code : Int), .int .i64 (x.place : Int), .string ⟨x.what.toArray⟩] 54)) :=
      ((Below.refl _ W).alloc (Nat.le_refl _) _).alloc (by simp <;> omega) _
    refine hK _ _ hb ?_ ⟨W.heap.size, W.heap.size + 1, ?_, ?_, BoxL.of5 (by go_simp) (by go_simp) (by go_simp) (by go_simp) (by go_simp) (by go_simp) (by go_simp) (by go_simp) (by go_simp) (by go_simp), BoxL.of3 (by go_simp) (by go_simp) (by go_simp) (by go_simp) (by go_simp) (by go_simp), rfl⟩
    · obtain ⟨v', rfl, h0, hB1, hB2, hBo, hO, hB, hsz⟩ := hi
      exact ⟨v', rfl, h0, hB1.kept hb, hB2.kept hb, hBo.kept hb, hO.kept hb, hB.trans (hb.mono hB.size), Nat.le_trans hsz hb.size⟩
    · obtain ⟨v', rfl, h0, hB1, hB2, hBo, hO, hB, hsz⟩ := hi
      exact hBo.lt
    · obtain ⟨v', rfl, h0, hB1, hB2, hBo, hO, hB, hsz⟩ := hi
      have := hBo.lt; omega
  case body =>
    rintro l pre x a' S W ⟨v, rfl, h0, hB1, hB2, hBo, hO, hB, hsz⟩ ⟨b5, b6, hq5, hq6, hB5, hB6, rfl⟩ hpre hS
    obtain ⟨ao, cap, rfl, hcap, hcapm, hnil⟩ := hO.slice
    have e50 := hB5.cell 0 _ rfl
    have e51 := hB5.cell 1 _ rfl
    have e52 := hB5.cell 2 _ rfl
    have e53 := hB5.cell 3 _ rfl
    have e54 := hB5.cell 4 _ rfl
    have e60 := hB6.cell 0 _ rfl
    have e61 := hB6.cell 1 _ rfl
    have e62 := hB6.cell 2 _ rfl
    have eo := hBo.cell 0 _ rfl
    have fo := hBo.free 0 (by simp)
    by_cases hx0 : x.code = 0
    · have hc0 : ((x.code : Nat) : Int) = 0 := by omega
      have hpl := hpre.length_le
      rw [List.length_append, List.length_singleton] at hpl
      gi_wp2_with (gi_at_builtin; refine append1KIn E5 hO rfl rfl rfl rfl rfl (by simp [Value.oneCell']) (by omega) (by unfold maxLen; omega) (by omega) ?_; intro v' w2 hO1 hb1 hg1 ho1; obtain ⟨ao', cap', rfl, hcap', hcapm', hnil'⟩ := hO1.slice; have hBo1 := hBo.below hb1 (by omega); have eo1 := hBo1.cell 0 _ rfl; have fo1 := hBo1.free 0 (by simp))
      have hft := (grown_footP hg1 hBo.lt ho1 (.slice ao' (pre.length + 1) cap')).wide (T := fun k => k = p1 ∨ k = p2)
      have hfin : Below w.heap.size w (w2.setCell ⟨po, 0, none⟩ (.slice ao' (pre.length + 1) cap')) := (hB.trans (hb1.mono (by omega))).setCell (p := ⟨po, 0, none⟩) (by show w.heap.size ≤ po; omega) _
      have hO2 := hO1.block (w' := w2.setCell ⟨po, 0, none⟩ (.slice ao' (pre.length + 1) cap')) (fun g hg => (grownBy_set (grownBy_refl w2 (some po)) 0 _).block g (hO1.lt g hg).2 (by have := (hO1.lt g hg).1; simp; omega))
      refine ⟨_, ⟨_, rfl, ?_, (hB1.below hb1 (by omega)).setOther (by omega) 0 _, (hB2.below hb1 (by omega)).setOther (by omega) 0 _, hBo1.set 0 _ (by simp), ?_, hfin, ?_⟩, hft, ?_, ?_⟩
      · intro y hy
        rcases List.mem_append.1 hy with h | h
        · exact h0 y h
        · simp at h; subst h; exact hx0
      · rw [List.length_append, List.length_singleton, List.map_append, List.map_singleton, frow_snoc]; exact hO2
      · have := hb1.size; simp [World.setCell]; omega
      · intro k hk
        have hsz2 := hb1.size
        rcases hk with (rfl | hk) | (rfl | rfl)
        · simp [World.setCell]; omega
        rotate_left
        · simp [World.setCell]; omega
        · simp [World.setCell]; omega
        · have := (hO1.lt k hk).2; simpa [World.setCell] using this
      · intro u hu
        have hlp : px < W.heap.size := by omega
        have h9 : (w2.setCell ⟨po, 0, none⟩ (.slice ao' (pre.length + 1) cap')).heap[px]? = W.heap[px]? := ((grownBy_set (grownBy_refl w2 (some po)) 0 _).block px (by have := hb1.size; omega) (by simp; omega)).trans (hb1.block px (by omega))
        exact (World.cell?_of_block (a := ⟨px, 0, none⟩) h9).trans hu
    · have hc0 : (((x.code : Nat) : Int) == 0) = false := by rw [beq_eq_false_iff_ne]; omega
      have e10 := hB1.cell 0 _ rfl
      have f10 := hB1.free 0 (by simp)
      have e20 := hB2.cell 0 _ rfl
      have f20 := hB2.free 0 (by simp)
      have e21 := hB2.cell 1 _ rfl
      have f21 := hB2.free 1 (by simp)
      have e22 := hB2.cell 2 _ rfl
      have f22 := hB2.free 2 (by simp)
      have hne12 : p1 ≠ p2 := by omega
      have hne21 : p2 ≠ p1 := by omega
      gi_wp2_with fail
      gi_region
      all_goals
        gi_wp2_with fail
        refine ⟨fun _ => False, ⟨rfl, pre, x, rfl, h0, hx0, ?_, ?_, ?_⟩, ?_⟩
        · exact ((((hB1.set 0 _ (by simp)).setOther hne12 0 _).setOther hne12 1 _).setOther hne12 2 _).drew
        · exact ((((hB2.setOther hne21 0 _).set 0 _ (by simp)).set 1 _ (by simp)).set 2 _ (by simp)).drew
        · exact ((((hB.setCell (p := ⟨p1, 0, none⟩) (by show w.heap.size ≤ p1; omega) _).setCell (p := ⟨p2, 0, none⟩) (by show w.heap.size ≤ p2; omega) _).setCell (p := ⟨p2, 1, none⟩) (by show w.heap.size ≤ p2; omega) _).setCell (p := ⟨p2, 2, none⟩) (by show w.heap.size ≤ p2; omega) _).drew
        · exact ((((((Foot.refl _ W).setC p1 0 _ (.inr (.inl rfl))).setC p2 0 _ (.inr (.inr rfl))).setC p2 1 _ (.inr (.inr rfl))).setC p2 2 _ (.inr (.inr rfl))).trans (Foot.of_below (Below.refl _ _).drew)).mono (fun k h => h.elim)
  case done =>
    rintro D S W hD ⟨v, rfl, h0, hB1, hB2, hBo, hO, hB, hsz⟩ hK
    obtain ⟨ao, cap, rfl, hcap, hcapm, hnil⟩ := hO.slice
    have eo := hBo.cell 0 _ rfl
    have e10 := hB1.cell 0 _ rfl
    have f10 := hB1.free 0 (by simp)
    have e20 := hB2.cell 0 _ rfl
    have f20 := hB2.free 0 (by simp)
    have e21 := hB2.cell 1 _ rfl
    have f21 := hB2.free 1 (by simp)
    have e22 := hB2.cell 2 _ rfl
    have f22 := hB2.free 2 (by simp)
    have hne12 : p1 ≠ p2 := by omega
    have hne21 : p2 ≠ p1 := by omega
    gi_wp2_with fail
    obtain ⟨W3, hw3⟩ : ∃ W3, W3 = ((((W.setCell ⟨p1, 0, none⟩ (.slice ao (itemsF b).length cap)).setCell ⟨p2, 0, none⟩ (.int .i64 0)).setCell ⟨p2, 1, none⟩ (.int .i64 0)).setCell ⟨p2, 2, none⟩ (.string ⟨#[]⟩)) := ⟨_, rfl⟩
    rw [← hw3]
    have hR1 : BoxL W3 p1 [.slice ao (itemsF b).length cap] := by rw [hw3]; exact (((hB1.set 0 _ (by simp)).setOther hne12 0 _).setOther hne12 1 _).setOther hne12 2 _
    have hR2 : BoxL W3 p2 [.int .i64 0, .int .i64 0, .string ⟨#[]⟩] := by rw [hw3]; exact (((hB2.setOther hne21 0 _).set 0 _ (by simp)).set 1 _ (by simp)).set 2 _ (by simp)
    have hB3 : Below w.heap.size w W3 := by rw [hw3]; exact (((hB.setCell (p := ⟨p1, 0, none⟩) (by show w.heap.size ≤ p1; omega) _).setCell (p := ⟨p2, 0, none⟩) (by show w.heap.size ≤ p2; omega) _).setCell (p := ⟨p2, 1, none⟩) (by show w.heap.size ≤ p2; omega) _).setCell (p := ⟨p2, 2, none⟩) (by show w.heap.size ≤ p2; omega) _
    have hkeep : ∀ k, p2 < k → W3.heap[k]? = W.heap[k]? := fun k hk => by rw [hw3]; exact (((Below.heap_setCell _ _ _ _ (by show k ≠ p2; omega)).trans (Below.heap_setCell _ _ _ _ (by show k ≠ p2; omega))).trans (Below.heap_setCell _ _ _ _ (by show k ≠ p2; omega))).trans (Below.heap_setCell _ _ _ _ (by show k ≠ p1; omega))
    have hO3 := (hO.block (w' := W3) (fun g hg => hkeep g (by have := (hO.lt g hg).1; omega))).mono (base' := w.heap.size) (by have := hbel.size; omega)
    have hK3 := (hkeep D (by omega)).trans hK
    clear hw3 eo e10 f10 e20 f20 e21 f21 e22 f22
    have hx := ext_deferredP hK3
    have h1 := (hR1.ext hx (by simp)).cell 0 _ rfl
    have h20 := (hR2.ext hx (by simp)).cell 0 _ rfl
    have h21 := (hR2.ext hx (by simp)).cell 1 _ rfl
    have h22 := (hR2.ext hx (by simp)).cell 2 _ rfl
    refine ⟨by simp, .inl ⟨_, _, rfl, run_takeDeferred hK3, ?_⟩⟩
    refine ⟨.tuple #[.slice ao (itemsF b).length cap, diagV 0 0 []], ?_, ?_⟩
    · simp [results, Try.results40, go_sem, h1, h20, h21, h22]
    · exact ⟨.inl ⟨badI_none h0, _, rfl, hO3.ext hx⟩, below_ext hB3 hx (by have := hbel.size; omega) hB3.size⟩
  case stop =>
    rintro D c pre S W hD hp ⟨rfl, pre0, x, rfl, h0, hx0, hB1, hB2, hB⟩ hK
    have hx := ext_deferredP hK
    have h1 := (hB1.ext hx (by simp)).cell 0 _ rfl
    have h20 := (hB2.ext hx (by simp)).cell 0 _ rfl
    have h21 := (hB2.ext hx (by simp)).cell 1 _ rfl
    have h22 := (hB2.ext hx (by simp)).cell 2 _ rfl
    gi_wp2_with fail
    refine ⟨by simp, .inl ⟨_, _, rfl, run_takeDeferred hK, ?_⟩⟩
    refine ⟨.tuple #[.slice none 0 0, diagV x.code x.place x.what], ?_, ?_⟩
    · simp [results, Try.results40, go_sem, h1, h20, h21, h22]
    · obtain ⟨rest, hrest⟩ := hp
      exact ⟨.inr ⟨x, by rw [← hrest]; exact badI_some h0 hx0, hx0, rfl⟩, below_ext hB hx (by have := hbel.size; omega) hB.size⟩
  · rintro pre S W W' ⟨v, rfl, h0, hB1, hB2, hBo, hO, hB, hsz⟩ hx
    exact ⟨v, rfl, h0, hB1.ext hx (by simp), hB2.ext hx (by simp), hBo.ext hx (by simp), hO.ext hx, below_ext hB hx (by omega) hB.size, Nat.le_trans hsz hx.size⟩
  · rintro c pre S W W' ⟨rfl, pre0, x, rfl, h0, hx0, hB1, hB2, hB⟩ hx
    exact ⟨rfl, pre0, x, rfl, h0, hx0, hB1.ext hx (by simp), hB2.ext hx (by simp), below_ext hB hx (by omega) hB.size⟩
  · exact ⟨.slice none 0 0, by funext k; simp [Value.ownBlock], by simp, hr1, hr2, hbo, OwnsK.nil _ _ _ _, hbel, Nat.le_refl _⟩
  · rintro x a' W W' ⟨b5, b6, hq5, hq6, hB5, hB6, rfl⟩ hx
    exact ⟨b5, b6, hq5, hq6, hB5.ext hx (by simp [fcells]), hB6.ext hx (by simp), rfl⟩
end Go.Proofs.Ytjcldnkgidfifaa
