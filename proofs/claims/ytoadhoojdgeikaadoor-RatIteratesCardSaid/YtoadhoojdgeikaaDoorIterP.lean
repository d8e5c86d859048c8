/-
  rat: pick, Least, Most over an iterator that counts in an old cell.
-/
import Derived.Test.YtoadhoojdgeikaaDoorIterR
import Derived.Test.YtoadhoojdgeikaaDoorSeqI
import Derived.Test.YtoadhoojdgeikaaDoorSeqB
import Derived.Test.YtoadhoojdgeikaaDoorRatL
namespace Go.Proofs.YtoadhoojdgeikaaDoor
open Go.RowKit Go.Shelf
set_option linter.unusedVariables false
set_option linter.unusedSimpArgs false
attribute [local go_sem] Oper.semAt_some field_nat

/-- The one that compares so with all ahead of it. -/
def pkStep (way : Int) (s : Rat × Bool) (x : Rat) : Rat × Bool := if (!s.2 || qcmp x s.1 == way) = true then (x, true) else s
def pkL (way : Int) (l : List Rat) : Rat × Bool := l.foldl (pkStep way) (0, false)
theorem pkL_snoc (way : Int) (l : List Rat) (x : Rat) : pkL way (l ++ [x]) = pkStep way (pkL way l) x := by unfold pkL; rw [List.foldl_append]; rfl
theorem Box.extX {pn B : Nat} {A C : World} {b : Nat} {v : Value} (hx : Box A b v) (h : ExtX pn B A C) (hne : b ≠ pn) : Box C b v :=
  ⟨h.cell hx.cell hne, (World.frozen?_of_block (h.block hx.cell hne)).trans hx.free, Nat.lt_of_lt_of_le hx.lt h.size⟩
theorem BelowX.setCell {pn B : Nat} {w W : World} {b : Nat} (u : Value) (h : BelowX pn B w W) (hb : B ≤ b) (hne : b ≠ pn) : BelowX pn B w (W.setCell ⟨b, 0, none⟩ u) :=
  ⟨h.os, h.tape, h.output, Nat.le_trans h.size (by simp [World.setCell]), fun k hk hn => (Below.heap_setCell _ _ _ _ (fun e => by have e : k = b := e; omega)).trans (h.block k hk hn), fun hn => by
    obtain ⟨n, t, h9⟩ := h.own hn
    exact ⟨n, t, (Below.heap_setCell _ _ _ _ (fun e => hne (by have e : pn = b := e; exact e.symm))).trans h9⟩⟩
theorem Foot.set1 {S : Nat → Prop} {W : World} {b : Nat} (u : Value) (hp : S b) : Foot S S W (W.setCell ⟨b, 0, none⟩ u) :=
  ⟨rfl, rfl, rfl, by simp [World.setCell], fun k hk hs => Below.heap_setCell _ _ _ _ (fun e => hs (by have e : k = b := e; rw [e]; exact hp)), fun _ h => .inl h⟩
theorem QIs.setB {W : World} {b : Nat} {v : Value} {q : Rat} {x : Bool} (h : QIs W v q) (hb : Box W b (.bool x)) (u : Value) : QIs (W.setCell ⟨b, 0, none⟩ u) v q := by
  obtain ⟨a, b1, c, d, e, f, rfl, h1, h2⟩ := h
  exact ⟨a, b1, c, d, e, f, rfl, h1.set _ _ (fun n e9 => by rw [hb.cell] at e9; cases e9), h2.set _ _ (fun n e9 => by rw [hb.cell] at e9; cases e9)⟩

theorem pkL_qb {way : Int} {qs pre : List Rat} (hx : ∀ q ∈ qs, QB q 700) (hp : pre <+: qs) : QB (pkL way pre).1 700 := by
  have key : ∀ (l : List Rat) (s : Rat × Bool), QB s.1 700 → (∀ q ∈ l, QB q 700) → QB (l.foldl (pkStep way) s).1 700 := by
    intro l
    induction l with
    | nil => intro s h _; exact h
    | cons a l ih =>
      intro s h ha
      refine ih _ ?_ (fun q hq => ha q (List.mem_cons_of_mem _ hq))
      unfold pkStep
      split
      · exact ha a (by simp)
      · exact h
  exact key pre _ (QB.zero _ (by decide)) (fun q hq => hx q (hp.subset hq))

set_option maxRecDepth 100000 in
set_option maxHeartbeats 4000000 in
/-- pick. -/
theorem pick_any (gf : Nat) (lb : Array Value) (qs : List Rat) (way : Int) (pn : Nat) (c0 : Int) (w : World) (hit : IterX pn c0 Tryd.prog gf lb QIs qs w.heap.size (KpX pn) w) (eg : ∀ args w, (callFunc gf args).run Tryd.prog w = .ok (.enter gf args) w)
    (en : ∀ w, (binOp .eql 44 (.func (.func gf) #[] lb) .nilFunc).run Tryd.prog w = .ok (.bool false) w)
    (hx : ∀ q ∈ qs, QB q 700) (hpn : pn < w.heap.size) (hc0 : w.cell? ⟨pn, 0, none⟩ = some (.int .i64 c0)) (hn0 : IntAt w pn) :
    Calls Tryd.prog 36 #[.func (.func gf) #[] lb, .int .i64 way] w fun e w' => ∃ r, e = .returned (.tuple #[r, .bool (pkL way qs).2]) ∧ QIs w' r (pkL way qs).1 ∧ BelowX pn w.heap.size w w' ∧ w'.cell? ⟨pn, 0, none⟩ = some (.int .i64 (c0 + (qs.length : Int))) := by
  refine (callsIn_wide (n := 0)).1 ?_
  refine callsIn_of_wp_marks Tryd.func36 rfl (by trivial) ?_ rfl
  simp only [Tryd.ntmps36, List.size_toArray, List.length_cons, List.length_nil, Nat.reduceAdd, Nat.reduceSub, Array.replicate_succ, Array.replicate_zero, List.push_toArray, List.append_toArray, List.nil_append, List.cons_append]
  gi_wp2_with fail
  obtain ⟨w0, hw0⟩ : ∃ w0, w0 = (((w.alloc (.cells #[.int .i64 way] 3)).alloc (.cells #[.bool false, .slice none 0 0, .slice none 0 0] 35)).alloc (.cells #[.bool false, .slice none 0 0, .slice none 0 0] 35)).alloc (.cells #[.bool false] 4) := ⟨_, rfl⟩
  have hbel : Below w.heap.size w w0 := by
    rw [hw0]; exact ((((Below.refl _ w).alloc (Nat.le_refl _) _).alloc (by simp <;> omega) _).alloc (by simp <;> omega) _).alloc (by simp <;> omega) _
  have hsz0 : w0.heap.size = w.heap.size + 4 := by rw [hw0]; simp
  have hby : Box w0 w.heap.size (.int .i64 way) := by rw [hw0]; exact ⟨by go_simp, by go_simp, by simp <;> omega⟩
  have hbq : Box3 w0 (w.heap.size + 1) (.bool false) (.slice none 0 0) (.slice none 0 0) := by rw [hw0]; exact ⟨by go_simp, by go_simp, by go_simp, by go_simp, by go_simp, by go_simp⟩
  have hbo : Box3 w0 (w.heap.size + 1 + 1) (.bool false) (.slice none 0 0) (.slice none 0 0) := by rw [hw0]; exact ⟨by go_simp, by go_simp, by go_simp, by go_simp, by go_simp, by go_simp⟩
  have hbf0 : Box w0 (w.heap.size + 1 + 1 + 1) (.bool false) := by rw [hw0]; exact ⟨by go_simp, by go_simp, by simp <;> omega⟩
  rw [← hw0]
  clear hw0
  obtain ⟨py, hpy⟩ : ∃ p, p = w.heap.size := ⟨_, rfl⟩
  obtain ⟨pq, hpq⟩ : ∃ p, p = w.heap.size + 1 := ⟨_, rfl⟩
  obtain ⟨po, hpo⟩ : ∃ p, p = w.heap.size + 1 + 1 := ⟨_, rfl⟩
  obtain ⟨pg, hpg⟩ : ∃ p, p = w.heap.size + 1 + 1 + 1 := ⟨_, rfl⟩
  rw [← hpg, ← hpo, ← hpq, ← hpy]
  rw [← hpq] at hbq
  rw [← hpo] at hbo
  rw [← hpg] at hbf0
  rw [← hpy] at hby
  have hle1 : w.heap.size ≤ py := by omega
  have hle2 : py < pq := by omega
  have hle3 : pq < po := by omega
  have hle4 : po < pg := by omega
  have hle5 : pg < w0.heap.size := by omega
  clear hpy hpq hpo hpg
  have hn9 := (BelowX.of (pn := pn) hbel).own hn0
  refine wp_rangeX (gf := gf) (lb := lb) (pn := pn) (c0 := c0) rfl eg (hit.mono hbel) (fun A C D => KpX.trans) (fun A C => KpX.ext) rfl (by omega) hpn ((hbel.cell (p := ⟨pn, 0, none⟩) (by show pn < _; omega)).trans hc0) hn9
    (fun pre S W => ∃ (oB : Bool) (oxO : Option Addr) (oxL oxC : Nat) (oyO : Option Addr) (oyL oyC : Nat), (S = fun k => k = po ∨ k = pg) ∧ Box W py (.int .i64 way) ∧ Box3 W pq (.bool false) (.slice none 0 0) (.slice none 0 0) ∧ Box3 W po (.bool oB) (.slice oxO oxL oxC) (.slice oyO oyL oyC) ∧ Box W pg (.bool (pkL way pre).2) ∧ QIs W (.agg #[.bool oB, .slice oxO oxL oxC, .slice oyO oyL oyC]) (pkL way pre).1 ∧ BelowX pn w.heap.size w W ∧ IntAt W pn)
    (fun c pre S W => False)
    ?_ ?_ (fun k => k = po ∨ k = pg) (fun k hk => ⟨by omega, by omega⟩) ?_
    (fun x a' W => ∃ (pr : Nat) (rB : Bool) (rxO : Option Addr) (rxL rxC : Nat) (ryO : Option Addr) (ryL ryC : Nat), Box3 W pr (.bool rB) (.slice rxO rxL rxC) (.slice ryO ryL ryC) ∧ QIs W (.agg #[.bool rB, .slice rxO rxL rxC, .slice ryO ryL ryC]) x ∧ pr ≠ pn ∧ pr ≠ po ∧ pr ≠ pg ∧ IntAt W pn ∧ a' = { tmps := #[.func (.func gf) #[] lb, .int .i64 way, undef, .pointer (some ⟨py, 0, none⟩), .pointer (some ⟨pq, 0, none⟩), .bool false, .pointer (some ⟨po, 0, none⟩), .pointer (some ⟨pg, 0, none⟩), .pointer (some ⟨pr, 0, none⟩), .func (.func gf) #[] lb, .bool false, undef, .func (.func gf) #[] lb, .agg #[.bool rB, .slice rxO rxL rxC, .slice ryO ryL ryC], undef, undef, undef, undef, undef, undef, undef, undef, undef, undef, undef, undef], defers := [] })
    ?_ ?assign ?body ?done ?stop
  case assign =>
    rintro l pre x v S W K hi hnv hpre hK
    obtain ⟨rB, rxO, rxL, rxC, ryO, ryL, ryC, rfl, hS9, _, _⟩ := hnv.form
    clear hS9
    gi_wp2
    have hb := (Below.refl _ W).alloc (Nat.le_refl _) (.cells #[.bool rB, .slice rxO rxL rxC, .slice ryO ryL ryC] 35)
    obtain ⟨oB, oxO, oxL, oxC, oyO, oyL, oyC, rfl, hBy, hBq, hBo, hBf, hN, hB, hI⟩ := hi
    have hI2 := (BelowX.of (pn := pn) hb).own hI
    have hlo := hBo.lt
    have hlf := hBf.lt
    refine hK _ _ hb ⟨oB, oxO, oxL, oxC, oyO, oyL, oyC, rfl, hBy.kept hb, hBq.kept hb, hBo.kept hb, hBf.kept hb, hN.below hb, ?_, hI2⟩ ⟨W.heap.size, rB, rxO, rxL, rxC, ryO, ryL, ryC, ⟨by go_simp, by go_simp, by go_simp, by go_simp, by go_simp, by go_simp⟩, hnv.below hb, by have := hB.size; omega, by omega, by omega, hI2, rfl⟩
    exact belowX_ext (D := w.heap.size) hB (ExtX.of_below hb) (Nat.le_refl _) hB.size
  case body =>
    rintro l pre x a' S W ⟨oB, oxO, oxL, oxC, oyO, oyL, oyC, rfl, hby, hbq, hbo, hbg, h, hB, hI⟩ ⟨pr, rB, rxO, rxL, rxC, ryO, ryL, ryC, hbr, hr, hne4, hne5, hne6, _, rfl⟩ hpre hS
    have hxl : QB x 700 := hx x (hpre.subset (by simp))
    obtain ⟨m9, f9, hpk⟩ : ∃ m f, pkL way pre = (m, f) := ⟨_, _, rfl⟩
    have hml : QB m9 700 := by rw [show m9 = (pkL way pre).1 by rw [hpk]]; exact pkL_qb hx ((List.prefix_append _ _).trans hpre)
    have hst := pkL_snoc way pre x
    rw [hpk] at h hbg hst
    dsimp only at h hbg hst
    have HST := Lib.hid hst
    clear hst hpk
    obtain ⟨z, hz⟩ : ∃ z, qcmp x m9 = z := ⟨_, rfl⟩
    have HZ := Lib.hid hz
    clear hz
    cases f9
    · have ey := hby.cell
      have eo0 := hbo.c0
      have eo1 := hbo.c1
      have eo2 := hbo.c2
      have er0 := hbr.c0
      have er1 := hbr.c1
      have er2 := hbr.c2
      have eg := hbg.cell
      gi_wp2_with fail
      clear ey eo0 eo1 eo2 er0 er1 er2 eg
      refine wpIn_region_seq (S := fun w' => Box w' py (Value.int .i64 way) ∧ Box3 w' po (Value.bool oB) (Value.slice oxO oxL oxC) (Value.slice oyO oyL oyC) ∧ Box3 w' pr (Value.bool rB) (Value.slice rxO rxL rxC) (Value.slice ryO ryL ryC) ∧ Box w' pg (Value.bool false)) [(true, 0), (true, 1), (true, 2), (true, 3), (true, 4), (true, 6), (false, 5), (true, 7), (true, 8)] (by kernel_rfl) (fun ⟨_, _, h⟩ => h) (by kernel_rfl) (by kernel_rfl) (by kernel_rfl) (by kernel_rfl) (by kernel_rfl) (fun d _ _ _ _ h => by cases d <;> exact h) ⟨hby.drew, hbo.drew, hbr.drew, hbg.drew⟩ (fun _ => ?_)
      simp only [pickOps, List.append_eq, List.cons_append, List.nil_append, List.getElem?_toArray, List.getElem?_cons_succ, List.getElem?_cons_zero]
      have hb : Below W.heap.size W W.drew := (Below.refl _ _).drew
      generalize W.drew = w1 at hb ⊢
      replace hby := hby.kept hb
      replace hbo := hbo.kept hb
      replace hbr := hbr.kept hb
      replace hbg := hbg.kept hb
      replace hbq := hbq.kept hb
      replace h := h.below hb
      replace hr := hr.below hb
      have hbf := hb
      clear hb
      repeat (first | (refine seq_take (v := ?_) (by rfl) ?_ ?_; rotate_left; (· intro w hSw; (try dsimp only at hSw); obtain ⟨⟨ey, _, _⟩, ⟨eo0, eo1, eo2, _, _, _⟩, ⟨er0, er1, er2, _, _, _⟩, ⟨eg, _, _⟩⟩ := hSw; go_simp; all_goals with_reducible rfl); (try simp only [Act.put, List.setIfInBounds_toArray, List.set_cons_zero, List.set_cons_succ])) | (refine seq_leave (by rfl) ?_; (try simp only [Act.put, List.setIfInBounds_toArray, List.set_cons_zero, List.set_cons_succ])))
      refine seq_pass (by rfl) ⟨hby, hbo, hbr, hbg⟩ ?_
      (try simp only [Act.put, List.setIfInBounds_toArray, List.set_cons_zero, List.set_cons_succ])
      repeat (first | (refine seq_take (v := ?_) (by rfl) ?_ ?_; rotate_left; (· intro w hSw; (try dsimp only at hSw); obtain ⟨⟨ey, _, _⟩, ⟨eo0, eo1, eo2, _, _, _⟩, ⟨er0, er1, er2, _, _, _⟩, ⟨eg, _, _⟩⟩ := hSw; go_simp; all_goals with_reducible rfl); (try simp only [Act.put, List.setIfInBounds_toArray, List.set_cons_zero, List.set_cons_succ])) | (refine seq_leave (by rfl) ?_; (try simp only [Act.put, List.setIfInBounds_toArray, List.set_cons_zero, List.set_cons_succ])))
      refine seq_end ?_
      have er0 := hbr.c0
      have er1 := hbr.c1
      have er2 := hbr.c2
      have eo0 := hbo.c0
      have fo0 := hbo.f0
      have eo1 := hbo.c1
      have fo1 := hbo.f1
      have eo2 := hbo.c2
      have fo2 := hbo.f2
      have eg := hbg.cell
      have fg := hbg.free
      gi_wp2
      clear er0 er1 er2 eo0 fo0 eo1 fo1 eo2 fo2 eg fg
      have hst : pkL way (pre ++ [x]) = (x, true) := by rw [HST.out]; unfold pkStep; simp [HZ.out]
      have hHx : BelowX pn w.heap.size w w1 := belowX_ext (D := w.heap.size) hB (ExtX.of_below hbf) (Nat.le_refl _) hB.size
      have hIx := (BelowX.of (pn := pn) hbf).own hI
      have hlo := hbo.lt
      have hlg := hbg.lt
      have hX := (hHx.set3 (b := po) (u0 := .bool rB) (u1 := .slice rxO rxL rxC) (u2 := .slice ryO ryL ryC) (by omega) (by omega)).setCell (b := pg) (.bool true) (by omega) (by omega)
      refine ⟨_, ⟨rB, rxO, rxL, rxC, ryO, ryL, ryC, rfl, (hby.set3 (by omega)).setOther (by omega) 0 _, (hbq.set3o (by omega)).setOther (by omega) 0 _, (hbo.set3).setOther (by omega) 0 _, ?_, ?_, hX, hX.own hn0⟩, ?_, ?_, fun _ => ⟨hX.own hn0, ?_⟩⟩
      · rw [hst]; exact (hbg.set3 (by omega)).set _
      · rw [hst]; exact (hr.set3 hbo).setB (hbg.set3 (by omega)) _
      · exact ((Foot.of_below hbf).trans (Foot.set3 _ _ _ (.inl rfl))).trans (Foot.set1 _ (.inr rfl))
      · intro k hk
        rcases hk with rfl | rfl
        · simpa [World.setCell] using hlo
        · simpa [World.setCell] using hlg
      · exact ((KeepNat.below hbf).trans fun v n hn => hn.set3 hbo).trans fun v n hn => hn.set _ _ (fun n e9 => by rw [(hbg.set3 (by omega)).cell] at e9; cases e9)
    · have ey := hby.cell
      have eo0 := hbo.c0
      have eo1 := hbo.c1
      have eo2 := hbo.c2
      have er0 := hbr.c0
      have er1 := hbr.c1
      have er2 := hbr.c2
      have eg := hbg.cell
      gi_wp2_with fail
      clear ey eo0 eo1 eo2 er0 er1 er2 eg
      refine wpIn_region_seq (S := fun w' => Box w' py (Value.int .i64 way) ∧ Box3 w' po (Value.bool oB) (Value.slice oxO oxL oxC) (Value.slice oyO oyL oyC) ∧ Box3 w' pr (Value.bool rB) (Value.slice rxO rxL rxC) (Value.slice ryO ryL ryC) ∧ Box w' pg (Value.bool true)) [(true, 0), (true, 1), (true, 2), (true, 3), (true, 4), (true, 6), (false, 5), (true, 7), (true, 8)] (by kernel_rfl) (fun ⟨_, _, h⟩ => h) (by kernel_rfl) (by kernel_rfl) (by kernel_rfl) (by kernel_rfl) (by kernel_rfl) (fun d _ _ _ _ h => by cases d <;> exact h) ⟨hby.drew, hbo.drew, hbr.drew, hbg.drew⟩ (fun _ => ?_)
      simp only [pickOps, List.append_eq, List.cons_append, List.nil_append, List.getElem?_toArray, List.getElem?_cons_succ, List.getElem?_cons_zero]
      have hb : Below W.heap.size W W.drew := (Below.refl _ _).drew
      generalize W.drew = w1 at hb ⊢
      replace hby := hby.kept hb
      replace hbo := hbo.kept hb
      replace hbr := hbr.kept hb
      replace hbg := hbg.kept hb
      replace hbq := hbq.kept hb
      replace h := h.below hb
      replace hr := hr.below hb
      have hbf := hb
      clear hb
      repeat (first | (refine seq_take (v := ?_) (by rfl) ?_ ?_; rotate_left; (· intro w hSw; (try dsimp only at hSw); obtain ⟨⟨ey, _, _⟩, ⟨eo0, eo1, eo2, _, _, _⟩, ⟨er0, er1, er2, _, _, _⟩, ⟨eg, _, _⟩⟩ := hSw; go_simp; all_goals with_reducible rfl); (try simp only [Act.put, List.setIfInBounds_toArray, List.set_cons_zero, List.set_cons_succ])) | (refine seq_leave (by rfl) ?_; (try simp only [Act.put, List.setIfInBounds_toArray, List.set_cons_zero, List.set_cons_succ])))
      refine seq_step (by rfl) (fun K hK => ?_)
      go_simp
      go_at_call 56
      (with_reducible refine (cmp_c _ _ x m9 z 700 700 w1 hr h hxl hml (by omega) HZ).mono ?_)
      rintro e w2 ⟨rfl, hb⟩
      replace hby := hby.kept hb
      replace hbo := hbo.kept hb
      replace hbr := hbr.kept hb
      replace hbg := hbg.kept hb
      replace hbq := hbq.kept hb
      replace h := h.below hb
      replace hr := hr.below hb
      replace hbf := hbf.trans (hb.mono hbf.size)
      clear hb
      first | refine hK.out _ _ ⟨hby, hbo, hbr, hbg⟩ (fun _ => ?_) | (go_wp2_with fail; refine hK.out _ _ ⟨hby, hbo, hbr, hbg⟩ (fun _ => ?_))
      clear hK K
      (try simp only [Act.put, List.setIfInBounds_toArray, List.set_cons_zero, List.set_cons_succ])
      repeat (first | (refine seq_take (v := ?_) (by rfl) ?_ ?_; rotate_left; (· intro w hSw; (try dsimp only at hSw); obtain ⟨⟨ey, _, _⟩, ⟨eo0, eo1, eo2, _, _, _⟩, ⟨er0, er1, er2, _, _, _⟩, ⟨eg, _, _⟩⟩ := hSw; go_simp; all_goals with_reducible rfl); (try simp only [Act.put, List.setIfInBounds_toArray, List.set_cons_zero, List.set_cons_succ])) | (refine seq_leave (by rfl) ?_; (try simp only [Act.put, List.setIfInBounds_toArray, List.set_cons_zero, List.set_cons_succ])))
      refine seq_end ?_
      by_cases hzw : z = way
      · subst hzw
        have er0 := hbr.c0
        have er1 := hbr.c1
        have er2 := hbr.c2
        have eo0 := hbo.c0
        have fo0 := hbo.f0
        have eo1 := hbo.c1
        have fo1 := hbo.f1
        have eo2 := hbo.c2
        have fo2 := hbo.f2
        have eg := hbg.cell
        have fg := hbg.free
        gi_wp2
        clear er0 er1 er2 eo0 fo0 eo1 fo1 eo2 fo2 eg fg
        have hst : pkL z (pre ++ [x]) = (x, true) := by rw [HST.out]; unfold pkStep; simp [HZ.out]
        have hHx : BelowX pn w.heap.size w w2 := belowX_ext (D := w.heap.size) hB (ExtX.of_below hbf) (Nat.le_refl _) hB.size
        have hIx := (BelowX.of (pn := pn) hbf).own hI
        have hlo := hbo.lt
        have hlg := hbg.lt
        have hX := (hHx.set3 (b := po) (u0 := .bool rB) (u1 := .slice rxO rxL rxC) (u2 := .slice ryO ryL ryC) (by omega) (by omega)).setCell (b := pg) (.bool true) (by omega) (by omega)
        refine ⟨_, ⟨rB, rxO, rxL, rxC, ryO, ryL, ryC, rfl, (hby.set3 (by omega)).setOther (by omega) 0 _, (hbq.set3o (by omega)).setOther (by omega) 0 _, (hbo.set3).setOther (by omega) 0 _, ?_, ?_, hX, hX.own hn0⟩, ?_, ?_, fun _ => ⟨hX.own hn0, ?_⟩⟩
        · rw [hst]; exact (hbg.set3 (by omega)).set _
        · rw [hst]; exact (hr.set3 hbo).setB (hbg.set3 (by omega)) _
        · exact ((Foot.of_below hbf).trans (Foot.set3 _ _ _ (.inl rfl))).trans (Foot.set1 _ (.inr rfl))
        · intro k hk
          rcases hk with rfl | rfl
          · simpa [World.setCell] using hlo
          · simpa [World.setCell] using hlg
        · exact ((KeepNat.below hbf).trans fun v n hn => hn.set3 hbo).trans fun v n hn => hn.set _ _ (fun n e9 => by rw [(hbg.set3 (by omega)).cell] at e9; cases e9)
      · have hzw2 : (z == way) = false := by simpa using hzw
        gi_wp2
        have hst : pkL way (pre ++ [x]) = (m9, true) := by rw [HST.out]; unfold pkStep; simp [HZ.out, hzw]
        have hHx : BelowX pn w.heap.size w w2 := belowX_ext (D := w.heap.size) hB (ExtX.of_below hbf) (Nat.le_refl _) hB.size
        have hIx := (BelowX.of (pn := pn) hbf).own hI
        have hlo := hbo.lt
        have hlg := hbg.lt
        refine ⟨_, ⟨oB, oxO, oxL, oxC, oyO, oyL, oyC, rfl, hby, hbq, hbo, by rw [hst]; exact hbg, by rw [hst]; exact h, hHx, hIx⟩, Foot.of_below hbf, ?_, fun _ => ⟨hIx, KeepNat.below hbf⟩⟩
        intro k hk
        rcases hk with rfl | rfl
        · exact hlo
        · exact hlg
  case done =>
    rintro D S W hD ⟨oB, oxO, oxL, oxC, oyO, oyL, oyC, rfl, hBy, hbq, hbo, hbg, hN, hB, hI⟩ hcn hK
    obtain ⟨m9, f9, hpk⟩ : ∃ m f, pkL way qs = (m, f) := ⟨_, _, rfl⟩
    rw [hpk] at hN hbg
    dsimp only at hN hbg
    have hK9 := hK
    clear hK
    have hneq : pq ≠ pn := by omega
    gi_wp2
    refine wpIn_wide.2 ?_
    have eo0 := hbo.c0
    have eo1 := hbo.c1
    have eo2 := hbo.c2
    have eg := hbg.cell
    have eq0 := hbq.c0
    have fq0 := hbq.f0
    have eq1 := hbq.c1
    have fq1 := hbq.f1
    have eq2 := hbq.c2
    have fq2 := hbq.f2
    go_region
    clear eo0 eo1 eo2 eg eq0 fq0 eq1 fq1 eq2 fq2
    obtain ⟨W1, hwE⟩ : ∃ W1, W1 = ((W.setCell ⟨pq, 0, none⟩ (.bool oB)).setCell ⟨pq, 1, none⟩ (.slice oxO oxL oxC)).setCell ⟨pq, 2, none⟩ (.slice oyO oyL oyC) := ⟨_, rfl⟩
    rw [← hwE]
    replace hN := hN.set3 (u0 := .bool oB) (u1 := .slice oxO oxL oxC) (u2 := .slice oyO oyL oyC) hbq
    replace hB := BelowX.set3 (u0 := .bool oB) (u1 := .slice oxO oxL oxC) (u2 := .slice oyO oyL oyC) (b := pq) hB (by omega) hneq
    replace hbq := hbq.set3 (u0 := .bool oB) (u1 := .slice oxO oxL oxC) (u2 := .slice oyO oyL oyC)
    rw [← hwE] at hN hB hbq
    have hqD : D ≠ pq := by omega
    replace hK9 : W1.heap[D]? = some (.deferred (some [])) := by rw [hwE]; exact (((Below.heap_setCell _ _ _ _ (by simp; omega)).trans (Below.heap_setCell _ _ _ _ (by simp; omega))).trans (Below.heap_setCell _ _ _ _ (by simp; omega))).trans hK9
    replace hcn : W1.cell? ⟨pn, 0, none⟩ = some (.int .i64 (c0 + (qs.length : Int))) := by rw [hwE]; exact (World.cell?_of_block (a := ⟨pn, 0, none⟩) (((Below.heap_setCell _ _ _ _ (fun e => hneq e.symm)).trans (Below.heap_setCell _ _ _ _ (fun e => hneq e.symm))).trans (Below.heap_setCell _ _ _ _ (fun e => hneq e.symm)))).trans hcn
    clear hwE
    have hd : Below W1.heap.size W1 W1.drew := (Below.refl _ _).drew
    replace hN := hN.below hd
    replace hbq := hbq.kept hd
    replace hcn := (hd.cell (p := ⟨pn, 0, none⟩) (by show pn < _; have := hB.size; omega)).trans hcn
    replace hK9 := (hd.block D (Array.getElem?_eq_some_iff.1 hK9).1).trans hK9
    replace hB := belowX_ext (D := w.heap.size) hB (ExtX.of_below hd) (Nat.le_refl _) hB.size
    clear hbo hbg hd hI
    generalize W1.drew = W2 at *
    gi_wp2
    have hx9 : Ext D W2 (W2.putObj D (.deferred none)) := ext_deferred hK9
    have hxx := ExtX.of_ext (pn := pn) hx9
    have hI3 := hB.own hn0
    refine ⟨by simp, .inl ⟨_, _, rfl, run_takeDeferred hK9, ?_⟩⟩
    have hn3 := hN.keep (KpX.ext hxx hI3).2
    have hb9 := hbq.extX hxx hneq
    have hsz : w.heap.size ≤ W2.heap.size := hB.size
    have k0 := hb9.c0
    have k1 := hb9.c1
    have k2 := hb9.c2
    refine ⟨_, ?_, ⟨_, rfl, (by rw [hpk]; exact hn3), belowX_ext hB hxx (by omega) hsz, (World.cell?_of_block (a := ⟨pn, 0, none⟩) (World.putObj_heap_other (by show pn ≠ D; omega))).trans hcn⟩⟩
    simp [results, Tryd.results36, go_sem, k0, k1, k2, hpk]
  case stop =>
    rintro D c pre S W hD hp h hK
    exact h.elim
  · rintro pre S W W' ⟨oB, oxO, oxL, oxC, oyO, oyL, oyC, rfl, hBy, hBq, hBo, hBf, hN, hB, hI⟩ hx
    exact ⟨oB, oxO, oxL, oxC, oyO, oyL, oyC, rfl, hBy.extX hx (by omega), hBq.extX hx (by omega), hBo.extX hx (by omega), hBf.extX hx (by omega), hN.keep (KpX.ext hx hI).2, belowX_ext hB hx (by omega) hB.size, hx.own hI⟩
  · rintro c pre S W W' h hx
    exact h.elim
  · exact ⟨false, none, 0, 0, none, 0, 0, rfl, hby, hbq, hbo, hbf0, QIs.zero _, belowX_ext (D := w.heap.size) (BelowX.of (Below.refl _ w)) (ExtX.of_below hbel) (Nat.le_refl _) (Nat.le_refl _), hn9⟩
  · rintro x a' W W' ⟨pr, rB, rxO, rxL, rxC, ryO, ryL, ryC, hB4, hn, hne4, hne5, hne6, hI, rfl⟩ hx
    exact ⟨pr, rB, rxO, rxL, rxC, ryO, ryL, ryC, hB4.extX hx hne4, hn.keep (KpX.ext hx hI).2, hne4, hne5, hne6, hx.own hI, rfl⟩

end Go.Proofs.YtoadhoojdgeikaaDoor
