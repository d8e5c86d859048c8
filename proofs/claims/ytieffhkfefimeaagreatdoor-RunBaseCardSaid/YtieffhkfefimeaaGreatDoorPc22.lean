/-
  Pc22: RunQ (what is needed of them).
-/
import Derived.Test.YtieffhkfefimeaaGreatDoorPc14
import Derived.Test.YtieffhkfefimeaaGreatDoorPc20
import Derived.Test.YtieffhkfefimeaaGreatDoorPc21
import Derived.Deep.RegionHeld
set_option maxRecDepth 100000
set_option linter.unusedVariables false
set_option linter.unusedSimpArgs false

namespace Go.Proofs.YtieffhkfefimeaaGreatDoor
open Go.RowKit Go.Shelf


theorem enter_values : ∀ args w, (callFunc 159 args).run Tryz.prog w = .ok (.enter 159 args) w := enters_of Tryz.func159 (by kernel_rfl) rfl
theorem eq_values (w : World) (b : Nat) : (binOp .eql 144 (.func (.func 159) #[] #[.pointer (some ⟨b, 0, none⟩)]) .nilFunc).run Tryz.prog w = .ok (.bool false) w := by kernel_rfl
theorem values_any (va : Value) (qs : List Rat) (w : World) (hrow : RatRow w va qs w.heap.size w.heap.size) :
  Calls Tryz.prog 112 #[va] w fun e9 w' => ∃ pb : Nat, e9 = .returned (.func (.func 159) #[] #[.pointer (some ⟨pb, 0, none⟩)]) ∧ w'.cell? ⟨pb, 0, none⟩ = some va ∧ w.heap.size ≤ pb ∧ pb < w'.heap.size ∧ Below w.heap.size w w' := by
 obtain ⟨ao, cap, rfl, hrw⟩ := hrow.row
 obtain ⟨w0, hw0⟩ : ∃ w0, w0 = (w.alloc (.cells #[.slice ao qs.length cap] 96)) := ⟨_, rfl⟩
 have hbf : Below w.heap.size w w0 := by rw [hw0]; exact ((Below.refl _ w).alloc (Nat.le_refl _) _)
 obtain ⟨pb, hpb⟩ : ∃ p, p = w.heap.size := ⟨_, rfl⟩
 have hbb : Box w0 pb (Value.slice ao qs.length cap) := by rw [hw0, hpb]; exact ⟨by go_simp, by go_simp, by simp <;> omega⟩
 have HP : Hid (w.heap.size ≤ pb) := Lib.hid (by omega)
 have HW := Lib.hid hw0; clear hw0
 go_enter Tryz.func112, Tryz.ntmps112
 go_upto_region 1 with fail
 rw [← HW.out, ← hpb]
 clear hpb HW
 have h9 := HP.out
 go_wp2_with fail
 go_ret
 exact ⟨pb, rfl, hbb.cell, h9, hbb.lt, hbf⟩
theorem sum_values (va : Value) (qs : List Rat) (pb B : Nat) (w : World) (hrow : RatRow w va qs B B) (hB : B ≤ w.heap.size) (hc : w.cell? ⟨pb, 0, none⟩ = some va) (hx : ∀ q ∈ qs, QB q 700) (hs : ∀ pre, pre <+: qs → QB (qsumL pre) 20000) (hlen : qs.length ≤ 1000000) :
  Calls Tryz.prog 115 #[.func (.func 159) #[] #[.pointer (some ⟨pb, 0, none⟩)]] w (QPost w (qsumL qs)) := by
 have hlt := World.block_lt_of_cell? w ⟨pb, 0, none⟩ hc
 have hrow2 : RatRow w va qs w.heap.size w.heap.size := by
  obtain ⟨ao, cap, h1, h2⟩ := hrow.row
  refine ⟨ao, cap, h1, ?_⟩
  rcases h2 with h2 | ⟨g, h3, h4, h5, h6, h7⟩
  ·exact .inl h2
  ·exact .inr ⟨g, h3, h5, h5, Nat.ne_of_lt h5, h7⟩
 have hit := values_iter va qs pb w.heap.size w hrow2 hc hlt (Nat.le_refl _) hlen
 exact qsumV_any _ _ qs w hit enter_values (fun W => eq_values W pb) hx hs
set_option maxHeartbeats 1000000 in
theorem together_sum (v : Value) (e : EE) (bo : Option Addr) (bc : Nat) (no : Option Addr) (nc : Nat) (lo : Option Addr) (lc : Nat) (va : Value) (qs : List Rat) (m : Int) (w : World) (h : EnsIs w v e bo bc no nc lo lc) (hrow : RatRow w va qs w.heap.size w.heap.size) (hag : Hid (e.agg = [83, 85, 77])) (hx : ∀ q ∈ qs, QB q 700) (hs : ∀ pre, pre <+: qs → QB (qsumL pre) 20000) (hlen : qs.length ≤ 1000000) :
  Calls Tryz.prog 44 #[v, va, .int .i64 m] w (QPost w (qsumL qs)) := by
 have hv9 : v = .agg #[.int .i64 e.feats, .int .i64 e.tgts, .string ⟨#[83, 85, 77]⟩, .string ⟨e.post.toArray⟩, .slice bo e.base.length bc, .slice no e.nodes.length nc, .slice lo e.leaves.length lc] := by rw [h.val, hag.out]
 subst hv9
 clear h
 obtain ⟨w0, hw0⟩ : ∃ w0, w0 = ((w.alloc (.cells #[.int .i64 e.feats, .int .i64 e.tgts, .string ⟨#[83, 85, 77]⟩, .string ⟨e.post.toArray⟩, .slice bo e.base.length bc, .slice no e.nodes.length nc, .slice lo e.leaves.length lc] 33)).alloc (.cells #[.bool false, .slice none 0 0, .slice none 0 0] 81)) := ⟨_, rfl⟩
 have hbf : Below w.heap.size w w0 := by rw [hw0]; exact (((Below.refl _ w).alloc (Nat.le_refl _) _).alloc (by simp <;> omega) _)
 obtain ⟨pe, hpe⟩ : ∃ p, p = w.heap.size := ⟨_, rfl⟩
 have hbe : BoxL w0 pe [.int .i64 e.feats, .int .i64 e.tgts, .string ⟨#[83, 85, 77]⟩, .string ⟨e.post.toArray⟩, .slice bo e.base.length bc, .slice no e.nodes.length nc, .slice lo e.leaves.length lc] := by rw [hw0, hpe]; exact BoxL.of7 (by go_simp) (by go_simp) (by go_simp) (by go_simp) (by go_simp) (by go_simp) (by go_simp) (by go_simp) (by go_simp) (by go_simp) (by go_simp) (by go_simp) (by go_simp) (by go_simp)
 obtain ⟨pr, hpr⟩ : ∃ p, p = w.heap.size + 1 := ⟨_, rfl⟩
 have hbr : Box3 w0 pr (Value.bool false) (Value.slice none 0 0) (Value.slice none 0 0) := by rw [hw0, hpr]; exact ⟨by go_simp, by go_simp, by go_simp, by go_simp, by go_simp, by go_simp⟩
 have HP : Hid (w.heap.size ≤ pe ∧ pe < pr) := Lib.hid (by omega)
 have HW := Lib.hid hw0; clear hw0
 go_enter Tryz.func44, Tryz.ntmps44
 go_upto_region 1 with fail
 rw [← HW.out, ← hpr, ← hpe]
 clear hpe hpr HW
 have hrow2 := hrow.keep hbf.size (fun g _ hg _ => hbf.block g hg) (KeepNat.below hbf)
 obtain ⟨ee0, ee1, ee2, ee3, ee4, ee5, ee6⟩ := hbe.c7
 go_upto_region 11 with fail
 clear ee0 ee1 ee2 ee3 ee4 ee5 ee6
 go_wp2_with fail
 refine (values_any va qs w0 (by obtain ⟨ao, cap, a1, a2⟩ := hrow2.row; exact ⟨ao, cap, a1, a2.imp id (fun ⟨g, h3, h4, h5, h6, h7⟩ => ⟨g, h3, h5, h5, Nat.ne_of_lt h5, h7⟩)⟩)).mono ?_
 rintro e9 w1 ⟨pb, rfl, hcb, hpb1, hpb2, hb⟩
 have hrow3 := hrow2.keep hb.size (fun g _ hg _ => hb.block g hg) (KeepNat.below hb)
 clear hrow2
 replace hbe := hbe.kept hb
 replace hbr := hbr.kept hb
 replace hbf := hbf.trans (hb.mono hbf.size)
 clear hb
 go_wp2_with fail
 refine (sum_values va qs pb w.heap.size w1 hrow3 hbf.size hcb hx hs hlen).mono ?_
 rintro e9 w2 hq9
 obtain ⟨yB, yxO, yxL, yxC, yyO, yyL, yyC, rfl, hS, hyx, hyy, hy, hb⟩ := hq9.out
 have HyS := Lib.hid hS; clear hS
 replace hbe := hbe.kept hb
 replace hbr := hbr.kept hb
 replace hbf := hbf.trans (hb.mono hbf.size)
 clear hb hyx hyy HyS
 have er0 := hbr.c0
 have fr0 := hbr.f0
 have er1 := hbr.c1
 have fr1 := hbr.f1
 have er2 := hbr.c2
 have fr2 := hbr.f2
 go_wp2_with fail
 clear er0 fr0 er1 fr1 er2 fr2
 obtain ⟨w1, hwE⟩ : ∃ W, W = ((w2.setCell ⟨pr, 0, none⟩ (Value.bool yB)).setCell ⟨pr, 1, none⟩ (Value.slice yxO yxL yxC)).setCell ⟨pr, 2, none⟩ (Value.slice yyO yyL yyC) := ⟨_, rfl⟩
 rw [← hwE]
 replace hy := hy.set3 (u0 := (Value.bool yB)) (u1 := (Value.slice yxO yxL yxC)) (u2 := (Value.slice yyO yyL yyC)) hbr; rw [← hwE] at hy
 replace hbf := below_set3 (u0 := (Value.bool yB)) (u1 := (Value.slice yxO yxL yxC)) (u2 := (Value.slice yyO yyL yyC)) hbf (show w.heap.size ≤ pr by have := HP.out; omega); rw [← hwE] at hbf
 replace hbr := hbr.set3 (u0 := (Value.bool yB)) (u1 := (Value.slice yxO yxL yxC)) (u2 := (Value.slice yyO yyL yyC)); rw [← hwE] at hbr; clear hwE
 have er0 := hbr.c0
 have er1 := hbr.c1
 have er2 := hbr.c2
 (try go_wp2_with fail)
 exact bodyPost_ret (v := .agg #[.bool yB, .slice yxO yxL yxC, .slice yyO yyL yyC]) (by simp [results, Tryz.results44, go_sem, er0, er1, er2]) rfl ⟨_, rfl, hy, hbf⟩
end Go.Proofs.YtieffhkfefimeaaGreatDoor
namespace Go.Proofs.YtieffhkfefimeaaGreatDoor
open Go.RowKit Go.Shelf


attribute [local go_sem] Oper.semAt_some field_nat
theorem Iter.upB {α : Type} {P : Program} {gf : Nat} {lb : Array Value} {Enc : World → Value → α → Prop} {xs : List α} {B B' : Nat} {Kp : World → World → Prop} {w : World} (h : Iter P gf lb Enc xs B Kp w) (hB : B ≤ B') :
  Iter P gf lb Enc xs B' Kp w := fun l J Jx S0 W1 hW hS => h l J Jx S0 W1 hW (fun k hk => ⟨Nat.le_trans hB (hS k hk).1, (hS k hk).2⟩)
def pkStep (way : Int) (s : Rat × Bool) (x : Rat) : Rat × Bool := if (!s.2 || qcmp x s.1 == way) = true then (x, true) else s
def pkL (way : Int) (l : List Rat) : Rat × Bool := l.foldl (pkStep way) (0, false)
theorem pkL_snoc (way : Int) (l : List Rat) (x : Rat) : pkL way (l ++ [x]) = pkStep way (pkL way l) x := by unfold pkL; rw [List.foldl_append]; rfl
theorem pkL_qb {way : Int} {qs pre : List Rat} (hx : ∀ q ∈ qs, QB q 700) (hp : pre <+: qs) : QB (pkL way pre).1 700 := by
 have key : ∀ (l : List Rat) (s : Rat × Bool), QB s.1 700 → (∀ q ∈ l, QB q 700) → QB (l.foldl (pkStep way) s).1 700 := by
  intro l
  induction l with
  | nil => intro s h _; exact h
  | cons a l ih =>
   intro s h ha
   refine ih _ ?_ (fun q hq => ha q (List.mem_cons_of_mem _ hq))
   unfold pkStep
   split
   ·exact ha a (by simp)
   ·exact h
 exact key pre _ (QB.zero _ (by decide)) (fun q hq => hx q (hp.subset hq))
set_option maxHeartbeats 4000000 in
theorem pickV_any (gf : Nat) (lb : Array Value) (qs : List Rat) (way : Int) (w : World) (hit : Iter Tryz.prog gf lb QIs qs w.heap.size KeepNat w) (eg : ∀ args w, (callFunc gf args).run Tryz.prog w = .ok (.enter gf args) w)
  (en : ∀ w, (binOp .eql 144 (.func (.func gf) #[] lb) .nilFunc).run Tryz.prog w = .ok (.bool false) w)
  (hx : ∀ q ∈ qs, QB q 700) :
  Calls Tryz.prog 158 #[.func (.func gf) #[] lb, .int .i64 way] w fun e w' => ∃ r, e = .returned (.tuple #[r, .bool (pkL way qs).2]) ∧ QIs w' r (pkL way qs).1 ∧ Below w.heap.size w w' := by
 refine (callsIn_wide (n := 0)).1 ?_
 refine callsIn_of_wp_marks Tryz.func158 rfl (by trivial) ?_ rfl
 simp only [Tryz.ntmps158, List.size_toArray, List.length_cons, List.length_nil, Nat.reduceAdd, Nat.reduceSub, Array.replicate_succ, Array.replicate_zero, List.push_toArray, List.append_toArray, List.nil_append, List.cons_append]
 gi_wp2_with fail
 obtain ⟨w0, hw0⟩ : ∃ w0, w0 = (((w.alloc (.cells #[.int .i64 way] 3)).alloc (.cells #[.bool false, .slice none 0 0, .slice none 0 0] 81)).alloc (.cells #[.bool false, .slice none 0 0, .slice none 0 0] 81)).alloc (.cells #[.bool false] 4) := ⟨_, rfl⟩
 have hbel : Below w.heap.size w w0 := by
  rw [hw0]; exact ((((Below.refl _ w).alloc (Nat.le_refl _) _).alloc (by simp <;> omega) _).alloc (by simp <;> omega) _).alloc (by simp <;> omega) _
 have hsz0 : w0.heap.size = w.heap.size + 4 := by rw [hw0]; simp
 have hby : Box w0 w.heap.size (.int .i64 way) := by rw [hw0]; exact ⟨by go_simp, by go_simp, by simp <;> omega⟩
 have hbq : Box3 w0 (w.heap.size + 1) (.bool false) (.slice none 0 0) (.slice none 0 0) := by rw [hw0]; exact ⟨by go_simp, by go_simp, by go_simp, by go_simp, by go_simp, by go_simp⟩
 have hbo : Box3 w0 (w.heap.size + 1 + 1) (.bool false) (.slice none 0 0) (.slice none 0 0) := by rw [hw0]; exact ⟨by go_simp, by go_simp, by go_simp, by go_simp, by go_simp, by go_simp⟩
 have hbf0 : Box w0 (w.heap.size + 1 + 1 + 1) (.bool false) := by rw [hw0]; exact ⟨by go_simp, by go_simp, by simp <;> omega⟩
 rw [← hw0]
 clear hw0
 obtain ⟨py, hpy⟩ : ∃ p, p = w.heap.size := ⟨_, rfl⟩
 obtain ⟨pq, hpq⟩ : ∃ p, p = w.heap.size + 1 := ⟨_, rfl⟩
 obtain ⟨po, hpo⟩ : ∃ p, p = w.heap.size + 1 + 1 := ⟨_, rfl⟩
 obtain ⟨pg, hpg⟩ : ∃ p, p = w.heap.size + 1 + 1 + 1 := ⟨_, rfl⟩
 rw [← hpg, ← hpo, ← hpq, ← hpy]
 rw [← hpq] at hbq
 rw [← hpo] at hbo
 rw [← hpg] at hbf0
 rw [← hpy] at hby
 have hle1 : w.heap.size ≤ py := by omega
 have hle2 : py < pq := by omega
 have hle3 : pq < po := by omega
 have hle4 : po < pg := by omega
 have hle5 : pg < w0.heap.size := by omega
 clear hpy hpq hpo hpg
 refine wp_range (gf := gf) (lb := lb) rfl eg (hit.mono hbel) (fun A C D => KeepNat.trans) (fun A C => KeepNat.ext) rfl (by omega)
  (fun pre S W => ∃ (oB : Bool) (oxO : Option Addr) (oxL oxC : Nat) (oyO : Option Addr) (oyL oyC : Nat), (S = fun k => k = po ∨ k = pg) ∧ Box W py (.int .i64 way) ∧ Box3 W pq (.bool false) (.slice none 0 0) (.slice none 0 0) ∧ Box3 W po (.bool oB) (.slice oxO oxL oxC) (.slice oyO oyL oyC) ∧ Box W pg (.bool (pkL way pre).2) ∧ QIs W (.agg #[.bool oB, .slice oxO oxL oxC, .slice oyO oyL oyC]) (pkL way pre).1 ∧ Below w.heap.size w W)
  (fun c pre S W => False)
  ?_ ?_ (fun k => k = po ∨ k = pg) (fun k hk => ⟨by omega, by omega⟩) ?_
  (fun x a' W => ∃ (pr : Nat) (rB : Bool) (rxO : Option Addr) (rxL rxC : Nat) (ryO : Option Addr) (ryL ryC : Nat), Box3 W pr (.bool rB) (.slice rxO rxL rxC) (.slice ryO ryL ryC) ∧ QIs W (.agg #[.bool rB, .slice rxO rxL rxC, .slice ryO ryL ryC]) x ∧ pr ≠ po ∧ pr ≠ pg ∧ a' = { tmps := #[.func (.func gf) #[] lb, .int .i64 way, undef, .pointer (some ⟨py, 0, none⟩), .pointer (some ⟨pq, 0, none⟩), .bool false, .pointer (some ⟨po, 0, none⟩), .pointer (some ⟨pg, 0, none⟩), .pointer (some ⟨pr, 0, none⟩), .func (.func gf) #[] lb, .bool false, undef, .func (.func gf) #[] lb, .agg #[.bool rB, .slice rxO rxL rxC, .slice ryO ryL ryC], undef, undef, undef, undef, undef, undef, undef, undef, undef, undef, undef, undef], defers := [] })
  ?_ ?assign ?body ?done ?stop
 case assign =>
  rintro l pre x v S W K hi hnv hpre hK
  obtain ⟨rB, rxO, rxL, rxC, ryO, ryL, ryC, rfl, hS9, _, _⟩ := hnv.form
  clear hS9
  gi_wp2
  have hb := (Below.refl _ W).alloc (Nat.le_refl _) (.cells #[.bool rB, .slice rxO rxL rxC, .slice ryO ryL ryC] 81)
  obtain ⟨oB, oxO, oxL, oxC, oyO, oyL, oyC, rfl, hBy, hBq, hBo, hBf, hN, hB⟩ := hi
  have hlo := hBo.lt
  have hlf := hBf.lt
  refine hK _ _ hb ⟨oB, oxO, oxL, oxC, oyO, oyL, oyC, rfl, hBy.kept hb, hBq.kept hb, hBo.kept hb, hBf.kept hb, hN.below hb, ?_⟩ ⟨W.heap.size, rB, rxO, rxL, rxC, ryO, ryL, ryC, ⟨by go_simp, by go_simp, by go_simp, by go_simp, by go_simp, by go_simp⟩, hnv.below hb, by omega, by omega, rfl⟩
  exact hB.trans (hb.mono hB.size)
 case body =>
  rintro l pre x a' S W ⟨oB, oxO, oxL, oxC, oyO, oyL, oyC, rfl, hby, hbq, hbo, hbg, h, hB⟩ ⟨pr, rB, rxO, rxL, rxC, ryO, ryL, ryC, hbr, hr, hne5, hne6, rfl⟩ hpre hS
  have hxl : QB x 700 := hx x (hpre.subset (by simp))
  obtain ⟨m9, f9, hpk⟩ : ∃ m f, pkL way pre = (m, f) := ⟨_, _, rfl⟩
  have hml : QB m9 700 := by rw [show m9 = (pkL way pre).1 by rw [hpk]]; exact pkL_qb hx ((List.prefix_append _ _).trans hpre)
  have hst := pkL_snoc way pre x
  rw [hpk] at h hbg hst
  dsimp only at h hbg hst
  have HST := Lib.hid hst
  clear hst hpk
  obtain ⟨z, hz⟩ : ∃ z, qcmp x m9 = z := ⟨_, rfl⟩
  have HZ := Lib.hid hz
  clear hz
  cases f9
  ·have ey := hby.cell
   have eo0 := hbo.c0
   have eo1 := hbo.c1
   have eo2 := hbo.c2
   have er0 := hbr.c0
   have er1 := hbr.c1
   have er2 := hbr.c2
   have eg := hbg.cell
   gi_wp2_with fail
   clear ey eo0 eo1 eo2 er0 er1 er2 eg
   refine wpIn_region_seq (S := fun w' => Box w' py (Value.int .i64 way) ∧ Box3 w' po (Value.bool oB) (Value.slice oxO oxL oxC) (Value.slice oyO oyL oyC) ∧ Box3 w' pr (Value.bool rB) (Value.slice rxO rxL rxC) (Value.slice ryO ryL ryC) ∧ Box w' pg (Value.bool false)) [(true, 0), (true, 1), (true, 2), (true, 3), (true, 4), (true, 6), (false, 5), (true, 7), (true, 8)] (by kernel_rfl) (fun ⟨_, _, h⟩ => h) (by kernel_rfl) (by kernel_rfl) (by kernel_rfl) (by kernel_rfl) (by kernel_rfl) (fun d _ _ _ _ h => by cases d <;> exact h) ⟨hby.drew, hbo.drew, hbr.drew, hbg.drew⟩ (fun _ => ?_)
   simp only [pickOps, List.append_eq, List.cons_append, List.nil_append, List.getElem?_toArray, List.getElem?_cons_succ, List.getElem?_cons_zero]
   have hb : Below W.heap.size W W.drew := (Below.refl _ _).drew
   generalize W.drew = w1 at hb ⊢
   replace hby := hby.kept hb
   replace hbo := hbo.kept hb
   replace hbr := hbr.kept hb
   replace hbg := hbg.kept hb
   replace hbq := hbq.kept hb
   replace h := h.below hb
   replace hr := hr.below hb
   have hbf := hb
   clear hb
   repeat (first | (refine seq_take (v := ?_) (by rfl) ?_ ?_; rotate_left; (· intro w hSw; (try dsimp only at hSw); obtain ⟨⟨ey, _, _⟩, ⟨eo0, eo1, eo2, _, _, _⟩, ⟨er0, er1, er2, _, _, _⟩, ⟨eg, _, _⟩⟩ := hSw; go_simp; all_goals with_reducible rfl); (try simp only [Act.put, List.setIfInBounds_toArray, List.set_cons_zero, List.set_cons_succ])) | (refine seq_leave (by rfl) ?_; (try simp only [Act.put, List.setIfInBounds_toArray, List.set_cons_zero, List.set_cons_succ])))
   refine seq_pass (by rfl) ⟨hby, hbo, hbr, hbg⟩ ?_
   (try simp only [Act.put, List.setIfInBounds_toArray, List.set_cons_zero, List.set_cons_succ])
   repeat (first | (refine seq_take (v := ?_) (by rfl) ?_ ?_; rotate_left; (· intro w hSw; (try dsimp only at hSw); obtain ⟨⟨ey, _, _⟩, ⟨eo0, eo1, eo2, _, _, _⟩, ⟨er0, er1, er2, _, _, _⟩, ⟨eg, _, _⟩⟩ := hSw; go_simp; all_goals with_reducible rfl); (try simp only [Act.put, List.setIfInBounds_toArray, List.set_cons_zero, List.set_cons_succ])) | (refine seq_leave (by rfl) ?_; (try simp only [Act.put, List.setIfInBounds_toArray, List.set_cons_zero, List.set_cons_succ])))
   refine seq_end ?_
   have er0 := hbr.c0
   have er1 := hbr.c1
   have er2 := hbr.c2
   have eo0 := hbo.c0
   have fo0 := hbo.f0
   have eo1 := hbo.c1
   have fo1 := hbo.f1
   have eo2 := hbo.c2
   have fo2 := hbo.f2
   have eg := hbg.cell
   have fg := hbg.free
   gi_wp2
   clear er0 er1 er2 eo0 fo0 eo1 fo1 eo2 fo2 eg fg
   have hst : pkL way (pre ++ [x]) = (x, true) := by rw [HST.out]; unfold pkStep; simp [HZ.out]
   have hHx : Below w.heap.size w w1 := hB.trans (hbf.mono hB.size)
   have hlo := hbo.lt
   have hlg := hbg.lt
   have hX := (below_set3 (b := po) (u0 := .bool rB) (u1 := .slice rxO rxL rxC) (u2 := .slice ryO ryL ryC) hHx (by omega)).setCell (p := ⟨pg, 0, none⟩) (by show _ ≤ pg; omega) (.bool true)
   refine ⟨_, ⟨rB, rxO, rxL, rxC, ryO, ryL, ryC, rfl, (hby.set3 (by omega)).setOther (by omega) 0 _, (hbq.set3o (by omega)).setOther (by omega) 0 _, (hbo.set3).setOther (by omega) 0 _, ?_, ?_, hX⟩, ?_, ?_, ?_⟩
   ·rw [hst]; exact (hbg.set3 (by omega)).set _
   ·rw [hst]; exact (hr.set3 hbo).setBV (hbg.set3 (by omega)) _
   ·exact ((Foot.of_below hbf).trans (Foot.set3 _ _ _ (.inl rfl))).trans (Foot.set1V _ (.inr rfl))
   ·intro k hk
    rcases hk with rfl | rfl
    ·simpa [World.setCell] using hlo
    ·simpa [World.setCell] using hlg
   ·exact ((KeepNat.below hbf).trans fun v n hn => hn.set3 hbo).trans fun v n hn => hn.set _ _ (fun n e9 => by rw [(hbg.set3 (by omega)).cell] at e9; cases e9)
  ·have ey := hby.cell
   have eo0 := hbo.c0
   have eo1 := hbo.c1
   have eo2 := hbo.c2
   have er0 := hbr.c0
   have er1 := hbr.c1
   have er2 := hbr.c2
   have eg := hbg.cell
   gi_wp2_with fail
   clear ey eo0 eo1 eo2 er0 er1 er2 eg
   refine wpIn_region_seq (S := fun w' => Box w' py (Value.int .i64 way) ∧ Box3 w' po (Value.bool oB) (Value.slice oxO oxL oxC) (Value.slice oyO oyL oyC) ∧ Box3 w' pr (Value.bool rB) (Value.slice rxO rxL rxC) (Value.slice ryO ryL ryC) ∧ Box w' pg (Value.bool true)) [(true, 0), (true, 1), (true, 2), (true, 3), (true, 4), (true, 6), (false, 5), (true, 7), (true, 8)] (by kernel_rfl) (fun ⟨_, _, h⟩ => h) (by kernel_rfl) (by kernel_rfl) (by kernel_rfl) (by kernel_rfl) (by kernel_rfl) (fun d _ _ _ _ h => by cases d <;> exact h) ⟨hby.drew, hbo.drew, hbr.drew, hbg.drew⟩ (fun _ => ?_)
   simp only [pickOps, List.append_eq, List.cons_append, List.nil_append, List.getElem?_toArray, List.getElem?_cons_succ, List.getElem?_cons_zero]
   have hb : Below W.heap.size W W.drew := (Below.refl _ _).drew
   generalize W.drew = w1 at hb ⊢
   replace hby := hby.kept hb
   replace hbo := hbo.kept hb
   replace hbr := hbr.kept hb
   replace hbg := hbg.kept hb
   replace hbq := hbq.kept hb
   replace h := h.below hb
   replace hr := hr.below hb
   have hbf := hb
   clear hb
   repeat (first | (refine seq_take (v := ?_) (by rfl) ?_ ?_; rotate_left; (· intro w hSw; (try dsimp only at hSw); obtain ⟨⟨ey, _, _⟩, ⟨eo0, eo1, eo2, _, _, _⟩, ⟨er0, er1, er2, _, _, _⟩, ⟨eg, _, _⟩⟩ := hSw; go_simp; all_goals with_reducible rfl); (try simp only [Act.put, List.setIfInBounds_toArray, List.set_cons_zero, List.set_cons_succ])) | (refine seq_leave (by rfl) ?_; (try simp only [Act.put, List.setIfInBounds_toArray, List.set_cons_zero, List.set_cons_succ])))
   refine seq_step (by rfl) (fun K hK => ?_)
   go_simp
   go_at_call 90
   (with_reducible refine (qcmp_r _ _ x m9 z 700 700 w1 hr h hxl hml (by omega) HZ).mono ?_)
   rintro e w2 ⟨rfl, hb⟩
   replace hby := hby.kept hb
   replace hbo := hbo.kept hb
   replace hbr := hbr.kept hb
   replace hbg := hbg.kept hb
   replace hbq := hbq.kept hb
   replace h := h.below hb
   replace hr := hr.below hb
   replace hbf := hbf.trans (hb.mono hbf.size)
   clear hb
   first | refine hK.out _ _ ⟨hby, hbo, hbr, hbg⟩ (fun _ => ?_) | (go_wp2_with fail; refine hK.out _ _ ⟨hby, hbo, hbr, hbg⟩ (fun _ => ?_))
   clear hK K
   (try simp only [Act.put, List.setIfInBounds_toArray, List.set_cons_zero, List.set_cons_succ])
   repeat (first | (refine seq_take (v := ?_) (by rfl) ?_ ?_; rotate_left; (· intro w hSw; (try dsimp only at hSw); obtain ⟨⟨ey, _, _⟩, ⟨eo0, eo1, eo2, _, _, _⟩, ⟨er0, er1, er2, _, _, _⟩, ⟨eg, _, _⟩⟩ := hSw; go_simp; all_goals with_reducible rfl); (try simp only [Act.put, List.setIfInBounds_toArray, List.set_cons_zero, List.set_cons_succ])) | (refine seq_leave (by rfl) ?_; (try simp only [Act.put, List.setIfInBounds_toArray, List.set_cons_zero, List.set_cons_succ])))
   refine seq_end ?_
   by_cases hzw : z = way
   ·subst hzw
    have er0 := hbr.c0
    have er1 := hbr.c1
    have er2 := hbr.c2
    have eo0 := hbo.c0
    have fo0 := hbo.f0
    have eo1 := hbo.c1
    have fo1 := hbo.f1
    have eo2 := hbo.c2
    have fo2 := hbo.f2
    have eg := hbg.cell
    have fg := hbg.free
    gi_wp2
    clear er0 er1 er2 eo0 fo0 eo1 fo1 eo2 fo2 eg fg
    have hst : pkL z (pre ++ [x]) = (x, true) := by rw [HST.out]; unfold pkStep; simp [HZ.out]
    have hHx : Below w.heap.size w w2 := hB.trans (hbf.mono hB.size)
    have hlo := hbo.lt
    have hlg := hbg.lt
    have hX := (below_set3 (b := po) (u0 := .bool rB) (u1 := .slice rxO rxL rxC) (u2 := .slice ryO ryL ryC) hHx (by omega)).setCell (p := ⟨pg, 0, none⟩) (by show _ ≤ pg; omega) (.bool true)
    refine ⟨_, ⟨rB, rxO, rxL, rxC, ryO, ryL, ryC, rfl, (hby.set3 (by omega)).setOther (by omega) 0 _, (hbq.set3o (by omega)).setOther (by omega) 0 _, (hbo.set3).setOther (by omega) 0 _, ?_, ?_, hX⟩, ?_, ?_, ?_⟩
    ·rw [hst]; exact (hbg.set3 (by omega)).set _
    ·rw [hst]; exact (hr.set3 hbo).setBV (hbg.set3 (by omega)) _
    ·exact ((Foot.of_below hbf).trans (Foot.set3 _ _ _ (.inl rfl))).trans (Foot.set1V _ (.inr rfl))
    ·intro k hk
     rcases hk with rfl | rfl
     ·simpa [World.setCell] using hlo
     ·simpa [World.setCell] using hlg
    ·exact ((KeepNat.below hbf).trans fun v n hn => hn.set3 hbo).trans fun v n hn => hn.set _ _ (fun n e9 => by rw [(hbg.set3 (by omega)).cell] at e9; cases e9)
   ·have hzw2 : (z == way) = false := by simpa using hzw
    gi_wp2
    have hst : pkL way (pre ++ [x]) = (m9, true) := by rw [HST.out]; unfold pkStep; simp [HZ.out, hzw]
    have hHx : Below w.heap.size w w2 := hB.trans (hbf.mono hB.size)
    have hlo := hbo.lt
    have hlg := hbg.lt
    refine ⟨_, ⟨oB, oxO, oxL, oxC, oyO, oyL, oyC, rfl, hby, hbq, hbo, by rw [hst]; exact hbg, by rw [hst]; exact h, hHx⟩, Foot.of_below hbf, ?_, KeepNat.below hbf⟩
    intro k hk
    rcases hk with rfl | rfl
    ·exact hlo
    ·exact hlg
 case done =>
  rintro D S W hD ⟨oB, oxO, oxL, oxC, oyO, oyL, oyC, rfl, hBy, hbq, hbo, hbg, hN, hB⟩ hK
  obtain ⟨m9, f9, hpk⟩ : ∃ m f, pkL way qs = (m, f) := ⟨_, _, rfl⟩
  rw [hpk] at hN hbg
  dsimp only at hN hbg
  have hK9 := hK
  clear hK
  gi_wp2
  refine wpIn_wide.2 ?_
  have eo0 := hbo.c0
  have eo1 := hbo.c1
  have eo2 := hbo.c2
  have eg := hbg.cell
  have eq0 := hbq.c0
  have fq0 := hbq.f0
  have eq1 := hbq.c1
  have fq1 := hbq.f1
  have eq2 := hbq.c2
  have fq2 := hbq.f2
  go_region
  clear eo0 eo1 eo2 eg eq0 fq0 eq1 fq1 eq2 fq2
  obtain ⟨W1, hwE⟩ : ∃ W1, W1 = ((W.setCell ⟨pq, 0, none⟩ (.bool oB)).setCell ⟨pq, 1, none⟩ (.slice oxO oxL oxC)).setCell ⟨pq, 2, none⟩ (.slice oyO oyL oyC) := ⟨_, rfl⟩
  rw [← hwE]
  replace hN := hN.set3 (u0 := .bool oB) (u1 := .slice oxO oxL oxC) (u2 := .slice oyO oyL oyC) hbq
  replace hB := below_set3 (u0 := .bool oB) (u1 := .slice oxO oxL oxC) (u2 := .slice oyO oyL oyC) (b := pq) hB (by omega)
  replace hbq := hbq.set3 (u0 := .bool oB) (u1 := .slice oxO oxL oxC) (u2 := .slice oyO oyL oyC)
  rw [← hwE] at hN hB hbq
  have hqD : D ≠ pq := by omega
  replace hK9 : W1.heap[D]? = some (.deferred (some [])) := by rw [hwE]; exact (((Below.heap_setCell _ _ _ _ (by simp; omega)).trans (Below.heap_setCell _ _ _ _ (by simp; omega))).trans (Below.heap_setCell _ _ _ _ (by simp; omega))).trans hK9
  clear hwE
  have hd : Below W1.heap.size W1 W1.drew := (Below.refl _ _).drew
  replace hN := hN.below hd
  replace hbq := hbq.kept hd
  replace hK9 := (hd.block D (Array.getElem?_eq_some_iff.1 hK9).1).trans hK9
  replace hB := hB.trans (hd.mono hB.size)
  clear hbo hbg hd
  generalize W1.drew = W2 at *
  gi_wp2
  have hx9 : Ext D W2 (W2.putObj D (.deferred none)) := ext_deferred hK9
  refine ⟨by simp, .inl ⟨_, _, rfl, run_takeDeferred hK9, ?_⟩⟩
  have hn3 := hN.keep (KeepNat.ext hx9)
  have hb9 := hbq.extV hx9
  have hsz : w.heap.size ≤ W2.heap.size := hB.size
  have k0 := hb9.c0
  have k1 := hb9.c1
  have k2 := hb9.c2
  refine ⟨_, ?_, ⟨_, rfl, (by rw [hpk]; exact hn3), below_ext hB hx9 (by omega) hsz⟩⟩
  simp [results, Tryz.results158, go_sem, k0, k1, k2, hpk]
 case stop =>
  rintro D c pre S W hD hp h hK
  exact h.elim
 ·rintro pre S W W' ⟨oB, oxO, oxL, oxC, oyO, oyL, oyC, rfl, hBy, hBq, hBo, hBf, hN, hB⟩ hx
  exact ⟨oB, oxO, oxL, oxC, oyO, oyL, oyC, rfl, hBy.ext hx, hBq.extV hx, hBo.extV hx, hBf.ext hx, hN.keep (KeepNat.ext hx), below_ext hB hx (by omega) hB.size⟩
 ·rintro c pre S W W' h hx
  exact h.elim
 ·exact ⟨false, none, 0, 0, none, 0, 0, rfl, hby, hbq, hbo, hbf0, QIs.zero _, hbel⟩
 ·rintro x a' W W' ⟨pr, rB, rxO, rxL, rxC, ryO, ryL, ryC, hB4, hn, hne5, hne6, rfl⟩ hx
  exact ⟨pr, rB, rxO, rxL, rxC, ryO, ryL, ryC, hB4.extV hx, hn.keep (KeepNat.ext hx), hne5, hne6, rfl⟩
set_option maxHeartbeats 2000000 in
theorem leastV_any (gf : Nat) (lb : Array Value) (qs : List Rat) (w : World) (hit : Iter Tryz.prog gf lb QIs qs w.heap.size KeepNat w) (eg : ∀ args w, (callFunc gf args).run Tryz.prog w = .ok (.enter gf args) w)
  (en : ∀ w, (binOp .eql 144 (.func (.func gf) #[] lb) .nilFunc).run Tryz.prog w = .ok (.bool false) w)
  (hx : ∀ q ∈ qs, QB q 700) :
  Calls Tryz.prog 111 #[.func (.func gf) #[] lb] w fun e w' => ∃ r, e = .returned (.tuple #[r, .bool (pkL (-1) qs).2]) ∧ QIs w' r (pkL (-1) qs).1 ∧ Below w.heap.size w w' := by
 obtain ⟨w0, hw0⟩ : ∃ w0, w0 = w.alloc (.cells #[.bool false, .slice none 0 0, .slice none 0 0] 81) := ⟨_, rfl⟩
 have hbf : Below w.heap.size w w0 := by rw [hw0]; exact (Below.refl _ w).alloc (Nat.le_refl _) _
 obtain ⟨pr, hpr⟩ : ∃ p, p = w.heap.size := ⟨_, rfl⟩
 have hbr : Box3 w0 pr (.bool false) (.slice none 0 0) (.slice none 0 0) := by rw [hw0, hpr]; exact ⟨by go_simp, by go_simp, by go_simp, by go_simp, by go_simp, by go_simp⟩
 have hlt : w.heap.size ≤ pr ∧ pr < w0.heap.size := ⟨by omega, hbr.lt⟩
 have HW := Lib.hid hw0; clear hw0
 go_enter Tryz.func111, Tryz.ntmps111
 go_upto_region 1 with fail
 rw [← HW.out, ← hpr]
 have HP := Lib.hid hpr; clear hpr
 have HL := Lib.hid hlt; clear hlt
 go_wp2_with fail
 refine (pickV_any gf lb qs (-1) w0 ((hit.mono hbf).upB hbf.size) eg en hx).mono ?_
 rintro e w1 ⟨r, rfl, hr, hB⟩
 obtain ⟨oB, oxO, oxL, oxC, oyO, oyL, oyC, rfl, hS9, _, _⟩ := hr.form
 clear hS9
 replace hbr : Box3 w1 pr (.bool false) (.slice none 0 0) (.slice none 0 0) := hbr.kept hB
 have e0 := hbr.c0
 have e1 := hbr.c1
 have e2 := hbr.c2
 have f0 := hbr.f0
 have f1 := hbr.f1
 have f2 := hbr.f2
 go_wp2_with fail
 clear e0 e1 e2 f0 f1 f2
 have hr2 := hr.set3 (u0 := .bool oB) (u1 := .slice oxO oxL oxC) (u2 := .slice oyO oyL oyC) hbr
 have hb2 := hbr.set3 (u0 := .bool oB) (u1 := .slice oxO oxL oxC) (u2 := .slice oyO oyL oyC)
 have hlt2 := HL.out
 have hB0 : Below w.heap.size w w1 := hbf.trans (hB.mono hbf.size)
 have hB2 := below_set3 (u0 := .bool oB) (u1 := .slice oxO oxL oxC) (u2 := .slice oyO oyL oyC) (b := pr) hB0 hlt2.1
 generalize ((w1.setCell ⟨pr, 0, none⟩ (.bool oB)).setCell ⟨pr, 1, none⟩ (.slice oxO oxL oxC)).setCell ⟨pr, 2, none⟩ (.slice oyO oyL oyC) = W2 at *
 exact ret_rat_tmp rfl rfl rfl hb2 rfl ⟨_, rfl, hr2, hB2⟩
set_option maxHeartbeats 2000000 in
theorem mostV_any (gf : Nat) (lb : Array Value) (qs : List Rat) (w : World) (hit : Iter Tryz.prog gf lb QIs qs w.heap.size KeepNat w) (eg : ∀ args w, (callFunc gf args).run Tryz.prog w = .ok (.enter gf args) w)
  (en : ∀ w, (binOp .eql 144 (.func (.func gf) #[] lb) .nilFunc).run Tryz.prog w = .ok (.bool false) w)
  (hx : ∀ q ∈ qs, QB q 700) :
  Calls Tryz.prog 113 #[.func (.func gf) #[] lb] w fun e w' => ∃ r, e = .returned (.tuple #[r, .bool (pkL (1) qs).2]) ∧ QIs w' r (pkL (1) qs).1 ∧ Below w.heap.size w w' := by
 obtain ⟨w0, hw0⟩ : ∃ w0, w0 = w.alloc (.cells #[.bool false, .slice none 0 0, .slice none 0 0] 81) := ⟨_, rfl⟩
 have hbf : Below w.heap.size w w0 := by rw [hw0]; exact (Below.refl _ w).alloc (Nat.le_refl _) _
 obtain ⟨pr, hpr⟩ : ∃ p, p = w.heap.size := ⟨_, rfl⟩
 have hbr : Box3 w0 pr (.bool false) (.slice none 0 0) (.slice none 0 0) := by rw [hw0, hpr]; exact ⟨by go_simp, by go_simp, by go_simp, by go_simp, by go_simp, by go_simp⟩
 have hlt : w.heap.size ≤ pr ∧ pr < w0.heap.size := ⟨by omega, hbr.lt⟩
 have HW := Lib.hid hw0; clear hw0
 go_enter Tryz.func113, Tryz.ntmps113
 go_upto_region 1 with fail
 rw [← HW.out, ← hpr]
 have HP := Lib.hid hpr; clear hpr
 have HL := Lib.hid hlt; clear hlt
 go_wp2_with fail
 refine (pickV_any gf lb qs (1) w0 ((hit.mono hbf).upB hbf.size) eg en hx).mono ?_
 rintro e w1 ⟨r, rfl, hr, hB⟩
 obtain ⟨oB, oxO, oxL, oxC, oyO, oyL, oyC, rfl, hS9, _, _⟩ := hr.form
 clear hS9
 replace hbr : Box3 w1 pr (.bool false) (.slice none 0 0) (.slice none 0 0) := hbr.kept hB
 have e0 := hbr.c0
 have e1 := hbr.c1
 have e2 := hbr.c2
 have f0 := hbr.f0
 have f1 := hbr.f1
 have f2 := hbr.f2
 go_wp2_with fail
 clear e0 e1 e2 f0 f1 f2
 have hr2 := hr.set3 (u0 := .bool oB) (u1 := .slice oxO oxL oxC) (u2 := .slice oyO oyL oyC) hbr
 have hb2 := hbr.set3 (u0 := .bool oB) (u1 := .slice oxO oxL oxC) (u2 := .slice oyO oyL oyC)
 have hlt2 := HL.out
 have hB0 : Below w.heap.size w w1 := hbf.trans (hB.mono hbf.size)
 have hB2 := below_set3 (u0 := .bool oB) (u1 := .slice oxO oxL oxC) (u2 := .slice oyO oyL oyC) (b := pr) hB0 hlt2.1
 generalize ((w1.setCell ⟨pr, 0, none⟩ (.bool oB)).setCell ⟨pr, 1, none⟩ (.slice oxO oxL oxC)).setCell ⟨pr, 2, none⟩ (.slice oyO oyL oyC) = W2 at *
 exact ret_rat_tmp rfl rfl rfl hb2 rfl ⟨_, rfl, hr2, hB2⟩
end Go.Proofs.YtieffhkfefimeaaGreatDoor
namespace Go.Proofs.YtieffhkfefimeaaGreatDoor
open Go.RowKit Go.Shelf


theorem RatRow.own {W : World} {v : Value} {qs : List Rat} {B p : Nat} (h : RatRow W v qs B p) : RatRow W v qs W.heap.size W.heap.size := by
 obtain ⟨ao, cap, h1, h2⟩ := h.row
 refine ⟨ao, cap, h1, ?_⟩
 rcases h2 with h2 | ⟨g, h3, h4, h5, h6, h7⟩
 ·exact .inl h2
 ·exact .inr ⟨g, h3, h5, h5, Nat.ne_of_lt h5, h7⟩
theorem least_values (va : Value) (qs : List Rat) (pb B : Nat) (w : World) (hrow : RatRow w va qs B B) (hc : w.cell? ⟨pb, 0, none⟩ = some va) (hx : ∀ q ∈ qs, QB q 700) (hlen : qs.length ≤ 1000000) (q9 : Rat) (hq9 : Hid ((pkL (-1) qs).1 = q9)) :
  Calls Tryz.prog 111 #[.func (.func 159) #[] #[.pointer (some ⟨pb, 0, none⟩)]] w fun e w' => ∃ b s xo xl xc yo yl yc, e = .returned (.tuple #[.agg #[.bool s, .slice xo xl xc, .slice yo yl yc], .bool b]) ∧ QIs w' (.agg #[.bool s, .slice xo xl xc, .slice yo yl yc]) q9 ∧ Below w.heap.size w w' := by
 have hlt := World.block_lt_of_cell? w ⟨pb, 0, none⟩ hc
 have hit := values_iter va qs pb w.heap.size w hrow.own hc hlt (Nat.le_refl _) hlen
 refine (leastV_any _ _ qs w hit enter_values (fun W => eq_values W pb) hx).mono ?_
 rintro e w' ⟨r, rfl, hr, hb⟩
 rw [hq9.out] at hr
 obtain ⟨s, xo, xl, xc, yo, yl, yc, rfl, _, _, _⟩ := hr.form
 exact ⟨_, s, xo, xl, xc, yo, yl, yc, rfl, hr, hb⟩
theorem most_values (va : Value) (qs : List Rat) (pb B : Nat) (w : World) (hrow : RatRow w va qs B B) (hc : w.cell? ⟨pb, 0, none⟩ = some va) (hx : ∀ q ∈ qs, QB q 700) (hlen : qs.length ≤ 1000000) (q9 : Rat) (hq9 : Hid ((pkL 1 qs).1 = q9)) :
  Calls Tryz.prog 113 #[.func (.func 159) #[] #[.pointer (some ⟨pb, 0, none⟩)]] w fun e w' => ∃ b s xo xl xc yo yl yc, e = .returned (.tuple #[.agg #[.bool s, .slice xo xl xc, .slice yo yl yc], .bool b]) ∧ QIs w' (.agg #[.bool s, .slice xo xl xc, .slice yo yl yc]) q9 ∧ Below w.heap.size w w' := by
 have hlt := World.block_lt_of_cell? w ⟨pb, 0, none⟩ hc
 have hit := values_iter va qs pb w.heap.size w hrow.own hc hlt (Nat.le_refl _) hlen
 refine (mostV_any _ _ qs w hit enter_values (fun W => eq_values W pb) hx).mono ?_
 rintro e w' ⟨r, rfl, hr, hb⟩
 rw [hq9.out] at hr
 obtain ⟨s, xo, xl, xc, yo, yl, yc, rfl, _, _, _⟩ := hr.form
 exact ⟨_, s, xo, xl, xc, yo, yl, yc, rfl, hr, hb⟩
set_option maxHeartbeats 1000000 in
theorem together_least (v : Value) (e : EE) (bo : Option Addr) (bc : Nat) (no : Option Addr) (nc : Nat) (lo : Option Addr) (lc : Nat) (va : Value) (qs : List Rat) (m : Int) (q9 : Rat) (w : World) (h : EnsIs w v e bo bc no nc lo lc) (hrow : RatRow w va qs w.heap.size w.heap.size) (hag : Hid (e.agg = [77, 73, 78])) (hx : ∀ q ∈ qs, QB q 700) (hs : ∀ pre, pre <+: qs → QB (qsumL pre) 20000) (hlen : qs.length ≤ 1000000) (hq9 : Hid ((pkL (-1) qs).1 = q9)) :
  Calls Tryz.prog 44 #[v, va, .int .i64 m] w (QPost w q9) := by
 have hv9 : v = .agg #[.int .i64 e.feats, .int .i64 e.tgts, .string ⟨#[77, 73, 78]⟩, .string ⟨e.post.toArray⟩, .slice bo e.base.length bc, .slice no e.nodes.length nc, .slice lo e.leaves.length lc] := by rw [h.val, hag.out]
 subst hv9
 clear h
 obtain ⟨w0, hw0⟩ : ∃ w0, w0 = ((w.alloc (.cells #[.int .i64 e.feats, .int .i64 e.tgts, .string ⟨#[77, 73, 78]⟩, .string ⟨e.post.toArray⟩, .slice bo e.base.length bc, .slice no e.nodes.length nc, .slice lo e.leaves.length lc] 33)).alloc (.cells #[.bool false, .slice none 0 0, .slice none 0 0] 81)) := ⟨_, rfl⟩
 have hbf : Below w.heap.size w w0 := by rw [hw0]; exact (((Below.refl _ w).alloc (Nat.le_refl _) _).alloc (by simp <;> omega) _)
 obtain ⟨pe, hpe⟩ : ∃ p, p = w.heap.size := ⟨_, rfl⟩
 have hbe : BoxL w0 pe [.int .i64 e.feats, .int .i64 e.tgts, .string ⟨#[77, 73, 78]⟩, .string ⟨e.post.toArray⟩, .slice bo e.base.length bc, .slice no e.nodes.length nc, .slice lo e.leaves.length lc] := by rw [hw0, hpe]; exact BoxL.of7 (by go_simp) (by go_simp) (by go_simp) (by go_simp) (by go_simp) (by go_simp) (by go_simp) (by go_simp) (by go_simp) (by go_simp) (by go_simp) (by go_simp) (by go_simp) (by go_simp)
 obtain ⟨pr, hpr⟩ : ∃ p, p = w.heap.size + 1 := ⟨_, rfl⟩
 have hbr : Box3 w0 pr (Value.bool false) (Value.slice none 0 0) (Value.slice none 0 0) := by rw [hw0, hpr]; exact ⟨by go_simp, by go_simp, by go_simp, by go_simp, by go_simp, by go_simp⟩
 have HP : Hid (w.heap.size ≤ pe ∧ pe < pr) := Lib.hid (by omega)
 have HW := Lib.hid hw0; clear hw0
 go_enter Tryz.func44, Tryz.ntmps44
 go_upto_region 1 with fail
 rw [← HW.out, ← hpr, ← hpe]
 clear hpe hpr HW
 have hrow2 := (hrow.keep hbf.size (fun g _ hg _ => hbf.block g hg) (KeepNat.below hbf)).own
 obtain ⟨ee0, ee1, ee2, ee3, ee4, ee5, ee6⟩ := hbe.c7
 go_upto_region 3 with fail
 clear ee0 ee1 ee2 ee3 ee4 ee5 ee6
 go_wp2_with fail
 refine (values_any va qs w0 hrow2).mono ?_
 rintro e9 w1 ⟨pb, rfl, hcb, hpb1, hpb2, hb⟩
 have hrow3 := (hrow2.keep hb.size (fun g _ hg _ => hb.block g hg) (KeepNat.below hb)).own
 clear hrow2
 replace hbe := hbe.kept hb
 replace hbr := hbr.kept hb
 replace hbf := hbf.trans (hb.mono hbf.size)
 clear hb
 go_wp2_with fail
 refine (least_values va qs pb _ w1 hrow3 hcb hx hlen q9 hq9).mono ?_
 rintro e9 w2 ⟨b9, yB, yxO, yxL, yxC, yyO, yyL, yyC, rfl, hy, hb⟩
 replace hbe := hbe.kept hb
 replace hbr := hbr.kept hb
 replace hbf := hbf.trans (hb.mono hbf.size)
 clear hb
 obtain ⟨w21, hwE⟩ : ∃ W, W = (w2.alloc (.cells #[.bool yB, .slice yxO yxL yxC, .slice yyO yyL yyC] 81)) := ⟨_, rfl⟩
 have hb : Below w2.heap.size w2 w21 := by rw [hwE]; exact ((Below.refl _ w2).alloc (Nat.le_refl _) _)
 obtain ⟨pz, hpz⟩ : ∃ p, p = w2.heap.size := ⟨_, rfl⟩
 have hbz : Box3 w21 pz (Value.bool yB) (Value.slice yxO yxL yxC) (Value.slice yyO yyL yyC) := by rw [hwE, hpz]; exact ⟨by go_simp, by go_simp, by go_simp, by go_simp, by go_simp, by go_simp⟩
 replace HP : Hid (w.heap.size ≤ pe ∧ pe < pr ∧ pr < pz) := Lib.hid (by have h1 := HP.out; have h9 := hbf.size; have h2r := hbr.lt; omega)
 have HW := Lib.hid hwE; clear hwE
 go_upto_region 4 with fail
 rw [← HW.out, ← hpz]
 clear hpz HW
 replace hbe := hbe.kept hb
 replace hbr := hbr.kept hb
 replace hy := hy.below hb
 replace hbf := hbf.trans (hb.mono hbf.size)
 clear hb
 have er0 := hbr.c0
 have fr0 := hbr.f0
 have er1 := hbr.c1
 have fr1 := hbr.f1
 have er2 := hbr.c2
 have fr2 := hbr.f2
 have ez0 := hbz.c0
 have ez1 := hbz.c1
 have ez2 := hbz.c2
 go_wp2_with fail
 clear er0 fr0 er1 fr1 er2 fr2 ez0 ez1 ez2
 obtain ⟨w22, hwE⟩ : ∃ W, W = ((w21.setCell ⟨pr, 0, none⟩ (Value.bool yB)).setCell ⟨pr, 1, none⟩ (Value.slice yxO yxL yxC)).setCell ⟨pr, 2, none⟩ (Value.slice yyO yyL yyC) := ⟨_, rfl⟩
 rw [← hwE]
 replace hy := hy.set3 (u0 := (Value.bool yB)) (u1 := (Value.slice yxO yxL yxC)) (u2 := (Value.slice yyO yyL yyC)) hbr; rw [← hwE] at hy
 replace hbz := hbz.set3o (u0 := (Value.bool yB)) (u1 := (Value.slice yxO yxL yxC)) (u2 := (Value.slice yyO yyL yyC)) (show pz ≠ pr by have := HP.out; omega); rw [← hwE] at hbz
 replace hbf := below_set3 (u0 := (Value.bool yB)) (u1 := (Value.slice yxO yxL yxC)) (u2 := (Value.slice yyO yyL yyC)) hbf (show w.heap.size ≤ pr by have := HP.out; omega); rw [← hwE] at hbf
 replace hbr := hbr.set3 (u0 := (Value.bool yB)) (u1 := (Value.slice yxO yxL yxC)) (u2 := (Value.slice yyO yyL yyC)); rw [← hwE] at hbr; clear hwE
 have er0 := hbr.c0
 have er1 := hbr.c1
 have er2 := hbr.c2
 (try go_wp2_with fail)
 exact bodyPost_ret (v := .agg #[.bool yB, .slice yxO yxL yxC, .slice yyO yyL yyC]) (by simp [results, Tryz.results44, go_sem, er0, er1, er2]) rfl ⟨_, rfl, hy, hbf⟩
set_option maxHeartbeats 1000000 in
theorem together_most (v : Value) (e : EE) (bo : Option Addr) (bc : Nat) (no : Option Addr) (nc : Nat) (lo : Option Addr) (lc : Nat) (va : Value) (qs : List Rat) (m : Int) (q9 : Rat) (w : World) (h : EnsIs w v e bo bc no nc lo lc) (hrow : RatRow w va qs w.heap.size w.heap.size) (hag : Hid (e.agg = [77, 65, 88])) (hx : ∀ q ∈ qs, QB q 700) (hs : ∀ pre, pre <+: qs → QB (qsumL pre) 20000) (hlen : qs.length ≤ 1000000) (hq9 : Hid ((pkL 1 qs).1 = q9)) :
  Calls Tryz.prog 44 #[v, va, .int .i64 m] w (QPost w q9) := by
 have hv9 : v = .agg #[.int .i64 e.feats, .int .i64 e.tgts, .string ⟨#[77, 65, 88]⟩, .string ⟨e.post.toArray⟩, .slice bo e.base.length bc, .slice no e.nodes.length nc, .slice lo e.leaves.length lc] := by rw [h.val, hag.out]
 subst hv9
 clear h
 obtain ⟨w0, hw0⟩ : ∃ w0, w0 = ((w.alloc (.cells #[.int .i64 e.feats, .int .i64 e.tgts, .string ⟨#[77, 65, 88]⟩, .string ⟨e.post.toArray⟩, .slice bo e.base.length bc, .slice no e.nodes.length nc, .slice lo e.leaves.length lc] 33)).alloc (.cells #[.bool false, .slice none 0 0, .slice none 0 0] 81)) := ⟨_, rfl⟩
 have hbf : Below w.heap.size w w0 := by rw [hw0]; exact (((Below.refl _ w).alloc (Nat.le_refl _) _).alloc (by simp <;> omega) _)
 obtain ⟨pe, hpe⟩ : ∃ p, p = w.heap.size := ⟨_, rfl⟩
 have hbe : BoxL w0 pe [.int .i64 e.feats, .int .i64 e.tgts, .string ⟨#[77, 65, 88]⟩, .string ⟨e.post.toArray⟩, .slice bo e.base.length bc, .slice no e.nodes.length nc, .slice lo e.leaves.length lc] := by rw [hw0, hpe]; exact BoxL.of7 (by go_simp) (by go_simp) (by go_simp) (by go_simp) (by go_simp) (by go_simp) (by go_simp) (by go_simp) (by go_simp) (by go_simp) (by go_simp) (by go_simp) (by go_simp) (by go_simp)
 obtain ⟨pr, hpr⟩ : ∃ p, p = w.heap.size + 1 := ⟨_, rfl⟩
 have hbr : Box3 w0 pr (Value.bool false) (Value.slice none 0 0) (Value.slice none 0 0) := by rw [hw0, hpr]; exact ⟨by go_simp, by go_simp, by go_simp, by go_simp, by go_simp, by go_simp⟩
 have HP : Hid (w.heap.size ≤ pe ∧ pe < pr) := Lib.hid (by omega)
 have HW := Lib.hid hw0; clear hw0
 go_enter Tryz.func44, Tryz.ntmps44
 go_upto_region 1 with fail
 rw [← HW.out, ← hpr, ← hpe]
 clear hpe hpr HW
 have hrow2 := (hrow.keep hbf.size (fun g _ hg _ => hbf.block g hg) (KeepNat.below hbf)).own
 obtain ⟨ee0, ee1, ee2, ee3, ee4, ee5, ee6⟩ := hbe.c7
 go_upto_region 6 with fail
 clear ee0 ee1 ee2 ee3 ee4 ee5 ee6
 go_wp2_with fail
 refine (values_any va qs w0 hrow2).mono ?_
 rintro e9 w1 ⟨pb, rfl, hcb, hpb1, hpb2, hb⟩
 have hrow3 := (hrow2.keep hb.size (fun g _ hg _ => hb.block g hg) (KeepNat.below hb)).own
 clear hrow2
 replace hbe := hbe.kept hb
 replace hbr := hbr.kept hb
 replace hbf := hbf.trans (hb.mono hbf.size)
 clear hb
 go_wp2_with fail
 refine (most_values va qs pb _ w1 hrow3 hcb hx hlen q9 hq9).mono ?_
 rintro e9 w2 ⟨b9, yB, yxO, yxL, yxC, yyO, yyL, yyC, rfl, hy, hb⟩
 replace hbe := hbe.kept hb
 replace hbr := hbr.kept hb
 replace hbf := hbf.trans (hb.mono hbf.size)
 clear hb
 obtain ⟨w21, hwE⟩ : ∃ W, W = (w2.alloc (.cells #[.bool yB, .slice yxO yxL yxC, .slice yyO yyL yyC] 81)) := ⟨_, rfl⟩
 have hb : Below w2.heap.size w2 w21 := by rw [hwE]; exact ((Below.refl _ w2).alloc (Nat.le_refl _) _)
 obtain ⟨pz, hpz⟩ : ∃ p, p = w2.heap.size := ⟨_, rfl⟩
 have hbz : Box3 w21 pz (Value.bool yB) (Value.slice yxO yxL yxC) (Value.slice yyO yyL yyC) := by rw [hwE, hpz]; exact ⟨by go_simp, by go_simp, by go_simp, by go_simp, by go_simp, by go_simp⟩
 replace HP : Hid (w.heap.size ≤ pe ∧ pe < pr ∧ pr < pz) := Lib.hid (by have h1 := HP.out; have h9 := hbf.size; have h2r := hbr.lt; omega)
 have HW := Lib.hid hwE; clear hwE
 go_upto_region 7 with fail
 rw [← HW.out, ← hpz]
 clear hpz HW
 replace hbe := hbe.kept hb
 replace hbr := hbr.kept hb
 replace hy := hy.below hb
 replace hbf := hbf.trans (hb.mono hbf.size)
 clear hb
 have er0 := hbr.c0
 have fr0 := hbr.f0
 have er1 := hbr.c1
 have fr1 := hbr.f1
 have er2 := hbr.c2
 have fr2 := hbr.f2
 have ez0 := hbz.c0
 have ez1 := hbz.c1
 have ez2 := hbz.c2
 go_wp2_with fail
 clear er0 fr0 er1 fr1 er2 fr2 ez0 ez1 ez2
 obtain ⟨w22, hwE⟩ : ∃ W, W = ((w21.setCell ⟨pr, 0, none⟩ (Value.bool yB)).setCell ⟨pr, 1, none⟩ (Value.slice yxO yxL yxC)).setCell ⟨pr, 2, none⟩ (Value.slice yyO yyL yyC) := ⟨_, rfl⟩
 rw [← hwE]
 replace hy := hy.set3 (u0 := (Value.bool yB)) (u1 := (Value.slice yxO yxL yxC)) (u2 := (Value.slice yyO yyL yyC)) hbr; rw [← hwE] at hy
 replace hbz := hbz.set3o (u0 := (Value.bool yB)) (u1 := (Value.slice yxO yxL yxC)) (u2 := (Value.slice yyO yyL yyC)) (show pz ≠ pr by have := HP.out; omega); rw [← hwE] at hbz
 replace hbf := below_set3 (u0 := (Value.bool yB)) (u1 := (Value.slice yxO yxL yxC)) (u2 := (Value.slice yyO yyL yyC)) hbf (show w.heap.size ≤ pr by have := HP.out; omega); rw [← hwE] at hbf
 replace hbr := hbr.set3 (u0 := (Value.bool yB)) (u1 := (Value.slice yxO yxL yxC)) (u2 := (Value.slice yyO yyL yyC)); rw [← hwE] at hbr; clear hwE
 have er0 := hbr.c0
 have er1 := hbr.c1
 have er2 := hbr.c2
 (try go_wp2_with fail)
 exact bodyPost_ret (v := .agg #[.bool yB, .slice yxO yxL yxC, .slice yyO yyL yyC]) (by simp [results, Tryz.results44, go_sem, er0, er1, er2]) rfl ⟨_, rfl, hy, hbf⟩
set_option maxHeartbeats 1000000 in
theorem together_avg (v : Value) (e : EE) (bo : Option Addr) (bc : Nat) (no : Option Addr) (nc : Nat) (lo : Option Addr) (lc : Nat) (va : Value) (qs : List Rat) (m : Int) (w : World) (h : EnsIs w v e bo bc no nc lo lc) (hrow : RatRow w va qs w.heap.size w.heap.size) (hag : Hid (e.agg = [65, 86, 69, 82, 65, 71, 69])) (hx : ∀ q ∈ qs, QB q 700) (hs : ∀ pre, pre <+: qs → QB (qsumL pre) 20000) (hlen : qs.length ≤ 1000000) (hm1 : 1 ≤ m) (hm2 : m ≤ 1000000) (hmq : QB (m : Rat) 2) (hm0 : (m : Rat) ≠ 0) :
  Calls Tryz.prog 44 #[v, va, .int .i64 m] w (QPost w (qsumL qs / (m : Rat))) := by
 have hv9 : v = .agg #[.int .i64 e.feats, .int .i64 e.tgts, .string ⟨#[65, 86, 69, 82, 65, 71, 69]⟩, .string ⟨e.post.toArray⟩, .slice bo e.base.length bc, .slice no e.nodes.length nc, .slice lo e.leaves.length lc] := by rw [h.val, hag.out]
 subst hv9
 clear h
 obtain ⟨w0, hw0⟩ : ∃ w0, w0 = ((w.alloc (.cells #[.int .i64 e.feats, .int .i64 e.tgts, .string ⟨#[65, 86, 69, 82, 65, 71, 69]⟩, .string ⟨e.post.toArray⟩, .slice bo e.base.length bc, .slice no e.nodes.length nc, .slice lo e.leaves.length lc] 33)).alloc (.cells #[.bool false, .slice none 0 0, .slice none 0 0] 81)) := ⟨_, rfl⟩
 have hbf : Below w.heap.size w w0 := by rw [hw0]; exact (((Below.refl _ w).alloc (Nat.le_refl _) _).alloc (by simp <;> omega) _)
 obtain ⟨pe, hpe⟩ : ∃ p, p = w.heap.size := ⟨_, rfl⟩
 have hbe : BoxL w0 pe [.int .i64 e.feats, .int .i64 e.tgts, .string ⟨#[65, 86, 69, 82, 65, 71, 69]⟩, .string ⟨e.post.toArray⟩, .slice bo e.base.length bc, .slice no e.nodes.length nc, .slice lo e.leaves.length lc] := by rw [hw0, hpe]; exact BoxL.of7 (by go_simp) (by go_simp) (by go_simp) (by go_simp) (by go_simp) (by go_simp) (by go_simp) (by go_simp) (by go_simp) (by go_simp) (by go_simp) (by go_simp) (by go_simp) (by go_simp)
 obtain ⟨pr, hpr⟩ : ∃ p, p = w.heap.size + 1 := ⟨_, rfl⟩
 have hbr : Box3 w0 pr (Value.bool false) (Value.slice none 0 0) (Value.slice none 0 0) := by rw [hw0, hpr]; exact ⟨by go_simp, by go_simp, by go_simp, by go_simp, by go_simp, by go_simp⟩
 have HP : Hid (w.heap.size ≤ pe ∧ pe < pr) := Lib.hid (by omega)
 have HW := Lib.hid hw0; clear hw0
 go_enter Tryz.func44, Tryz.ntmps44
 go_upto_region 1 with fail
 rw [← HW.out, ← hpr, ← hpe]
 clear hpe hpr HW
 have hrow2 := (hrow.keep hbf.size (fun g _ hg _ => hbf.block g hg) (KeepNat.below hbf)).own
 obtain ⟨ee0, ee1, ee2, ee3, ee4, ee5, ee6⟩ := hbe.c7
 go_upto_region 9 with fail
 clear ee0 ee1 ee2 ee3 ee4 ee5 ee6
 go_wp2_with fail
 refine (values_any va qs w0 hrow2).mono ?_
 rintro e9 w1 ⟨pb, rfl, hcb, hpb1, hpb2, hb⟩
 have hrow3 := (hrow2.keep hb.size (fun g _ hg _ => hb.block g hg) (KeepNat.below hb)).own
 clear hrow2
 replace hbe := hbe.kept hb
 replace hbr := hbr.kept hb
 replace hbf := hbf.trans (hb.mono hbf.size)
 clear hb
 go_wp2_with fail
 refine (sum_values va qs pb _ w1 hrow3 (Nat.le_refl _) hcb hx hs hlen).mono ?_
 rintro e9 w2 hq8
 obtain ⟨yB, yxO, yxL, yxC, yyO, yyL, yyC, rfl, hS, hyx, hyy, hy, hb⟩ := hq8.out
 clear hS hyx hyy hq8
 replace hbe := hbe.kept hb
 replace hbr := hbr.kept hb
 replace hbf := hbf.trans (hb.mono hbf.size)
 clear hb
 go_wp2_with fail
 refine (of_q m w2 (by omega) (by omega)).mono ?_
 rintro e9 w3 hq8
 obtain ⟨uB, uxO, uxL, uxC, uyO, uyL, uyC, rfl, hS, hux, huy, hu, hb⟩ := hq8.out
 clear hS hux huy hq8
 replace hbe := hbe.kept hb
 replace hbr := hbr.kept hb
 replace hy := hy.below hb
 replace hbf := hbf.trans (hb.mono hbf.size)
 clear hb
 go_wp2_with fail
 refine (qdiv_ok _ _ (qsumL qs) (m : Rat) 20000 2 w3 hy hu (hs qs (List.prefix_refl _)) hmq (by decide) hm0).mono ?_
 rintro e9 w4 hq8
 obtain ⟨vB, vxO, vxL, vxC, vyO, vyL, vyC, rfl, hS, hvx, hvy, hv, hb⟩ := hq8.out
 clear hS hvx hvy hq8 hy hu
 replace hbe := hbe.kept hb
 replace hbr := hbr.kept hb
 replace hbf := hbf.trans (hb.mono hbf.size)
 clear hb
 obtain ⟨w21, hwE⟩ : ∃ W, W = (w4.alloc (.cells #[.bool vB, .slice vxO vxL vxC, .slice vyO vyL vyC] 81)) := ⟨_, rfl⟩
 have hb : Below w4.heap.size w4 w21 := by rw [hwE]; exact ((Below.refl _ w4).alloc (Nat.le_refl _) _)
 obtain ⟨pz, hpz⟩ : ∃ p, p = w4.heap.size := ⟨_, rfl⟩
 have hbz : Box3 w21 pz (Value.bool vB) (Value.slice vxO vxL vxC) (Value.slice vyO vyL vyC) := by rw [hwE, hpz]; exact ⟨by go_simp, by go_simp, by go_simp, by go_simp, by go_simp, by go_simp⟩
 replace HP : Hid (w.heap.size ≤ pe ∧ pe < pr ∧ pr < pz) := Lib.hid (by have h1 := HP.out; have h9 := hbf.size; have h2r := hbr.lt; omega)
 have HW := Lib.hid hwE; clear hwE
 go_upto_region 10 with fail
 rw [← HW.out, ← hpz]
 clear hpz HW
 replace hbe := hbe.kept hb
 replace hbr := hbr.kept hb
 replace hv := hv.below hb
 replace hbf := hbf.trans (hb.mono hbf.size)
 clear hb
 have er0 := hbr.c0
 have fr0 := hbr.f0
 have er1 := hbr.c1
 have fr1 := hbr.f1
 have er2 := hbr.c2
 have fr2 := hbr.f2
 have ez0 := hbz.c0
 have ez1 := hbz.c1
 have ez2 := hbz.c2
 go_wp2_with fail
 clear er0 fr0 er1 fr1 er2 fr2 ez0 ez1 ez2
 obtain ⟨w22, hwE⟩ : ∃ W, W = ((w21.setCell ⟨pr, 0, none⟩ (Value.bool vB)).setCell ⟨pr, 1, none⟩ (Value.slice vxO vxL vxC)).setCell ⟨pr, 2, none⟩ (Value.slice vyO vyL vyC) := ⟨_, rfl⟩
 rw [← hwE]
 replace hv := hv.set3 (u0 := (Value.bool vB)) (u1 := (Value.slice vxO vxL vxC)) (u2 := (Value.slice vyO vyL vyC)) hbr; rw [← hwE] at hv
 replace hbz := hbz.set3o (u0 := (Value.bool vB)) (u1 := (Value.slice vxO vxL vxC)) (u2 := (Value.slice vyO vyL vyC)) (show pz ≠ pr by have := HP.out; omega); rw [← hwE] at hbz
 replace hbf := below_set3 (u0 := (Value.bool vB)) (u1 := (Value.slice vxO vxL vxC)) (u2 := (Value.slice vyO vyL vyC)) hbf (show w.heap.size ≤ pr by have := HP.out; omega); rw [← hwE] at hbf
 replace hbr := hbr.set3 (u0 := (Value.bool vB)) (u1 := (Value.slice vxO vxL vxC)) (u2 := (Value.slice vyO vyL vyC)); rw [← hwE] at hbr; clear hwE
 have er0 := hbr.c0
 have er1 := hbr.c1
 have er2 := hbr.c2
 (try go_wp2_with fail)
 exact bodyPost_ret (v := .agg #[.bool vB, .slice vxO vxL vxC, .slice vyO vyL vyC]) (by simp [results, Tryz.results44, go_sem, er0, er1, er2]) rfl ⟨_, rfl, hv, hbf⟩
def togE (agg : List UInt8) (qs : List Rat) (m : Nat) : Rat :=
 if agg = [77, 73, 78] then (pkL (-1) qs).1 else if agg = [77, 65, 88] then (pkL 1 qs).1 else if agg = [65, 86, 69, 82, 65, 71, 69] then qsumL qs / ((m : Int) : Rat) else qsumL qs
theorem int_qb (m : Nat) (h : m ≤ 1000000) : QB ((m : Int) : Rat) 2 := by
 refine ⟨limbs_bits (Nat.lt_of_le_of_lt ?_ (show 1000000 < 2 ^ (32 * 2) by decide)), limbs_bits ?_⟩
 ·rw [Rat.num_intCast]; simpa using h
 ·rw [Rat.den_intCast]; decide
theorem together_any (v : Value) (e : EE) (bo : Option Addr) (bc : Nat) (no : Option Addr) (nc : Nat) (lo : Option Addr) (lc : Nat) (va : Value) (qs : List Rat) (m : Nat) (q9 : Rat) (w : World) (h : EnsIs w v e bo bc no nc lo lc) (hrow : RatRow w va qs w.heap.size w.heap.size) (hag : Hid (e.agg ∈ aggW)) (hx : ∀ q ∈ qs, QB q 700) (hs : ∀ pre, pre <+: qs → QB (qsumL pre) 20000) (hlen : qs.length ≤ 1000000) (hm1 : 1 ≤ m) (hm2 : m ≤ 1000000) (hq9 : Hid (togE e.agg qs m = q9)) :
  Calls Tryz.prog 44 #[v, va, .int .i64 (m : Int)] w (QPost w q9) := by
 have hin := hag.out
 have hq := hq9.out
 unfold togE at hq
 simp only [aggW, List.mem_cons, List.not_mem_nil, or_false] at hin
 rcases hin with ha | ha | ha | ha
 ·rw [if_neg (by rw [ha]; decide), if_neg (by rw [ha]; decide), if_neg (by rw [ha]; decide)] at hq
  rw [← hq]
  exact together_sum v e bo bc no nc lo lc va qs m w h hrow (Lib.hid ha) hx hs hlen
 ·rw [if_neg (by rw [ha]; decide), if_neg (by rw [ha]; decide), if_pos ha] at hq
  rw [← hq]
  exact together_avg v e bo bc no nc lo lc va qs m w h hrow (Lib.hid ha) hx hs hlen (by omega) (by omega) (int_qb m hm2) (by
   intro h0
   have h1 : ((m : Int) : Rat).num = (0 : Rat).num := by rw [h0]
   rw [Rat.num_intCast] at h1
   have h2 : (0 : Rat).num = 0 := rfl
   rw [h2] at h1
   omega)
 ·rw [if_pos ha] at hq
  exact together_least v e bo bc no nc lo lc va qs m q9 w h hrow (Lib.hid ha) hx hs hlen (Lib.hid hq)
 ·rw [if_neg (by rw [ha]; decide), if_pos ha] at hq
  exact together_most v e bo bc no nc lo lc va qs m q9 w h hrow (Lib.hid ha) hx hs hlen (Lib.hid hq)
end Go.Proofs.YtieffhkfefimeaaGreatDoor
namespace Go.Proofs.YtieffhkfefimeaaGreatDoor

def lfE (ns : List EN) (row : List Nat) (t : Int) : EN := ns[placeE ns row ((rootE ns t).getD 0)]!
def giveO (ls : List EL) (k : Int) (y : EN) : Option Rat := if weightsE ls y.tree y.node k = [] then none else some (qsumL (numsOf (weightsE ls y.tree y.node k)))
def giveL (ls : List EL) (lvs : List EN) (k : Int) : List Rat := lvs.filterMap (giveO ls k)
def togQ (e : EE) (row : List Nat) (k : Nat) : Rat := togE e.agg (giveL e.leaves ((treesE e.nodes).map (lfE e.nodes row)) (k : Int)) (treesE e.nodes).length
def scoreQ (e : EE) (row : List Nat) (k : Nat) : Rat := if e.base = [] then togQ e row k else togQ e row k + dval' 8 23 (e.base[k]?.getD 0)
def scoreT (e : EE) (row : List Nat) (n : Nat) : List (List UInt8) := (List.range n).map (fun k => qtext (scoreQ e row k))
theorem scoreT_succ (e : EE) (row : List Nat) (n : Nat) : scoreT e row (n + 1) = scoreT e row n ++ [qtext (scoreQ e row n)] := by
 unfold scoreT; rw [List.range_succ, List.map_append]; rfl
theorem scoreT_len (e : EE) (row : List Nat) (n : Nat) : (scoreT e row n).length = n := by unfold scoreT; simp
theorem giveL_none {ls : List EL} {lvs : List EN} {k : Int} {y : EN} (h : weightsE ls y.tree y.node k = []) : giveL ls (lvs ++ [y]) k = giveL ls lvs k := by
 unfold giveL; rw [List.filterMap_append]; simp [giveO, h]
theorem giveL_some {ls : List EL} {lvs : List EN} {k : Int} {y : EN} (h : weightsE ls y.tree y.node k ≠ []) : giveL ls (lvs ++ [y]) k = giveL ls lvs k ++ [qsumL (numsOf (weightsE ls y.tree y.node k))] := by
 unfold giveL; rw [List.filterMap_append]; simp [giveO, h]
theorem giveL_len (ls : List EL) (lvs : List EN) (k : Int) : (giveL ls lvs k).length ≤ lvs.length := List.length_filterMap_le _ _
theorem weightsE_len (ls : List EL) (t n g : Int) : (weightsE ls t n g).length ≤ ls.length := by
 unfold weightsE; rw [List.length_map]; exact List.length_filter_le _ _
theorem giveL_dy {ls : List EL} {lvs : List EN} {k : Int} : ∀ q ∈ giveL ls lvs k, DY ls.length q := by
 intro q hq
 obtain ⟨y, _, hy⟩ := List.mem_filterMap.1 hq
 unfold giveO at hy
 split at hy
 ·cases hy
 ·cases hy
  refine DY.mono (DY.sum (K := 1) _ (fun q hq => ?_)) ?_
  ·obtain ⟨b, _, rfl⟩ := List.mem_map.1 hq
   exact DY.dval b
  ·unfold numsOf
   rw [List.length_map, Nat.mul_one]
   exact weightsE_len _ _ _ _
theorem giveL_qb {ls : List EL} {lvs : List EN} {k : Int} (h : ls.length ≤ 2000) : ∀ q ∈ giveL ls lvs k, QB q 700 := fun q hq => ((giveL_dy q hq).qb (by omega)).mono (by decide)
theorem giveL_pre {ls : List EL} {lvs : List EN} {k : Int} (h : ls.length ≤ 2000) (hl : lvs.length ≤ 2000) : ∀ pre, pre <+: giveL ls lvs k → QB (qsumL pre) 20000 := by
  intro pre hp
  have h1 := DY.sum (K := 2000) pre (fun q hq => (giveL_dy q (hp.subset hq)).mono h)
  have h2 := hp.length_le
  have h3 := giveL_len ls lvs k
  exact (h1.qb (by have : pre.length ≤ 2000 := by omega
                   have := Nat.mul_le_mul_right 2000 this
                   omega)).mono (by decide)
theorem togE_qb {agg : List UInt8} {qs : List Rat} {m : Nat} (hx : ∀ q ∈ qs, QB q 700) (hs : ∀ pre, pre <+: qs → QB (qsumL pre) 20000) (hm1 : 1 ≤ m) (hm : m ≤ 1000000) : QB (togE agg qs m) 20002 := by
 unfold togE
 split
 ·exact (pkL_qb hx (List.prefix_refl _)).mono (by decide)
 ·split
  ·exact (pkL_qb hx (List.prefix_refl _)).mono (by decide)
  ·split
   ·refine (hs qs (List.prefix_refl _)).div (int_qb m hm) ?_
    intro h0
    have h1 : ((m : Int) : Rat).num = (0 : Rat).num := by rw [h0]
    rw [Rat.num_intCast] at h1
    have h2 : (0 : Rat).num = 0 := rfl
    rw [h2] at h1
    omega
   ·exact (hs qs (List.prefix_refl _)).mono (by decide)
theorem rootE_lt {ns : List EN} {t : Int} (h : 0 < ns.length) : (rootE ns t).getD 0 < ns.length := by
 unfold rootE
 cases hq : ns.findIdx? (fun n => decide (n.tree = t) && !behindE ns t n.node) with
 | none => exact h
 | some k => exact (List.findIdx?_eq_some_iff_getElem.1 hq).1
end Go.Proofs.YtieffhkfefimeaaGreatDoor
namespace Go.Proofs.YtieffhkfefimeaaGreatDoor
open Go.RowKit Go.Shelf


def NodeAt (w : World) (b off p : Nat) (y : EN) : Prop := ∀ j c, (enC y)[j]? = some c → w.cell? ⟨b, off + p * 8 + j, none⟩ = some c
theorem NodeAt.c8 {w : World} {b off p : Nat} {y : EN} (h : NodeAt w b off p y) :
  w.cell? ⟨b, off + p * 8, none⟩ = some (.int .i64 y.tree) ∧ w.cell? ⟨b, off + p * 8 + 1, none⟩ = some (.int .i64 y.node) ∧ w.cell? ⟨b, off + p * 8 + 2, none⟩ = some (.int .i64 y.feat) ∧ w.cell? ⟨b, off + p * 8 + 3, none⟩ = some (.int .i64 y.mode) ∧ w.cell? ⟨b, off + p * 8 + 4, none⟩ = some (.int .u64 (y.val : Int)) ∧ w.cell? ⟨b, off + p * 8 + 5, none⟩ = some (.int .i64 y.tru) ∧ w.cell? ⟨b, off + p * 8 + 6, none⟩ = some (.int .i64 y.fls) ∧ w.cell? ⟨b, off + p * 8 + 7, none⟩ = some (.bool y.trk) :=
 ⟨h 0 _ rfl, h 1 _ rfl, h 2 _ rfl, h 3 _ rfl, h 4 _ rfl, h 5 _ rfl, h 6 _ rfl, h 7 _ rfl⟩
theorem NodeAt.below {w W : World} {b off p : Nat} {y : EN} (h : NodeAt w b off p y) (hb : Below w.heap.size w W) : NodeAt W b off p y := fun j c hj => by
 have h1 := h j c hj
 exact (hb.cell (p := ⟨b, off + p * 8 + j, none⟩) (World.block_lt_of_cell? w ⟨b, off + p * 8 + j, none⟩ h1)).trans h1
theorem EQ : ElemK Tryz.prog 96 81 (.agg #[.bool false, .slice none 0 0, .slice none 0 0]) 3 56 := elemK_of Tryz.underlying96 (by kernel_rfl) (by kernel_rfl) (by decide)
theorem notIS_b (b : Bool) : NotIS (.bool b) := ⟨fun k n h => (by cases h), fun t h => (by cases h)⟩
theorem notIS_s (o : Option Addr) (l c : Nat) : NotIS (.slice o l c) := ⟨fun k n h => (by cases h), fun t h => (by cases h)⟩
theorem EQ_hz : ∀ c ∈ (Value.agg #[.bool false, .slice none 0 0, .slice none 0 0]).cells, NotIS c := by
 intro c hc
 have h : c = .bool false ∨ c = .slice none 0 0 := by simpa [Value.cells] using hc
 rcases h with rfl | rfl
 ·exact notIS_b _
 ·exact notIS_s _ _ _
theorem three_hu (b : Bool) (o1 : Option Addr) (l1 c1 : Nat) (o2 : Option Addr) (l2 c2 : Nat) : ∀ u ∈ (#[Value.bool b, .slice o1 l1 c1, .slice o2 l2 c2] : Array Value).toList, NotIS u := by
 intro u hu
 simp at hu
 rcases hu with rfl | rfl | rfl
 ·exact notIS_b _
 ·exact notIS_s _ _ _
 ·exact notIS_s _ _ _
theorem three_one (b : Bool) (o1 : Option Addr) (l1 c1 : Nat) (o2 : Option Addr) (l2 c2 : Nat) : ∀ u ∈ (#[Value.bool b, .slice o1 l1 c1, .slice o2 l2 c2] : Array Value).toList, u.oneCell' = true := by
 intro u hu
 simp at hu
 rcases hu with rfl | rfl | rfl <;> rfl
def stv (ls : List (List UInt8)) : List Value := ls.map fun l => .string ⟨l.toArray⟩
theorem stv_len (ls : List (List UInt8)) : (stv ls).length = ls.length := by unfold stv; simp
theorem E_txt : Elem Tryz.prog 37 9 (.string ⟨#[]⟩) 16 := elem_of Tryz.underlying37 (by kernel_rfl) rfl
theorem base_len {e : EE} (h : checkE e = 0) (hb : e.base ≠ []) : (e.base.length : Int) = e.tgts := by
 have h1 : baseE e = true := (check_ok h).base
 unfold baseE at h1
 rw [Bool.and_eq_true, Bool.or_eq_true, decide_eq_true_eq, decide_eq_true_eq] at h1
 rcases h1.1 with h | h
 ·exact absurd (List.eq_nil_of_length_eq_zero h) hb
 ·exact h
set_option maxHeartbeats 8000000 in
theorem score_ok (v : Value) (e : EE) (bo : Option Addr) (bc : Nat) (no : Option Addr) (nc : Nat) (lo : Option Addr) (lc : Nat) (ro : Option Addr) (rc : Nat) (row : List Nat) (w : World) (h : EnsIs w v e bo bc no nc lo lc) (hrl : row.length ≤ rc) (hrx : rc ≤ maxLen) (hrow : Cells .u64 w ro row) (hrm : ∀ x ∈ row, x < 18446744073709551616) (hc : Hid (checkE e = 0)) (Hrf : Hid ((row.length : Int) = e.feats)) (Hrf2 : Hid (e.feats ≤ row.length)) (hn1 : 1 ≤ e.nodes.length) (hn2 : e.nodes.length ≤ 2000) (hl2 : e.leaves.length ≤ 2000) (n9 : Nat) (Hn9 : Hid ((n9 : Int) = e.tgts)) (hn9 : n9 ≤ 20) (htl1 : (treesE e.nodes).length ≤ 2000) (htl0 : 1 ≤ (treesE e.nodes).length) (Hag : Hid (e.agg ∈ aggW)) :
  Calls Tryz.prog 13 #[v, .slice ro row.length rc] w fun e9 w' => ∃ r, e9 = .returned (.tuple #[r, .int .i64 0]) ∧ Owns w.heap.size 9 w' r (stv (scoreT e row n9)) ∧ Below w.heap.size w w' := by
 obtain ⟨rfl, h1, h2, h4, h5, h3, h6, h7, h8, h9⟩ := h
 obtain ⟨w0, hw0, hbf, pe, hpe, hbe⟩ := boxE w e bo bc no nc lo lc
 have HP : Hid (w.heap.size ≤ pe) := Lib.hid (by omega)
 have HW := Lib.hid hw0; clear hw0
 go_enter Tryz.func13, Tryz.ntmps13
 go_upto_region 1 with fail
 rw [← HW.out, ← hpe]
 clear hpe HW
 have hE : EnsIs w0 (ensV e bo bc no nc lo lc) e bo bc no nc lo lc := EnsIs.below ⟨rfl, h1, h2, h4, h5, h3, h6, h7, h8, h9⟩ hbf
 replace hrow := hrow.below hbf
 have hC := check_any _ e _ _ _ _ _ _ w0 hE (by omega) 0 hc
 obtain ⟨ee0, ee1, ee2, ee3, ee4, ee5, ee6⟩ := hbe.c7
 go_upto_region 2 with (go_at_call 39; refine hC.mono ?_; rintro e9 w1 ⟨rfl, hb⟩)
 replace hE := hE.below hb
 replace hrow := hrow.below hb
 clear ee0 ee1 ee2 ee3 ee4 ee5 ee6
 replace hbe := hbe.kept hb
 replace hbf := hbf.trans (hb.mono hbf.size)
 clear hb hC
 have hrf := Hrf.out
 have hT := trees_any _ e _ _ _ _ _ _ w1 hE (by omega)
 obtain ⟨ts, hts⟩ : ∃ ts, treesE e.nodes = ts := ⟨_, rfl⟩
 have HTS := Lib.hid hts
 rw [hts] at hT
 clear hts
 have qrf : ((row.length : Int) != e.feats) = false := by simp [hrf]
 clear hrf
 obtain ⟨ee0, ee1, ee2, ee3, ee4, ee5, ee6⟩ := hbe.c7
 go_upto_region 7 with (go_at_call 40; refine hT.mono ?_; rintro e9 w2 ⟨r9, rfl, hO, hb⟩; have hI9 := (ints_of_owns hO).1; obtain ⟨tao, tcp, rfl, htc1, htc2, _⟩ := OwnsK.slice (K := 1) hO; rw [ivals_length] at *)
 replace hE := hE.below hb
 replace hrow := hrow.below hb
 clear ee0 ee1 ee2 ee3 ee4 ee5 ee6
 replace hbe := hbe.kept hb
 replace hbf := hbf.trans (hb.mono hbf.size)
 clear hb hT qrf hO
 unfold maxLen at htc2
 have htl := Nat.le_trans htc1 htc2
 have htn : ts.length ≤ 2000 := by rw [← HTS.out]; exact htl1
 have Hpe2 := Lib.hid hbe.lt
 have Hsz2 := Lib.hid hbf.size
 go_wp2_with fail
 go_loopg [9, 40] ts.length (fun gg lv iv wr => ∃ (i : Nat), i + gg = ts.length ∧ iv = .int .i64 (i : Int) ∧ OwnsK 8 w2.heap.size 55 wr lv i (((ts.take i).map (lfE e.nodes row)).flatMap enC) ∧ Below w2.heap.size w2 wr)
 case atStart => exact ⟨0, by omega, rfl, OwnsK.nil _ _ _ _, Below.refl _ _⟩
 case round =>
  obtain ⟨i, hi, rfl, hO, hbr⟩ := hrel
  by_cases hil : i < ts.length
  ·have hz : (i : Int) < (ts.length : Int) := by omega
   have hz0 : (0 : Int) ≤ (i : Int) := by omega
   obtain ⟨tb, toff, rfl, htb, htc⟩ := hI9.at'.2 i hil
   obtain ⟨t, ht⟩ : ∃ t, ts[i] = t := ⟨_, rfl⟩
   rw [List.getElem?_eq_getElem hil, Option.getD_some, ht] at htc
   have ct := (hbr.cell (p := ⟨tb, toff + i, none⟩) htb).trans htc
   have Ht := Lib.hid ht
   clear ht htc
   replace hbe := hbe.kept hbr
   replace hE := hE.below hbr
   replace hrow := hrow.below hbr
   obtain ⟨g, hg⟩ : ∃ g, (rootE e.nodes t).getD 0 = g := ⟨_, rfl⟩
   have hgl : g < e.nodes.length := by rw [← hg]; exact rootE_lt (by omega)
   have HG := Lib.hid hg
   clear hg
   obtain ⟨b9, hb9⟩ : ∃ b, (rootE e.nodes t).isSome = b := ⟨_, rfl⟩
   have hR := root_any _ e _ _ _ _ _ _ t wr hE (by omega) g b9 HG (Lib.hid hb9)
   clear hb9
   obtain ⟨ee0, ee1, ee2, ee3, ee4, ee5, ee6⟩ := hbe.c7
   go_wp2_with (go_at_call 41; refine hR.mono ?_; rintro e9 w3 ⟨rfl, hb⟩)
   clear ee0 ee1 ee2 ee3 ee4 ee5 ee6
   replace hbe := hbe.kept hb
   replace hE := hE.below hb
   replace hrow := hrow.below hb
   replace hO := hO.kept hb
   replace hbr := hbr.trans (hb.mono hbr.size)
   clear hb hR ct
   obtain ⟨p, hp⟩ : ∃ p, placeE e.nodes row g = p := ⟨_, rfl⟩
   have hpl := (placeE_ok hc.out row hgl).1
   rw [hp] at hpl
   have HPL := Lib.hid hp
   obtain ⟨y, hy⟩ : ∃ y, e.nodes[p] = y := ⟨_, rfl⟩
   have HY : Hid (lfE e.nodes row t = y) := Lib.hid (by unfold lfE; rw [HG.out, hp, getElem!_pos e.nodes p hpl, hy])
   have HPL2 := Lib.hid hpl
   obtain ⟨nb, noff, rfl⟩ := h2.addr hpl
   have hNd : NodeAt w3 nb noff p y := by
    have h10 := hE.nodes.get hpl
    rw [hy] at h10
    exact h10.2
   clear hp hy
   have hzp : (p : Int) < (e.nodes.length : Int) := by omega
   have hzp0 : (0 : Int) ≤ (p : Int) := by omega
   refine wp_region_seq (S := fun w' => BoxL w' pe [.int .i64 e.feats, .int .i64 e.tgts, .string ⟨e.agg.toArray⟩, .string ⟨e.post.toArray⟩, .slice bo e.base.length bc, .slice (some ⟨nb, noff, none⟩) e.nodes.length nc, .slice lo e.leaves.length lc] ∧ NodeAt w' nb noff p y) [(true, 0), (true, 1), (true, 2), (true, 3), (true, 4), (true, 5), (false, 6), (true, 7), (true, 8), (false, 9), (false, 10), (true, 11)] (by kernel_rfl) (by kernel_rfl) (by kernel_rfl) (by kernel_rfl) (by kernel_rfl) (fun d _ _ _ _ h => by cases d <;> exact h) ⟨hbe.drew, hNd.below (Below.refl _ _).drew⟩ (fun _ => ?_)
   simp only [pickOps, List.append_eq, List.cons_append, List.nil_append, List.getElem?_toArray, List.getElem?_cons_succ, List.getElem?_cons_zero]
   have hb : Below w3.heap.size w3 w3.drew := (Below.refl _ _).drew
   generalize w3.drew = w4 at hb ⊢
   replace hbe := hbe.kept hb
   replace hE := hE.below hb
   replace hrow := hrow.below hb
   replace hO := hO.kept hb
   replace hbr := hbr.trans (hb.mono hbr.size)
   replace hNd := hNd.below hb
   clear hb
   repeat (first | (refine seq_take (v := ?_) (by rfl) ?_ ?_; rotate_left; (· intro w hSw; (try dsimp only at hSw); obtain ⟨hLx, hNx⟩ := hSw; obtain ⟨ee0, ee1, ee2, ee3, ee4, ee5, ee6⟩ := hLx.c7; obtain ⟨c0, c1, c2, c3, c4, c5, c6, c7⟩ := hNx.c8; clear hLx hNx; go_simp; all_goals with_reducible rfl); (try simp only [Act.put, List.setIfInBounds_toArray, List.set_cons_zero, List.set_cons_succ])) | (refine seq_leave (by rfl) ?_; (try simp only [Act.put, List.setIfInBounds_toArray, List.set_cons_zero, List.set_cons_succ])))
   refine seq_step (by rfl) (fun K hK => ?_)
   go_simp
   go_at_call 42
   (with_reducible refine (place_any _ e _ _ _ _ _ _ ro rc row g p w4 hE hrl hrx hrow hrm Hrf2.out hgl hc HPL).mono ?_)
   rintro e9 w5 ⟨rfl, hb⟩
   replace hbe := hbe.kept hb
   replace hE := hE.below hb
   replace hrow := hrow.below hb
   replace hO := hO.kept hb
   replace hbr := hbr.trans (hb.mono hbr.size)
   replace hNd := hNd.below hb
   clear hb
   first | refine hK.out _ _ ⟨hbe, hNd⟩ (fun _ => ?_) | (go_wp2_with fail; refine hK.out _ _ ⟨hbe, hNd⟩ (fun _ => ?_))
   clear hK K
   (try simp only [Act.put, List.setIfInBounds_toArray, List.set_cons_zero, List.set_cons_succ])
   repeat (first | (refine seq_take (v := ?_) (by rfl) ?_ ?_; rotate_left; (· intro w hSw; (try dsimp only at hSw); obtain ⟨hLx, hNx⟩ := hSw; obtain ⟨ee0, ee1, ee2, ee3, ee4, ee5, ee6⟩ := hLx.c7; obtain ⟨c0, c1, c2, c3, c4, c5, c6, c7⟩ := hNx.c8; clear hLx hNx; go_simp; all_goals with_reducible rfl); (try simp only [Act.put, List.setIfInBounds_toArray, List.set_cons_zero, List.set_cons_succ])) | (refine seq_leave (by rfl) ?_; (try simp only [Act.put, List.setIfInBounds_toArray, List.set_cons_zero, List.set_cons_succ])))
   refine seq_step (by rfl) (fun K hK => ?_)
   go_simp
   obtain ⟨w6, hwE, hb, pn9, hpE, hbn⟩ := boxN w5 y
   rw [← hwE, ← hpE]
   clear hwE hpE
   replace hbe := hbe.kept hb
   replace hE := hE.below hb
   replace hrow := hrow.below hb
   replace hO := hO.kept hb
   replace hbr := hbr.trans (hb.mono hbr.size)
   replace hNd := hNd.below hb
   clear hb
   refine hK.out _ _ ⟨hbe, hNd⟩ (fun _ => ?_)
   clear hK K
   (try simp only [Act.put, List.setIfInBounds_toArray, List.set_cons_zero, List.set_cons_succ])
   refine seq_step (by rfl) (fun K hK => ?_)
   obtain ⟨v9, w7, hrun, hO9, hg9, hr9, -⟩ := run_appendK E_en 30 hO ⟨pn9, 0, none⟩ 1 (enC y) rfl (fun j u hj => by rw [Addr.add_lit, Nat.zero_add]; exact hbn.cell j u hj) (enC_one _) (by omega) (by unfold maxLen; omega) hbr.size
   refine step_run_append rfl rfl rfl hrun ?_
   have hne : ∀ k, k < w2.heap.size → some k ≠ Value.ownBlock u9 := fun k hk h => by have := (hO.lt k h.symm).1; omega
   replace hbe := hbe.block (hg9.block pe hbe.lt (hne pe Hpe2.out))
   have hnbl : nb < w2.heap.size := Nat.lt_of_lt_of_le (h2.get HPL2.out).1 Hsz2.out
   replace hNd : NodeAt w7 nb noff p y := fun j c hj => (World.cell?_of_block (w := w6) (a := ⟨nb, noff + p * 8 + j, none⟩) (hg9.block nb (Nat.lt_of_lt_of_le hnbl hbr.size) (hne nb hnbl))).trans (hNd j c hj)
   replace hbr := hbr.grown hg9 hbr.size (fun j hj => (hO.lt j hj).1)
   have hN9 : ((ts.take i).map (lfE e.nodes row)).flatMap enC ++ enC y = ((ts.take (i + 1)).map (lfE e.nodes row)).flatMap enC := by
    rw [List.take_add_one, List.getElem?_eq_getElem hil, Ht.out, List.map_append, List.flatMap_append]
    simp [HY.out]
   rw [hN9] at hO9
   clear hN9 hne hrun hr9 hg9 hbn hO
   refine hK.out _ _ ⟨hbe, hNd⟩ (fun _ => ?_)
   clear hK K
   (try simp only [Act.put, List.setIfInBounds_toArray, List.set_cons_zero, List.set_cons_succ])
   repeat (first | (refine seq_take (v := ?_) (by rfl) ?_ ?_; rotate_left; (· intro w hSw; (try dsimp only at hSw); obtain ⟨hLx, hNx⟩ := hSw; obtain ⟨ee0, ee1, ee2, ee3, ee4, ee5, ee6⟩ := hLx.c7; obtain ⟨c0, c1, c2, c3, c4, c5, c6, c7⟩ := hNx.c8; clear hLx hNx; go_simp; all_goals with_reducible rfl); (try simp only [Act.put, List.setIfInBounds_toArray, List.set_cons_zero, List.set_cons_succ])) | (refine seq_leave (by rfl) ?_; (try simp only [Act.put, List.setIfInBounds_toArray, List.set_cons_zero, List.set_cons_succ])))
   refine seq_end ?_
   clear hNd hbe hE hrow
   go_wp2_with fail
   go_roundg (gk - 1)
   case measure => omega
   case rel => exact ⟨i + 1, by omega, by go_num, hO9, hbr⟩
  ·obtain rfl : i = ts.length := by omega
   rw [List.take_of_length_le (Nat.le_refl _)] at hO
   obtain ⟨lvs, hlvs⟩ : ∃ l, ts.map (lfE e.nodes row) = l := ⟨_, rfl⟩
   have hll : lvs.length = ts.length := by rw [← hlvs, List.length_map]
   rw [hlvs] at hO
   have HLV := Lib.hid hlvs
   clear hlvs
   obtain ⟨lao, lcap, rfl, hlc1, hlc2, _⟩ := OwnsK.slice hO
   have hLR : RowC 8 enC wr lao lvs := OwnsK.toRow enC_len hO hll.symm
   have HLL := Lib.hid hll
   replace hbe := hbe.kept hbr
   replace hE := hE.below hbr
   replace hbf := hbf.trans (hbr.mono hbf.size)
   obtain ⟨w3, hw3⟩ : ∃ x, x = wr := ⟨_, rfl⟩
   subst hw3
   clear hO hbr hI9 hrow hi hil hll
   have ee1 := hbe.cell 1 _ rfl
   go_wp2_with fail
   clear ee1
   have Hpe3 := Lib.hid hbe.lt
   go_loopg [14, 64] n9 (fun gg ov iv wr => ∃ (k : Nat), k + gg = n9 ∧ iv = .int .i64 (k : Int) ∧ Owns w3.heap.size 9 wr ov (stv (scoreT e row k)) ∧ Below w3.heap.size w3 wr)
   case atStart => exact ⟨0, by omega, rfl, OwnsK.nil _ _ _ _, Below.refl _ _⟩
   case round =>
    obtain ⟨k, hk, rfl, hO2, hbr⟩ := hrel
    by_cases hkn : k < n9
    ·have hz : (k : Int) < e.tgts := by have := Hn9.out; omega
     have hz0 : (0 : Int) ≤ (k : Int) := by omega
     have hk20 : k ≤ 20 := by omega
     replace hbe := hbe.kept hbr
     replace hE := hE.below hbr
     replace hLR := hLR.below (B := 0) hbr
     have hbf4 := hbf.trans (hbr.mono hbf.size)
     obtain ⟨w4, hw4⟩ : ∃ x, x = wr := ⟨_, rfl⟩
     subst hw4
     obtain ⟨go1, hgo⟩ : ∃ go, go = gk := ⟨_, rfl⟩
     subst hgo
     go_wp2_with fail
     have Hpe4 := Lib.hid hbe.lt
     go_loopg [16, 69] ts.length (fun gg lv iv wr => ∃ (j : Nat) (xs : List Value), j + gg = ts.length ∧ iv = .int .i64 (j : Int) ∧ QRow w4.heap.size wr lv (giveL e.leaves (lvs.take j) (k : Int)) xs ∧ Below w4.heap.size w4 wr)
     case atStart => exact ⟨0, [], by omega, rfl, QRow.nil _ _, Below.refl _ _⟩
     case round =>
      obtain ⟨j, xs, hj, rfl, hQ, hbr3⟩ := hrel
      by_cases hjl : j < ts.length
      ·have hy0 : j < lvs.length := by rw [HLL.out]; exact hjl
       have hzj : (j : Int) < (ts.length : Int) := by omega
       have hzj0 : (0 : Int) ≤ (j : Int) := by omega
       obtain ⟨lb, loff, rfl⟩ := hLR.addr hy0
       obtain ⟨y, hy⟩ : ∃ y, lvs[j] = y := ⟨_, rfl⟩
       obtain ⟨c0, c1, c2, c3, c4, c5, c6, c7⟩ := RowC.c8 hLR hbr3 hy0 y hy
       have HTK : Hid (lvs.take (j + 1) = lvs.take j ++ [y]) := Lib.hid (by rw [List.take_add_one, List.getElem?_eq_getElem hy0, hy]; rfl)
       clear hy
       replace hbe := hbe.kept hbr3
       replace hE := hE.below hbr3
       obtain ⟨w5, hwE, hb2, px, hpE, hbx⟩ := boxN wr y
       have HW := Lib.hid hwE; clear hwE
       go_upto_region 22 with fail
       rw [← HW.out, ← hpE]
       have Hpx := Lib.hid (Nat.le_of_eq hpE.symm)
       clear HW hpE
       clear c0 c1 c2 c3 c4 c5 c6 c7
       replace hbe := hbe.kept hb2
       replace hE := hE.below hb2
       obtain ⟨ws, hws⟩ : ∃ l, weightsE e.leaves y.tree y.node (k : Int) = l := ⟨_, rfl⟩
       have HWS := Lib.hid hws
       clear hws
       have hG := gives_any _ e _ _ _ _ _ _ y.tree y.node (k : Int) ws w5 hE HWS (by omega)
       obtain ⟨b9, hb9⟩ : ∃ b, decide (ws ≠ []) = b := ⟨_, rfl⟩
       rw [hb9] at hG
       have HB9 := Lib.hid hb9
       clear hb9
       have hbr5 := hbr3.trans (hb2.mono hbr3.size)
       obtain ⟨ee0, ee1, ee2, ee3, ee4, ee5, ee6⟩ := hbe.c7
       obtain ⟨ex0, ex1, ex2, ex3, ex4, ex5, ex6, ex7⟩ := hbx.c8
       go_upto_region 23 with (go_at_call 43; refine hG.mono ?_; rintro e9 w6 ⟨r9, rfl, hr, hb⟩; obtain ⟨rB, rxO, rxL, rxC, ryO, ryL, ryC, rfl, hS9, hx9, hy9⟩ := hr.form; clear hS9 hx9 hy9; obtain ⟨w7, hwE⟩ : ∃ W, W = w6.alloc (.cells #[.bool rB, .slice rxO rxL rxC, .slice ryO ryL ryC] 81) := ⟨_, rfl⟩; have hb7 : Below w6.heap.size w6 w7 := (by rw [hwE]; exact (Below.refl _ w6).alloc (Nat.le_refl _) _); obtain ⟨pz, hpE⟩ : ∃ p, p = w6.heap.size := ⟨_, rfl⟩; have hbz : Box3 w7 pz (.bool rB) (.slice rxO rxL rxC) (.slice ryO ryL ryC) := (by rw [hwE, hpE]; exact ⟨by go_simp, by go_simp, by go_simp, by go_simp, by go_simp, by go_simp⟩); have HW := Lib.hid hwE; clear hwE)
       rw [← HW.out, ← hpE]
       have Hpz := Lib.hid (Nat.le_of_eq hpE.symm)
       clear HW hpE
       clear ee0 ee1 ee2 ee3 ee4 ee5 ee6 ex0 ex1 ex2 ex3 ex4 ex5 ex6 ex7
       clear hG
       replace hr := hr.below hb7
       have hbz7 := hb.trans (hb7.mono hb.size)
       replace hbe := hbe.kept hbz7
       replace hE := hE.below hbz7
       have hbr7 := hbr5.trans (hbz7.mono hbr5.size)
       clear hbx hbr5
       have hwr7 : Below wr.heap.size wr w7 := hb2.trans (hbz7.mono hb2.size)
       have hQ7 := hQ.keepN (hQ.own.kept hwr7) (KeepNat.below hwr7) (fun g hg => hwr7.block g (hQ.own.lt g hg).2)
       have hgl := giveL_len e.leaves (lvs.take j) (k : Int)
       rw [List.length_take] at hgl
       have hgn : (giveL e.leaves (lvs.take j) (k : Int)).length ≤ 2000 := by omega
       clear hQ hwr7 hgl hb hb2 hb7 hbz7
       cases b9
       ·have hw0 : weightsE e.leaves y.tree y.node (k : Int) = [] := by
         rw [HWS.out]
         have := HB9.out
         simpa using this
        have HN := Lib.hid (giveL_none (lvs := lvs.take j) hw0)
        clear hw0
        go_wp2_with fail
        go_roundg (gk - 1)
        case measure => omega
        case rel => exact ⟨j + 1, xs, by omega, by go_num, by rw [HTK.out, HN.out]; exact hQ7, hbr7⟩
       ·have hw0 : weightsE e.leaves y.tree y.node (k : Int) ≠ [] := by
         rw [HWS.out]
         have := HB9.out
         simpa using this
        have HN := Lib.hid (giveL_some (lvs := lvs.take j) hw0)
        clear hw0
        have ez0 := hbz.c0
        have ez1 := hbz.c1
        have ez2 := hbz.c2
        go_wp2_with (at_builtin; refine append1KAt EQ hQ7.own hQ7.all (three_hu _ _ _ _ _ _ _) EQ_hz rfl rfl rfl rfl rfl (three_one _ _ _ _ _ _ _) (by omega) (by unfold maxLen; omega) hbr7.size ?_; intro v9 w8 ho9 hb9 hg9 hw9 hall9)
        go_roundg (gk - 1)
        case measure => omega
        case rel =>
         have hkk := keepIS_grown hg9 hQ7.all
         refine ⟨j + 1, xs ++ [.bool rB, .slice rxO rxL rxC, .slice ryO ryL ryC], by omega, by go_num, ?_, hbr7.trans hb9⟩
         rw [HTK.out, HN.out, HWS.out]
         exact hQ7.snoc ho9 (fun v n h => h.keepI hkk.1) (hr.keepI hkk.1) hall9
      ·obtain rfl : j = ts.length := by omega
       rw [List.take_of_length_le (Nat.le_of_eq HLL.out)] at hQ
       have hx := giveL_qb (lvs := lvs) (k := (k : Int)) hl2
       have hs := giveL_pre (lvs := lvs) (k := (k : Int)) hl2 (by rw [HLL.out]; exact htn)
       have hql := giveL_len e.leaves lvs (k : Int)
       rw [HLL.out] at hql
       obtain ⟨qs, hqs⟩ : ∃ l, giveL e.leaves lvs (k : Int) = l := ⟨_, rfl⟩
       rw [hqs] at hQ hx hs hql
       have HQS := Lib.hid hqs
       clear hqs
       have hQ9 := hQ.own
       have hrow := hQ.row (B := wr.heap.size) (pn := wr.heap.size) (Nat.le_refl _) (fun g hg => Nat.ne_of_lt (hQ9.lt g hg).2)
       obtain ⟨qo, qcap, rfl, hqc1, hqc2, _⟩ := OwnsK.slice hQ9
       replace hbe := hbe.kept hbr3
       replace hE := hE.below hbr3
       have hO3 := Owns.kept hO2 hbr3
       have hbr9 := hbr.trans (hbr3.mono hbr.size)
       clear hQ hQ9 hO2 hbr hbr3 hLR
       have hm1 : 1 ≤ ts.length := by rw [← HTS.out]; exact htl0
       have hqt := togE_qb (agg := e.agg) hx hs hm1 (show ts.length ≤ 1000000 by omega)
       obtain ⟨q1, hq1⟩ : ∃ q, togE e.agg qs ts.length = q := ⟨_, rfl⟩
       have hTg := together_any _ e _ _ _ _ _ _ (.slice qo qs.length qcap) qs ts.length q1 wr hE hrow Hag hx hs (by omega) hm1 (by omega) (Lib.hid hq1)
       rw [hq1] at hqt
       have HQ1 : Hid (togQ e row k = q1) := Lib.hid (by unfold togQ; rw [HTS.out, HLV.out, HQS.out, hq1])
       clear hq1 hrow hx hs
       clear hm1
       obtain ⟨ee0, ee1, ee2, ee3, ee4, ee5, ee6⟩ := hbe.c7
       go_upto_region 27 with (go_at_call 44; refine hTg.mono ?_; rintro e9 w5 hq9; obtain ⟨rB, rxO, rxL, rxC, ryO, ryL, ryC, rfl, hS9, hx9, hy9, hr, hb⟩ := hq9.out; clear hS9 hx9 hy9 hq9; obtain ⟨w6, hwE⟩ : ∃ W, W = w5.alloc (.cells #[.bool rB, .slice rxO rxL rxC, .slice ryO ryL ryC] 81) := ⟨_, rfl⟩; have hb7 : Below w5.heap.size w5 w6 := (by rw [hwE]; exact (Below.refl _ w5).alloc (Nat.le_refl _) _); obtain ⟨pz, hpE⟩ : ∃ p, p = w5.heap.size := ⟨_, rfl⟩; have hbz : Box3 w6 pz (.bool rB) (.slice rxO rxL rxC) (.slice ryO ryL ryC) := (by rw [hwE, hpE]; exact ⟨by go_simp, by go_simp, by go_simp, by go_simp, by go_simp, by go_simp⟩); have HW := Lib.hid hwE; clear hwE)
       rw [← HW.out, ← hpE]
       have Hpz := Lib.hid (show pe < pz ∧ w3.heap.size ≤ pz ∧ _ from ⟨by rw [hpE]; exact (hbe.kept hb).lt, by rw [hpE]; exact Nat.le_trans hbr9.size hb.size, hpE ▸ fun g hg => (OwnsK.lt (K := 1) (Owns.kept hO3 hb) g hg).2⟩)
       clear HW hpE
       clear ee0 ee1 ee2 ee3 ee4 ee5 ee6
       clear hTg
       replace hr := hr.below hb7
       have hbz7 := hb.trans (hb7.mono hb.size)
       replace hbe := hbe.kept hbz7
       have hO6 := Owns.kept hO3 hbz7
       have hbr6 := hbr9.trans (hbz7.mono hbr9.size)
       clear hO3 hbr9 hb hb7 hbz7 hE
       rcases Decidable.em (e.base = []) with Hb | Hb
       ·skip
        have qb0 : ¬ (0 : Int) < (e.base.length : Int) := by rw [Hb]; decide
        have HQ2 : Hid (scoreQ e row k = q1) := Lib.hid (by unfold scoreQ; rw [if_pos Hb]; exact HQ1.out)
        clear Hb
        have ez0 := hbz.c0
        have ez1 := hbz.c1
        have ez2 := hbz.c2
        have ee4 := hbe.cell 4 _ rfl
        have hsl : (stv (scoreT e row k)).length = k := by rw [stv_len, scoreT_len]
        have HT := Lib.hid (scoreT_succ e row k)
        have hTx := fun W h => qtext_any (.agg #[.bool rB, .slice rxO rxL rxC, .slice ryO ryL ryC]) q1 W h (hqt.mono (by decide))
        go_wp2_with (first | (go_at_call 46; refine (hTx w6 hr).mono ?_; rintro e9 w7 ⟨rfl, hb⟩; have hO7 := Owns.kept hO6 hb; have hbr7 := hbr6.trans (hb.mono hbr6.size)) | (at_builtin; refine append1 E_txt hO7 rfl rfl rfl rfl rfl (by rw [hsl]; omega) (by rw [hsl]; unfold maxLen; omega) hbr7.size ?_; intro v9 w8 ho9 hb9 hg9))
        go_roundg (go1 - 1)
        case measure => omega
        case rel => exact ⟨k + 1, by omega, by go_num, by rw [HT.out, HQ2.out]; simpa [stv] using ho9, hbr7.trans hb9⟩
       ·skip
        have hkb : k < e.base.length := by have h10 := base_len hc.out Hb; have := Hn9.out; omega
        have qb0 : (0 : Int) < (e.base.length : Int) := by omega
        have hkz9 : (k : Int) < (e.base.length : Int) := by omega
        obtain ⟨x, hx⟩ : ∃ x, e.base[k]?.getD 0 = x := ⟨_, rfl⟩
        have hx64 : x < 18446744073709551616 := by rw [← hx, List.getElem?_eq_getElem hkb]; exact h7 _ (List.getElem_mem hkb)
        have hbw := hbf.trans (hbr6.mono hbf.size)
        obtain ⟨bb, boff, rfl, hbbl, hcx⟩ : ∃ b off, bo = some ⟨b, off, none⟩ ∧ b < w6.heap.size ∧ w6.cell? ⟨b, off + k, none⟩ = some (.int .u64 (x : Int)) := by
         rcases h1.below hbw with h | ⟨b, off, h9, h10, h11⟩
         ·rw [h] at hkb; exact absurd hkb (Nat.not_lt_zero _)
         ·exact ⟨b, off, h9, h10, by rw [← hx]; exact h11 k hkb⟩
        obtain ⟨kd, hkd⟩ : ∃ c, dkind 8 23 x = c := ⟨_, rfl⟩
        obtain ⟨d, hd⟩ : ∃ d, dval' 8 23 x = d := ⟨_, rfl⟩
        have hdq := dval_qb_s hd
        have HQ2 : Hid (scoreQ e row k = q1 + d) := Lib.hid (by unfold scoreQ; rw [if_neg Hb, HQ1.out, hx, hd])
        have hDec := fun W => decode_s x kd d W (Lib.hid hkd) (Lib.hid hd) hx64
        clear hkd hd hx Hb hbw HQ1
        have ee4 := hbe.cell 4 _ rfl
        go_upto_region 28 with fail
        clear ee4
        refine wp_region_held_drew (S := fun w' => BoxL w' pe [.int .i64 e.feats, .int .i64 e.tgts, .string ⟨e.agg.toArray⟩, .string ⟨e.post.toArray⟩, .slice (some ⟨bb, boff, none⟩) e.base.length bc, .slice no e.nodes.length nc, .slice lo e.leaves.length lc] ∧ w'.cell? ⟨bb, boff + k, none⟩ = some (.int .u64 (x : Int))) (by kernel_rfl) ⟨hbe.drew, (by first | exact hcx | simpa using hcx)⟩ (fun _ => ?_)
        have hb : Below w6.heap.size w6 w6.drew := (Below.refl _ _).drew
        generalize w6.drew = w7 at hb ⊢
        replace hbe := hbe.kept hb
        replace hcx := (hb.cell (p := ⟨bb, boff + k, none⟩) hbbl).trans hcx
        replace hbbl := Nat.lt_of_lt_of_le hbbl hb.size
        replace hbz := hbz.kept hb
        replace hr := hr.below hb
        have hO7 := Owns.kept hO6 hb
        have hbr7 := hbr6.trans (hb.mono hbr6.size)
        have Hsz7 := Lib.hid hb.size
        clear hb hO6 hbr6
        (refine wpAnyH_take (i := 1) (v := ?_) rfl (by kernel_rfl) (by kernel_rfl) (by kernel_rfl) (fun _ _ _ h => h) (Or.inl ⟨by rfl, ?_⟩) ⟨hbe.kept (Below.refl _ w7), ((Below.refl _ w7).cell (p := ⟨bb, boff + k, none⟩) hbbl).trans hcx⟩ ?_; rotate_left; (· intro w hSw; (try dsimp only at hSw); obtain ⟨hL0, ecx⟩ := hSw; have ee4 := hL0.cell 4 _ rfl; clear hL0; go_simp; all_goals with_reducible rfl); (try simp only [List.getElem_toArray, List.getElem_cons_succ, List.getElem_cons_zero, Act.put, List.setIfInBounds_toArray, List.set_cons_zero, List.set_cons_succ]))
        (refine wpAnyH_take (i := 2) (v := ?_) rfl (by kernel_rfl) (by kernel_rfl) (by kernel_rfl) (fun _ _ _ h => h) (Or.inl ⟨by rfl, ?_⟩) ⟨hbe.kept (Below.refl _ w7), ((Below.refl _ w7).cell (p := ⟨bb, boff + k, none⟩) hbbl).trans hcx⟩ ?_; rotate_left; (· intro w hSw; (try dsimp only at hSw); obtain ⟨hL0, ecx⟩ := hSw; have ee4 := hL0.cell 4 _ rfl; clear hL0; go_simp; all_goals with_reducible rfl); (try simp only [List.getElem_toArray, List.getElem_cons_succ, List.getElem_cons_zero, Act.put, List.setIfInBounds_toArray, List.set_cons_zero, List.set_cons_succ]))
        (refine wpAnyH_take (i := 3) (v := ?_) rfl (by kernel_rfl) (by kernel_rfl) (by kernel_rfl) (fun _ _ _ h => h) (Or.inl ⟨by rfl, ?_⟩) ⟨hbe.kept (Below.refl _ w7), ((Below.refl _ w7).cell (p := ⟨bb, boff + k, none⟩) hbbl).trans hcx⟩ ?_; rotate_left; (· intro w hSw; (try dsimp only at hSw); obtain ⟨hL0, ecx⟩ := hSw; have ee4 := hL0.cell 4 _ rfl; clear hL0; go_simp; all_goals with_reducible rfl); (try simp only [List.getElem_toArray, List.getElem_cons_succ, List.getElem_cons_zero, Act.put, List.setIfInBounds_toArray, List.set_cons_zero, List.set_cons_succ]))
        (refine wpAnyH_take (i := 4) (v := ?_) rfl (by kernel_rfl) (by kernel_rfl) (by kernel_rfl) (fun _ _ _ h => h) (Or.inl ⟨by rfl, ?_⟩) ⟨hbe.kept (Below.refl _ w7), ((Below.refl _ w7).cell (p := ⟨bb, boff + k, none⟩) hbbl).trans hcx⟩ ?_; rotate_left; (· intro w hSw; (try dsimp only at hSw); obtain ⟨hL0, ecx⟩ := hSw; have ee4 := hL0.cell 4 _ rfl; clear hL0; go_simp; all_goals with_reducible rfl); (try simp only [List.getElem_toArray, List.getElem_cons_succ, List.getElem_cons_zero, Act.put, List.setIfInBounds_toArray, List.set_cons_zero, List.set_cons_succ]))
        (refine wpAnyH_take (i := 5) (v := ?_) rfl (by kernel_rfl) (by kernel_rfl) (by kernel_rfl) (fun _ _ _ h => h) (Or.inl ⟨by rfl, ?_⟩) ⟨hbe.kept (Below.refl _ w7), ((Below.refl _ w7).cell (p := ⟨bb, boff + k, none⟩) hbbl).trans hcx⟩ ?_; rotate_left; (· intro w hSw; (try dsimp only at hSw); obtain ⟨hL0, ecx⟩ := hSw; have ee4 := hL0.cell 4 _ rfl; clear hL0; go_simp; all_goals with_reducible rfl); (try simp only [List.getElem_toArray, List.getElem_cons_succ, List.getElem_cons_zero, Act.put, List.setIfInBounds_toArray, List.set_cons_zero, List.set_cons_succ]))
        refine wpAnyH_ready (rs := [0, 10]) (by kernel_rfl) (by simp) (AllReadyH.cons rfl (fun K hK => ?_) (AllReadyH.cons rfl (fun K hK => ?_) AllReadyH.nil))
        ·skip
         go_simp
         go_at_call 30
         refine (single_any _).mono ?_
         rintro e9 wS ⟨rfl, hb⟩
         have hBS : Below w7.heap.size w7 wS := (Below.refl w7.heap.size w7).trans (hb.mono (Below.refl w7.heap.size w7).size)
         refine hK.out _ _ ⟨hbe.kept (hBS), ((hBS).cell (p := ⟨bb, boff + k, none⟩) hbbl).trans hcx⟩ (fun _ => ?_)
         clear hK K
         (try simp only [List.getElem_toArray, List.getElem_cons_succ, List.getElem_cons_zero, Act.put, List.setIfInBounds_toArray, List.set_cons_zero, List.set_cons_succ])
         refine wpAnyH_ready (rs := [6, 10]) (by kernel_rfl) (by simp) (AllReadyH.cons rfl (fun K hK => ?_) (AllReadyH.cons rfl (fun K hK => ?_) AllReadyH.nil))
         ·skip
          go_simp
          go_at_call 31
          refine (hDec _).mono ?_
          rintro e9 wD hq9
          obtain ⟨yB, yxO, yxL, yxC, yyO, yyL, yyC, rfl, hS9, hyx, hyy, hy, hb⟩ := hq9.out
          clear hS9 hyx hyy hq9
          have hBD : Below w7.heap.size w7 wD := (hBS).trans (hb.mono (hBS).size)
          refine hK.out _ _ ⟨hbe.kept (hBD), ((hBD).cell (p := ⟨bb, boff + k, none⟩) hbbl).trans hcx⟩ (fun _ => ?_)
          clear hK K
          (try simp only [List.getElem_toArray, List.getElem_cons_succ, List.getElem_cons_zero, Act.put, List.setIfInBounds_toArray, List.set_cons_zero, List.set_cons_succ])
          (refine wpAnyH_take (i := 7) (v := ?_) rfl (by kernel_rfl) (by kernel_rfl) (by kernel_rfl) (fun _ _ _ h => h) (Or.inl ⟨by rfl, ?_⟩) ⟨hbe.kept (hBD), ((hBD).cell (p := ⟨bb, boff + k, none⟩) hbbl).trans hcx⟩ ?_; rotate_left; (· intro w hSw; (try dsimp only at hSw); obtain ⟨hL0, ecx⟩ := hSw; have ee4 := hL0.cell 4 _ rfl; clear hL0; go_simp; all_goals with_reducible rfl); (try simp only [List.getElem_toArray, List.getElem_cons_succ, List.getElem_cons_zero, Act.put, List.setIfInBounds_toArray, List.set_cons_zero, List.set_cons_succ]))
          (refine wpAnyH_take (i := 8) (v := ?_) rfl (by kernel_rfl) (by kernel_rfl) (by kernel_rfl) (fun _ _ _ h => h) (Or.inl ⟨by rfl, ?_⟩) ⟨hbe.kept (hBD), ((hBD).cell (p := ⟨bb, boff + k, none⟩) hbbl).trans hcx⟩ ?_; rotate_left; (· intro w hSw; (try dsimp only at hSw); obtain ⟨hL0, ecx⟩ := hSw; have ee4 := hL0.cell 4 _ rfl; clear hL0; go_simp; all_goals with_reducible rfl); (try simp only [List.getElem_toArray, List.getElem_cons_succ, List.getElem_cons_zero, Act.put, List.setIfInBounds_toArray, List.set_cons_zero, List.set_cons_succ]))
          (refine wpAnyH_take (i := 9) (v := ?_) rfl (by kernel_rfl) (by kernel_rfl) (by kernel_rfl) (fun _ _ _ h => h) (Or.inl ⟨by rfl, ?_⟩) ⟨hbe.kept (hBD), ((hBD).cell (p := ⟨bb, boff + k, none⟩) hbbl).trans hcx⟩ ?_; rotate_left; (· intro w hSw; (try dsimp only at hSw); obtain ⟨hL0, ecx⟩ := hSw; have ee4 := hL0.cell 4 _ rfl; clear hL0; go_simp; all_goals with_reducible rfl); (try simp only [List.getElem_toArray, List.getElem_cons_succ, List.getElem_cons_zero, Act.put, List.setIfInBounds_toArray, List.set_cons_zero, List.set_cons_succ]))
          refine wpAnyH_ready (rs := [10]) (by kernel_rfl) (by simp) (AllReadyH.cons rfl (fun K hK => ?_) AllReadyH.nil)
          have hy0 := hy
          obtain ⟨wA, hwA⟩ : ∃ X, X = wD.alloc (.cells #[.bool false, .slice none 0 0, .slice none 0 0] 81) := ⟨_, rfl⟩
          obtain ⟨pB, hpB⟩ : ∃ p, p = wD.heap.size := ⟨_, rfl⟩
          have hbB : Box3 wA pB (.bool false) (.slice none 0 0) (.slice none 0 0) := by rw [hwA, hpB]; exact ⟨by go_simp, by go_simp, by go_simp, by go_simp, by go_simp, by go_simp⟩
          have hb : Below wD.heap.size wD wA := by rw [hwA]; exact (Below.refl _ _).alloc (Nat.le_refl _) _
          have hBA : Below w7.heap.size w7 wA := (hBD).trans (hb.mono (hBD).size)
          have HpB : Hid (w7.heap.size ≤ pB) := Lib.hid (by rw [hpB]; exact (hBD).size)
          go_simp
          rw [← hwA, ← hpB]
          clear hwA hpB
          replace hy := hy0.below hb
          clear hy0
          refine hK.out _ _ ⟨hbe.kept (hBA), ((hBA).cell (p := ⟨bb, boff + k, none⟩) hbbl).trans hcx⟩ (fun _ => ?_)
          clear hK K
          (try simp only [List.getElem_toArray, List.getElem_cons_succ, List.getElem_cons_zero, Act.put, List.setIfInBounds_toArray, List.set_cons_zero, List.set_cons_succ])
          refine wpAnyH_ready (rs := [11]) (by kernel_rfl) (by simp) (AllReadyH.cons rfl (fun K hK => ?_) AllReadyH.nil)
          have eb0 := hbB.c0
          have eb1 := hbB.c1
          have eb2 := hbB.c2
          have fb0 := hbB.f0
          have fb1 := hbB.f1
          have fb2 := hbB.f2
          go_simp
          clear eb0 eb1 eb2 fb0 fb1 fb2
          obtain ⟨w8, hwE⟩ : ∃ X, X = ((wA.setCell ⟨pB, 0, none⟩ (.bool yB)).setCell ⟨pB, 1, none⟩ (.slice yxO yxL yxC)).setCell ⟨pB, 2, none⟩ (.slice yyO yyL yyC) := ⟨_, rfl⟩
          rw [← hwE]
          have hy8 := hy.set3 (u0 := .bool yB) (u1 := .slice yxO yxL yxC) (u2 := .slice yyO yyL yyC) hbB
          have hy8 := hy.set3 (u0 := .bool yB) (u1 := .slice yxO yxL yxC) (u2 := .slice yyO yyL yyC) hbB
          have hbB8 := Box3.set3 (u0 := .bool yB) (u1 := .slice yxO yxL yxC) (u2 := .slice yyO yyL yyC) hbB
          have hB8 := below_set3 (u0 := .bool yB) (u1 := .slice yxO yxL yxC) (u2 := .slice yyO yyL yyC) hBA HpB.out
          rw [← hwE] at hy8 hbB8 hB8
          clear hwE hy hbB
          refine hK.out _ _ ⟨hbe.kept (hB8), ((hB8).cell (p := ⟨bb, boff + k, none⟩) hbbl).trans hcx⟩ (fun _ => ?_)
          clear hK K
          (try simp only [List.getElem_toArray, List.getElem_cons_succ, List.getElem_cons_zero, Act.put, List.setIfInBounds_toArray, List.set_cons_zero, List.set_cons_succ])
          refine wpAnyH_ready (rs := [12]) (by kernel_rfl) (by simp) (AllReadyH.cons rfl (fun K hK => ?_) AllReadyH.nil)
          go_simp
          refine hK.out _ _ ⟨hbe.kept (hB8), ((hB8).cell (p := ⟨bb, boff + k, none⟩) hbbl).trans hcx⟩ (fun _ => ?_)
          clear hK K
          (try simp only [List.getElem_toArray, List.getElem_cons_succ, List.getElem_cons_zero, Act.put, List.setIfInBounds_toArray, List.set_cons_zero, List.set_cons_succ])
          refine wpAnyH_done (by kernel_rfl) ?_ _
          have hbe8 := hbe.kept hB8
          have hbz8 := hbz.kept hB8
          have hr8 := hr.below hB8
          have hO8 := Owns.kept hO7 hB8
          have hbr8 := hbr7.trans (hB8.mono hbr7.size)
          clear hbe hbz hr hO7 hbr7 hB8 hcx hbbl
          have ez0 := hbz8.c0
          have ez1 := hbz8.c1
          have ez2 := hbz8.c2
          have eb0 := hbB8.c0
          have eb1 := hbB8.c1
          have eb2 := hbB8.c2
          go_upto_region 30 with (go_at_call 45; (with_reducible refine (qadd_any _ _ q1 d 20002 66 _ hr8 hy8 hqt hdq (by decide)).mono ?_); rintro e9 w9 hq9; obtain ⟨sB, sxO, sxL, sxC, syO, syL, syC, rfl, hS9, hsx, hsy, hs9, hb⟩ := hq9.out; clear hS9 hsx hsy hq9; replace hbz8 := hbz8.kept hb; clear ez0 ez1 ez2 eb0 eb1 eb2; have ez0 := hbz8.c0; have ez1 := hbz8.c1; have ez2 := hbz8.c2; have fz0 := hbz8.f0; have fz1 := hbz8.f1; have fz2 := hbz8.f2)
          clear ez0 ez1 ez2 fz0 fz1 fz2
          replace hbe8 := hbe8.kept hb
          replace hO8 := Owns.kept hO8 hb
          replace hbr8 := hbr8.trans (hb.mono hbr8.size)
          clear hb hr8 hy8 hbB8
          obtain ⟨w10, hwE⟩ : ∃ X, X = ((w9.setCell ⟨pz, 0, none⟩ (.bool sB)).setCell ⟨pz, 1, none⟩ (.slice sxO sxL sxC)).setCell ⟨pz, 2, none⟩ (.slice syO syL syC) := ⟨_, rfl⟩
          rw [← hwE]
          have hs10 := hs9.set3 (u0 := .bool sB) (u1 := .slice sxO sxL sxC) (u2 := .slice syO syL syC) hbz8
          have hbz10 := Box3.set3 (u0 := .bool sB) (u1 := .slice sxO sxL sxC) (u2 := .slice syO syL syC) hbz8
          have hbr10 := below_set3 (u0 := .bool sB) (u1 := .slice sxO sxL sxC) (u2 := .slice syO syL syC) hbr8 Hpz.out.2.1
          have hbe10 := ((hbe8.setOther (Nat.ne_of_lt Hpz.out.1) 0 (.bool sB)).setOther (Nat.ne_of_lt Hpz.out.1) 1 (.slice sxO sxL sxC)).setOther (Nat.ne_of_lt Hpz.out.1) 2 (.slice syO syL syC)
          have hno : ∀ g, _ = some g → pz ≠ g := fun g hg => Ne.symm (Nat.ne_of_lt (Hpz.out.2.2 g hg))
          have hO10 := OwnsK.setOther (K := 1) (OwnsK.setOther (K := 1) (OwnsK.setOther (K := 1) hO8 pz 0 (.bool sB) hno) pz 1 (.slice sxO sxL sxC) hno) pz 2 (.slice syO syL syC) hno
          rw [← hwE] at hs10 hbz10 hbr10 hbe10 hO10
          clear hwE hs9 hbz8 hbr8 hbe8 hO8
          have ez0 := hbz10.c0
          have ez1 := hbz10.c1
          have ez2 := hbz10.c2
          have hsl : (stv (scoreT e row k)).length = k := by rw [stv_len, scoreT_len]
          have HT := Lib.hid (scoreT_succ e row k)
          have hqs := (hqt.add hdq)
          have hTx := fun W h => qtext_any (.agg #[.bool sB, .slice sxO sxL sxC, .slice syO syL syC]) (q1 + d) W h (hqs.mono (by decide))
          clear hqs
          obtain ⟨q9, hq9⟩ : ∃ q, q1 + d = q := ⟨_, rfl⟩
          rw [hq9] at hTx hs10
          have HQ3 : Hid (scoreQ e row k = q9) := Lib.hid (HQ2.out.trans hq9)
          clear hq9
          have hO10 : Owns _ _ w10 _ _ := hO10
          go_wp2_with (first | (go_at_call 46; refine (hTx w10 hs10).mono ?_; rintro e9 w11 ⟨rfl, hb⟩; have hO11 := Owns.kept hO10 hb; have hbr11 := hbr10.trans (hb.mono hbr10.size)) | (at_builtin; refine append1 E_txt hO11 rfl rfl rfl rfl rfl (by rw [hsl]; omega) (by rw [hsl]; unfold maxLen; omega) hbr11.size ?_; intro v9 w12 ho9 hb9 hg9))
          go_roundg (go1 - 1)
          case measure => omega
          case rel => exact ⟨k + 1, by omega, by go_num, by rw [HT.out, HQ3.out]; simpa [stv] using ho9, hbr11.trans hb9⟩
         ·skip
          obtain ⟨wA, hwA⟩ : ∃ X, X = wS.alloc (.cells #[.bool false, .slice none 0 0, .slice none 0 0] 81) := ⟨_, rfl⟩
          obtain ⟨pB, hpB⟩ : ∃ p, p = wS.heap.size := ⟨_, rfl⟩
          have hbB : Box3 wA pB (.bool false) (.slice none 0 0) (.slice none 0 0) := by rw [hwA, hpB]; exact ⟨by go_simp, by go_simp, by go_simp, by go_simp, by go_simp, by go_simp⟩
          have hb : Below wS.heap.size wS wA := by rw [hwA]; exact (Below.refl _ _).alloc (Nat.le_refl _) _
          have hBA : Below w7.heap.size w7 wA := (hBS).trans (hb.mono (hBS).size)
          have HpB : Hid (w7.heap.size ≤ pB) := Lib.hid (by rw [hpB]; exact (hBS).size)
          go_simp
          rw [← hwA, ← hpB]
          clear hwA hpB
          refine hK.out _ _ ⟨hbe.kept (hBA), ((hBA).cell (p := ⟨bb, boff + k, none⟩) hbbl).trans hcx⟩ (fun _ => ?_)
          clear hK K
          (try simp only [List.getElem_toArray, List.getElem_cons_succ, List.getElem_cons_zero, Act.put, List.setIfInBounds_toArray, List.set_cons_zero, List.set_cons_succ])
          refine wpAnyH_ready (rs := [6]) (by kernel_rfl) (by simp) (AllReadyH.cons rfl (fun K hK => ?_) AllReadyH.nil)
          go_simp
          go_at_call 31
          refine (hDec _).mono ?_
          rintro e9 wD hq9
          obtain ⟨yB, yxO, yxL, yxC, yyO, yyL, yyC, rfl, hS9, hyx, hyy, hy, hb⟩ := hq9.out
          clear hS9 hyx hyy hq9
          have hBD : Below w7.heap.size w7 wD := (hBA).trans (hb.mono (hBA).size)
          replace hbB := hbB.kept hb
          refine hK.out _ _ ⟨hbe.kept (hBD), ((hBD).cell (p := ⟨bb, boff + k, none⟩) hbbl).trans hcx⟩ (fun _ => ?_)
          clear hK K
          (try simp only [List.getElem_toArray, List.getElem_cons_succ, List.getElem_cons_zero, Act.put, List.setIfInBounds_toArray, List.set_cons_zero, List.set_cons_succ])
          (refine wpAnyH_take (i := 7) (v := ?_) rfl (by kernel_rfl) (by kernel_rfl) (by kernel_rfl) (fun _ _ _ h => h) (Or.inl ⟨by rfl, ?_⟩) ⟨hbe.kept (hBD), ((hBD).cell (p := ⟨bb, boff + k, none⟩) hbbl).trans hcx⟩ ?_; rotate_left; (· intro w hSw; (try dsimp only at hSw); obtain ⟨hL0, ecx⟩ := hSw; have ee4 := hL0.cell 4 _ rfl; clear hL0; go_simp; all_goals with_reducible rfl); (try simp only [List.getElem_toArray, List.getElem_cons_succ, List.getElem_cons_zero, Act.put, List.setIfInBounds_toArray, List.set_cons_zero, List.set_cons_succ]))
          (refine wpAnyH_take (i := 8) (v := ?_) rfl (by kernel_rfl) (by kernel_rfl) (by kernel_rfl) (fun _ _ _ h => h) (Or.inl ⟨by rfl, ?_⟩) ⟨hbe.kept (hBD), ((hBD).cell (p := ⟨bb, boff + k, none⟩) hbbl).trans hcx⟩ ?_; rotate_left; (· intro w hSw; (try dsimp only at hSw); obtain ⟨hL0, ecx⟩ := hSw; have ee4 := hL0.cell 4 _ rfl; clear hL0; go_simp; all_goals with_reducible rfl); (try simp only [List.getElem_toArray, List.getElem_cons_succ, List.getElem_cons_zero, Act.put, List.setIfInBounds_toArray, List.set_cons_zero, List.set_cons_succ]))
          (refine wpAnyH_take (i := 9) (v := ?_) rfl (by kernel_rfl) (by kernel_rfl) (by kernel_rfl) (fun _ _ _ h => h) (Or.inl ⟨by rfl, ?_⟩) ⟨hbe.kept (hBD), ((hBD).cell (p := ⟨bb, boff + k, none⟩) hbbl).trans hcx⟩ ?_; rotate_left; (· intro w hSw; (try dsimp only at hSw); obtain ⟨hL0, ecx⟩ := hSw; have ee4 := hL0.cell 4 _ rfl; clear hL0; go_simp; all_goals with_reducible rfl); (try simp only [List.getElem_toArray, List.getElem_cons_succ, List.getElem_cons_zero, Act.put, List.setIfInBounds_toArray, List.set_cons_zero, List.set_cons_succ]))
          refine wpAnyH_ready (rs := [11]) (by kernel_rfl) (by simp) (AllReadyH.cons rfl (fun K hK => ?_) AllReadyH.nil)
          have eb0 := hbB.c0
          have eb1 := hbB.c1
          have eb2 := hbB.c2
          have fb0 := hbB.f0
          have fb1 := hbB.f1
          have fb2 := hbB.f2
          go_simp
          clear eb0 eb1 eb2 fb0 fb1 fb2
          obtain ⟨w8, hwE⟩ : ∃ X, X = ((wD.setCell ⟨pB, 0, none⟩ (.bool yB)).setCell ⟨pB, 1, none⟩ (.slice yxO yxL yxC)).setCell ⟨pB, 2, none⟩ (.slice yyO yyL yyC) := ⟨_, rfl⟩
          rw [← hwE]
          have hy8 := hy.set3 (u0 := .bool yB) (u1 := .slice yxO yxL yxC) (u2 := .slice yyO yyL yyC) hbB
          have hy8 := hy.set3 (u0 := .bool yB) (u1 := .slice yxO yxL yxC) (u2 := .slice yyO yyL yyC) hbB
          have hbB8 := Box3.set3 (u0 := .bool yB) (u1 := .slice yxO yxL yxC) (u2 := .slice yyO yyL yyC) hbB
          have hB8 := below_set3 (u0 := .bool yB) (u1 := .slice yxO yxL yxC) (u2 := .slice yyO yyL yyC) hBD HpB.out
          rw [← hwE] at hy8 hbB8 hB8
          clear hwE hy hbB
          refine hK.out _ _ ⟨hbe.kept (hB8), ((hB8).cell (p := ⟨bb, boff + k, none⟩) hbbl).trans hcx⟩ (fun _ => ?_)
          clear hK K
          (try simp only [List.getElem_toArray, List.getElem_cons_succ, List.getElem_cons_zero, Act.put, List.setIfInBounds_toArray, List.set_cons_zero, List.set_cons_succ])
          refine wpAnyH_ready (rs := [12]) (by kernel_rfl) (by simp) (AllReadyH.cons rfl (fun K hK => ?_) AllReadyH.nil)
          go_simp
          refine hK.out _ _ ⟨hbe.kept (hB8), ((hB8).cell (p := ⟨bb, boff + k, none⟩) hbbl).trans hcx⟩ (fun _ => ?_)
          clear hK K
          (try simp only [List.getElem_toArray, List.getElem_cons_succ, List.getElem_cons_zero, Act.put, List.setIfInBounds_toArray, List.set_cons_zero, List.set_cons_succ])
          refine wpAnyH_done (by kernel_rfl) ?_ _
          have hbe8 := hbe.kept hB8
          have hbz8 := hbz.kept hB8
          have hr8 := hr.below hB8
          have hO8 := Owns.kept hO7 hB8
          have hbr8 := hbr7.trans (hB8.mono hbr7.size)
          clear hbe hbz hr hO7 hbr7 hB8 hcx hbbl
          have ez0 := hbz8.c0
          have ez1 := hbz8.c1
          have ez2 := hbz8.c2
          have eb0 := hbB8.c0
          have eb1 := hbB8.c1
          have eb2 := hbB8.c2
          go_upto_region 30 with (go_at_call 45; (with_reducible refine (qadd_any _ _ q1 d 20002 66 _ hr8 hy8 hqt hdq (by decide)).mono ?_); rintro e9 w9 hq9; obtain ⟨sB, sxO, sxL, sxC, syO, syL, syC, rfl, hS9, hsx, hsy, hs9, hb⟩ := hq9.out; clear hS9 hsx hsy hq9; replace hbz8 := hbz8.kept hb; clear ez0 ez1 ez2 eb0 eb1 eb2; have ez0 := hbz8.c0; have ez1 := hbz8.c1; have ez2 := hbz8.c2; have fz0 := hbz8.f0; have fz1 := hbz8.f1; have fz2 := hbz8.f2)
          clear ez0 ez1 ez2 fz0 fz1 fz2
          replace hbe8 := hbe8.kept hb
          replace hO8 := Owns.kept hO8 hb
          replace hbr8 := hbr8.trans (hb.mono hbr8.size)
          clear hb hr8 hy8 hbB8
          obtain ⟨w10, hwE⟩ : ∃ X, X = ((w9.setCell ⟨pz, 0, none⟩ (.bool sB)).setCell ⟨pz, 1, none⟩ (.slice sxO sxL sxC)).setCell ⟨pz, 2, none⟩ (.slice syO syL syC) := ⟨_, rfl⟩
          rw [← hwE]
          have hs10 := hs9.set3 (u0 := .bool sB) (u1 := .slice sxO sxL sxC) (u2 := .slice syO syL syC) hbz8
          have hbz10 := Box3.set3 (u0 := .bool sB) (u1 := .slice sxO sxL sxC) (u2 := .slice syO syL syC) hbz8
          have hbr10 := below_set3 (u0 := .bool sB) (u1 := .slice sxO sxL sxC) (u2 := .slice syO syL syC) hbr8 Hpz.out.2.1
          have hbe10 := ((hbe8.setOther (Nat.ne_of_lt Hpz.out.1) 0 (.bool sB)).setOther (Nat.ne_of_lt Hpz.out.1) 1 (.slice sxO sxL sxC)).setOther (Nat.ne_of_lt Hpz.out.1) 2 (.slice syO syL syC)
          have hno : ∀ g, _ = some g → pz ≠ g := fun g hg => Ne.symm (Nat.ne_of_lt (Hpz.out.2.2 g hg))
          have hO10 := OwnsK.setOther (K := 1) (OwnsK.setOther (K := 1) (OwnsK.setOther (K := 1) hO8 pz 0 (.bool sB) hno) pz 1 (.slice sxO sxL sxC) hno) pz 2 (.slice syO syL syC) hno
          rw [← hwE] at hs10 hbz10 hbr10 hbe10 hO10
          clear hwE hs9 hbz8 hbr8 hbe8 hO8
          have ez0 := hbz10.c0
          have ez1 := hbz10.c1
          have ez2 := hbz10.c2
          have hsl : (stv (scoreT e row k)).length = k := by rw [stv_len, scoreT_len]
          have HT := Lib.hid (scoreT_succ e row k)
          have hqs := (hqt.add hdq)
          have hTx := fun W h => qtext_any (.agg #[.bool sB, .slice sxO sxL sxC, .slice syO syL syC]) (q1 + d) W h (hqs.mono (by decide))
          clear hqs
          obtain ⟨q9, hq9⟩ : ∃ q, q1 + d = q := ⟨_, rfl⟩
          rw [hq9] at hTx hs10
          have HQ3 : Hid (scoreQ e row k = q9) := Lib.hid (HQ2.out.trans hq9)
          clear hq9
          have hO10 : Owns _ _ w10 _ _ := hO10
          go_wp2_with (first | (go_at_call 46; refine (hTx w10 hs10).mono ?_; rintro e9 w11 ⟨rfl, hb⟩; have hO11 := Owns.kept hO10 hb; have hbr11 := hbr10.trans (hb.mono hbr10.size)) | (at_builtin; refine append1 E_txt hO11 rfl rfl rfl rfl rfl (by rw [hsl]; omega) (by rw [hsl]; unfold maxLen; omega) hbr11.size ?_; intro v9 w12 ho9 hb9 hg9))
          go_roundg (go1 - 1)
          case measure => omega
          case rel => exact ⟨k + 1, by omega, by go_num, by rw [HT.out, HQ3.out]; simpa [stv] using ho9, hbr11.trans hb9⟩
        ·skip
         obtain ⟨wA, hwA⟩ : ∃ X, X = w7.alloc (.cells #[.bool false, .slice none 0 0, .slice none 0 0] 81) := ⟨_, rfl⟩
         obtain ⟨pB, hpB⟩ : ∃ p, p = w7.heap.size := ⟨_, rfl⟩
         have hbB : Box3 wA pB (.bool false) (.slice none 0 0) (.slice none 0 0) := by rw [hwA, hpB]; exact ⟨by go_simp, by go_simp, by go_simp, by go_simp, by go_simp, by go_simp⟩
         have hb : Below w7.heap.size w7 wA := by rw [hwA]; exact (Below.refl _ _).alloc (Nat.le_refl _) _
         have hBA : Below w7.heap.size w7 wA := (Below.refl w7.heap.size w7).trans (hb.mono (Below.refl w7.heap.size w7).size)
         have HpB : Hid (w7.heap.size ≤ pB) := Lib.hid (by rw [hpB]; exact (Below.refl w7.heap.size w7).size)
         go_simp
         rw [← hwA, ← hpB]
         clear hwA hpB
         refine hK.out _ _ ⟨hbe.kept (hBA), ((hBA).cell (p := ⟨bb, boff + k, none⟩) hbbl).trans hcx⟩ (fun _ => ?_)
         clear hK K
         (try simp only [List.getElem_toArray, List.getElem_cons_succ, List.getElem_cons_zero, Act.put, List.setIfInBounds_toArray, List.set_cons_zero, List.set_cons_succ])
         refine wpAnyH_ready (rs := [0]) (by kernel_rfl) (by simp) (AllReadyH.cons rfl (fun K hK => ?_) AllReadyH.nil)
         go_simp
         go_at_call 30
         refine (single_any _).mono ?_
         rintro e9 wS ⟨rfl, hb⟩
         have hBS : Below w7.heap.size w7 wS := (hBA).trans (hb.mono (hBA).size)
         replace hbB := hbB.kept hb
         refine hK.out _ _ ⟨hbe.kept (hBS), ((hBS).cell (p := ⟨bb, boff + k, none⟩) hbbl).trans hcx⟩ (fun _ => ?_)
         clear hK K
         (try simp only [List.getElem_toArray, List.getElem_cons_succ, List.getElem_cons_zero, Act.put, List.setIfInBounds_toArray, List.set_cons_zero, List.set_cons_succ])
         refine wpAnyH_ready (rs := [6]) (by kernel_rfl) (by simp) (AllReadyH.cons rfl (fun K hK => ?_) AllReadyH.nil)
         go_simp
         go_at_call 31
         refine (hDec _).mono ?_
         rintro e9 wD hq9
         obtain ⟨yB, yxO, yxL, yxC, yyO, yyL, yyC, rfl, hS9, hyx, hyy, hy, hb⟩ := hq9.out
         clear hS9 hyx hyy hq9
         have hBD : Below w7.heap.size w7 wD := (hBS).trans (hb.mono (hBS).size)
         replace hbB := hbB.kept hb
         refine hK.out _ _ ⟨hbe.kept (hBD), ((hBD).cell (p := ⟨bb, boff + k, none⟩) hbbl).trans hcx⟩ (fun _ => ?_)
         clear hK K
         (try simp only [List.getElem_toArray, List.getElem_cons_succ, List.getElem_cons_zero, Act.put, List.setIfInBounds_toArray, List.set_cons_zero, List.set_cons_succ])
         (refine wpAnyH_take (i := 7) (v := ?_) rfl (by kernel_rfl) (by kernel_rfl) (by kernel_rfl) (fun _ _ _ h => h) (Or.inl ⟨by rfl, ?_⟩) ⟨hbe.kept (hBD), ((hBD).cell (p := ⟨bb, boff + k, none⟩) hbbl).trans hcx⟩ ?_; rotate_left; (· intro w hSw; (try dsimp only at hSw); obtain ⟨hL0, ecx⟩ := hSw; have ee4 := hL0.cell 4 _ rfl; clear hL0; go_simp; all_goals with_reducible rfl); (try simp only [List.getElem_toArray, List.getElem_cons_succ, List.getElem_cons_zero, Act.put, List.setIfInBounds_toArray, List.set_cons_zero, List.set_cons_succ]))
         (refine wpAnyH_take (i := 8) (v := ?_) rfl (by kernel_rfl) (by kernel_rfl) (by kernel_rfl) (fun _ _ _ h => h) (Or.inl ⟨by rfl, ?_⟩) ⟨hbe.kept (hBD), ((hBD).cell (p := ⟨bb, boff + k, none⟩) hbbl).trans hcx⟩ ?_; rotate_left; (· intro w hSw; (try dsimp only at hSw); obtain ⟨hL0, ecx⟩ := hSw; have ee4 := hL0.cell 4 _ rfl; clear hL0; go_simp; all_goals with_reducible rfl); (try simp only [List.getElem_toArray, List.getElem_cons_succ, List.getElem_cons_zero, Act.put, List.setIfInBounds_toArray, List.set_cons_zero, List.set_cons_succ]))
         (refine wpAnyH_take (i := 9) (v := ?_) rfl (by kernel_rfl) (by kernel_rfl) (by kernel_rfl) (fun _ _ _ h => h) (Or.inl ⟨by rfl, ?_⟩) ⟨hbe.kept (hBD), ((hBD).cell (p := ⟨bb, boff + k, none⟩) hbbl).trans hcx⟩ ?_; rotate_left; (· intro w hSw; (try dsimp only at hSw); obtain ⟨hL0, ecx⟩ := hSw; have ee4 := hL0.cell 4 _ rfl; clear hL0; go_simp; all_goals with_reducible rfl); (try simp only [List.getElem_toArray, List.getElem_cons_succ, List.getElem_cons_zero, Act.put, List.setIfInBounds_toArray, List.set_cons_zero, List.set_cons_succ]))
         refine wpAnyH_ready (rs := [11]) (by kernel_rfl) (by simp) (AllReadyH.cons rfl (fun K hK => ?_) AllReadyH.nil)
         have eb0 := hbB.c0
         have eb1 := hbB.c1
         have eb2 := hbB.c2
         have fb0 := hbB.f0
         have fb1 := hbB.f1
         have fb2 := hbB.f2
         go_simp
         clear eb0 eb1 eb2 fb0 fb1 fb2
         obtain ⟨w8, hwE⟩ : ∃ X, X = ((wD.setCell ⟨pB, 0, none⟩ (.bool yB)).setCell ⟨pB, 1, none⟩ (.slice yxO yxL yxC)).setCell ⟨pB, 2, none⟩ (.slice yyO yyL yyC) := ⟨_, rfl⟩
         rw [← hwE]
         have hy8 := hy.set3 (u0 := .bool yB) (u1 := .slice yxO yxL yxC) (u2 := .slice yyO yyL yyC) hbB
         have hy8 := hy.set3 (u0 := .bool yB) (u1 := .slice yxO yxL yxC) (u2 := .slice yyO yyL yyC) hbB
         have hbB8 := Box3.set3 (u0 := .bool yB) (u1 := .slice yxO yxL yxC) (u2 := .slice yyO yyL yyC) hbB
         have hB8 := below_set3 (u0 := .bool yB) (u1 := .slice yxO yxL yxC) (u2 := .slice yyO yyL yyC) hBD HpB.out
         rw [← hwE] at hy8 hbB8 hB8
         clear hwE hy hbB
         refine hK.out _ _ ⟨hbe.kept (hB8), ((hB8).cell (p := ⟨bb, boff + k, none⟩) hbbl).trans hcx⟩ (fun _ => ?_)
         clear hK K
         (try simp only [List.getElem_toArray, List.getElem_cons_succ, List.getElem_cons_zero, Act.put, List.setIfInBounds_toArray, List.set_cons_zero, List.set_cons_succ])
         refine wpAnyH_ready (rs := [12]) (by kernel_rfl) (by simp) (AllReadyH.cons rfl (fun K hK => ?_) AllReadyH.nil)
         go_simp
         refine hK.out _ _ ⟨hbe.kept (hB8), ((hB8).cell (p := ⟨bb, boff + k, none⟩) hbbl).trans hcx⟩ (fun _ => ?_)
         clear hK K
         (try simp only [List.getElem_toArray, List.getElem_cons_succ, List.getElem_cons_zero, Act.put, List.setIfInBounds_toArray, List.set_cons_zero, List.set_cons_succ])
         refine wpAnyH_done (by kernel_rfl) ?_ _
         have hbe8 := hbe.kept hB8
         have hbz8 := hbz.kept hB8
         have hr8 := hr.below hB8
         have hO8 := Owns.kept hO7 hB8
         have hbr8 := hbr7.trans (hB8.mono hbr7.size)
         clear hbe hbz hr hO7 hbr7 hB8 hcx hbbl
         have ez0 := hbz8.c0
         have ez1 := hbz8.c1
         have ez2 := hbz8.c2
         have eb0 := hbB8.c0
         have eb1 := hbB8.c1
         have eb2 := hbB8.c2
         go_upto_region 30 with (go_at_call 45; (with_reducible refine (qadd_any _ _ q1 d 20002 66 _ hr8 hy8 hqt hdq (by decide)).mono ?_); rintro e9 w9 hq9; obtain ⟨sB, sxO, sxL, sxC, syO, syL, syC, rfl, hS9, hsx, hsy, hs9, hb⟩ := hq9.out; clear hS9 hsx hsy hq9; replace hbz8 := hbz8.kept hb; clear ez0 ez1 ez2 eb0 eb1 eb2; have ez0 := hbz8.c0; have ez1 := hbz8.c1; have ez2 := hbz8.c2; have fz0 := hbz8.f0; have fz1 := hbz8.f1; have fz2 := hbz8.f2)
         clear ez0 ez1 ez2 fz0 fz1 fz2
         replace hbe8 := hbe8.kept hb
         replace hO8 := Owns.kept hO8 hb
         replace hbr8 := hbr8.trans (hb.mono hbr8.size)
         clear hb hr8 hy8 hbB8
         obtain ⟨w10, hwE⟩ : ∃ X, X = ((w9.setCell ⟨pz, 0, none⟩ (.bool sB)).setCell ⟨pz, 1, none⟩ (.slice sxO sxL sxC)).setCell ⟨pz, 2, none⟩ (.slice syO syL syC) := ⟨_, rfl⟩
         rw [← hwE]
         have hs10 := hs9.set3 (u0 := .bool sB) (u1 := .slice sxO sxL sxC) (u2 := .slice syO syL syC) hbz8
         have hbz10 := Box3.set3 (u0 := .bool sB) (u1 := .slice sxO sxL sxC) (u2 := .slice syO syL syC) hbz8
         have hbr10 := below_set3 (u0 := .bool sB) (u1 := .slice sxO sxL sxC) (u2 := .slice syO syL syC) hbr8 Hpz.out.2.1
         have hbe10 := ((hbe8.setOther (Nat.ne_of_lt Hpz.out.1) 0 (.bool sB)).setOther (Nat.ne_of_lt Hpz.out.1) 1 (.slice sxO sxL sxC)).setOther (Nat.ne_of_lt Hpz.out.1) 2 (.slice syO syL syC)
         have hno : ∀ g, _ = some g → pz ≠ g := fun g hg => Ne.symm (Nat.ne_of_lt (Hpz.out.2.2 g hg))
         have hO10 := OwnsK.setOther (K := 1) (OwnsK.setOther (K := 1) (OwnsK.setOther (K := 1) hO8 pz 0 (.bool sB) hno) pz 1 (.slice sxO sxL sxC) hno) pz 2 (.slice syO syL syC) hno
         rw [← hwE] at hs10 hbz10 hbr10 hbe10 hO10
         clear hwE hs9 hbz8 hbr8 hbe8 hO8
         have ez0 := hbz10.c0
         have ez1 := hbz10.c1
         have ez2 := hbz10.c2
         have hsl : (stv (scoreT e row k)).length = k := by rw [stv_len, scoreT_len]
         have HT := Lib.hid (scoreT_succ e row k)
         have hqs := (hqt.add hdq)
         have hTx := fun W h => qtext_any (.agg #[.bool sB, .slice sxO sxL sxC, .slice syO syL syC]) (q1 + d) W h (hqs.mono (by decide))
         clear hqs
         obtain ⟨q9, hq9⟩ : ∃ q, q1 + d = q := ⟨_, rfl⟩
         rw [hq9] at hTx hs10
         have HQ3 : Hid (scoreQ e row k = q9) := Lib.hid (HQ2.out.trans hq9)
         clear hq9
         have hO10 : Owns _ _ w10 _ _ := hO10
         go_wp2_with (first | (go_at_call 46; refine (hTx w10 hs10).mono ?_; rintro e9 w11 ⟨rfl, hb⟩; have hO11 := Owns.kept hO10 hb; have hbr11 := hbr10.trans (hb.mono hbr10.size)) | (at_builtin; refine append1 E_txt hO11 rfl rfl rfl rfl rfl (by rw [hsl]; omega) (by rw [hsl]; unfold maxLen; omega) hbr11.size ?_; intro v9 w12 ho9 hb9 hg9))
         go_roundg (go1 - 1)
         case measure => omega
         case rel => exact ⟨k + 1, by omega, by go_num, by rw [HT.out, HQ3.out]; simpa [stv] using ho9, hbr11.trans hb9⟩
    ·obtain rfl : k = n9 := by omega
     have hz : ¬ (k : Int) < e.tgts := by have := Hn9.out; omega
     go_wp2_with fail
     go_ret2
     exact ⟨_, rfl, hO2.mono hbf.size, hbf.trans (hbr.mono hbf.size)⟩
end Go.Proofs.YtieffhkfefimeaaGreatDoor
namespace Go.Proofs.YtieffhkfefimeaaGreatDoor
open Go.RowKit Go.Shelf


theorem one_check : checkE oneE = 0 := by decide +kernel
theorem one_trees : treesE oneE.nodes = [0] := by decide +kernel
theorem one_score_a : scoreT oneE [1069547520] 1 = [[50]] := by decide +kernel
theorem one_score_b : scoreT oneE [2143289344] 1 = [[50]] := by decide +kernel
theorem score_arity (v : Value) (e : EE) (bo : Option Addr) (bc : Nat) (no : Option Addr) (nc : Nat) (lo : Option Addr) (lc : Nat) (ro : Option Addr) (n rc : Nat) (w : World) (h : EnsIs w v e bo bc no nc lo lc) (hc : Hid (checkE e = 0)) (Hrf : Hid (¬ (n : Int) = e.feats)) (hn2 : e.nodes.length ≤ 2000) :
  Calls Tryz.prog 13 #[v, .slice ro n rc] w fun e9 w' => e9 = .returned (.tuple #[.slice none 0 0, .int .i64 16]) ∧ Below w.heap.size w w' := by
 obtain ⟨rfl, h1, h2, h4, h5, h3, h6, h7, h8, h9⟩ := h
 obtain ⟨w0, hw0, hbf, pe, hpe, hbe⟩ := boxE w e bo bc no nc lo lc
 have HP : Hid (w.heap.size ≤ pe) := Lib.hid (by omega)
 have HW := Lib.hid hw0; clear hw0
 go_enter Tryz.func13, Tryz.ntmps13
 go_upto_region 1 with fail
 rw [← HW.out, ← hpe]
 clear hpe HW
 have hE : EnsIs w0 (ensV e bo bc no nc lo lc) e bo bc no nc lo lc := EnsIs.below ⟨rfl, h1, h2, h4, h5, h3, h6, h7, h8, h9⟩ hbf
 have hC := check_any _ e _ _ _ _ _ _ w0 hE (by omega) 0 hc
 obtain ⟨ee0, ee1, ee2, ee3, ee4, ee5, ee6⟩ := hbe.c7
 go_upto_region 2 with (go_at_call 39; refine hC.mono ?_; rintro e9 w1 ⟨rfl, hb⟩)
 clear ee0 ee1 ee2 ee3 ee4 ee5 ee6
 replace hbe := hbe.kept hb
 replace hbf := hbf.trans (hb.mono hbf.size)
 clear hb hC hE
 have hrf := Hrf.out
 have qrf : ((n : Int) != e.feats) = true := by simpa using hrf
 clear hrf
 obtain ⟨ee0, ee1, ee2, ee3, ee4, ee5, ee6⟩ := hbe.c7
 go_wp2_with fail
 go_ret2
 exact ⟨rfl, hbf⟩
theorem score_one (v : Value) (no : Option Addr) (nc : Nat) (lo : Option Addr) (lc : Nat) (g x : Nat) (w : World) (h : EnsIs w v oneE none 0 no nc lo lc) (hx : x < 18446744073709551616) (hg : w.cell? ⟨g, 0, none⟩ = some (.int .u64 (x : Int))) (hs : Hid (scoreT oneE [x] 1 = [[50]])) :
  Calls Tryz.prog 13 #[v, .slice (some ⟨g, 0, none⟩) 1 1] w fun e9 w' => ∃ b c, e9 = .returned (.tuple #[.slice (some ⟨b, 0, none⟩) 1 c, .int .i64 0]) ∧ w'.cell? ⟨b, 0, none⟩ = some (.string ⟨#[50]⟩) ∧ Below w.heap.size w w' := by
 have hrow : Cells .u64 w (some ⟨g, 0, none⟩) [x] := .inr ⟨g, 0, rfl, World.block_lt_of_cell? w ⟨g, 0, none⟩ hg, fun i hi => by
  have : i = 0 := by simpa using hi
  subst this
  exact hg⟩
 refine (score_ok v oneE none 0 no nc lo lc (some ⟨g, 0, none⟩) 1 [x] w h (Nat.le_refl _) (by decide) hrow (fun y hy => by simp at hy; rw [hy]; exact hx) (Lib.hid one_check) (Lib.hid rfl) (Lib.hid (Int.le_refl 1)) (by decide) (by decide) (by decide) 1 (Lib.hid rfl) (by decide) (by rw [one_trees]; decide) (by rw [one_trees]; decide) (Lib.hid (by decide))).mono ?_
 rintro e9 w' ⟨r, rfl, hO, hb⟩
 rw [hs.out] at hO
 rcases OwnsK.shape (K := 1) hO with ⟨_, h0⟩ | ⟨b, cap, rfl, k1, k2, k3, k4, k5, k6⟩
 ·exact absurd h0 (by decide)
 ·exact ⟨b, cap, rfl, by rw [k5 0 (by decide)]; rfl, hb⟩
set_option maxHeartbeats 2000000 in
theorem alive24_any (w : World) : Calls Tryz.prog 8 #[] w fun e w' => e = .returned (.bool true) ∧ Below w.heap.size w w' := by
 go_enter Tryz.func8, Tryz.ntmps8
 go_upto_region 2 with (first | (go_at_call 29; refine (one_any _).mono ?_; rintro e w1a ⟨v1, no1, nc1, lo1, lc1, rfl, hE1, hb1a⟩; obtain ⟨rfl⟩ := hE1.val) | (go_at_call 13; have hba : Below w1a.heap.size w1a (w1a.alloc (.cells #[.int .u64 1069547520] 22)) := (Below.refl _ _).alloc (Nat.le_refl _) _; refine (score_one _ _ _ _ _ _ 1069547520 _ (hE1.below hba) (by decide) (by go_simp) (Lib.hid one_score_a)).mono ?_; rintro e w1b ⟨g1, c1, rfl, hc1, hb1b⟩; have hb1 := hb1a.trans ((hba.trans (hb1b.mono hba.size)).mono hb1a.size); clear hba hb1a hb1b))
 clear hE1
 go_upto_region 3 with (first | (go_at_call 29; refine (one_any _).mono ?_; rintro e w2a ⟨v2, no2, nc2, lo2, lc2, rfl, hE2, hb2a⟩; obtain ⟨rfl⟩ := hE2.val) | (go_at_call 13; have hba : Below w2a.heap.size w2a (w2a.alloc (.cells #[.int .u64 2143289344] 22)) := (Below.refl _ _).alloc (Nat.le_refl _) _; refine (score_one _ _ _ _ _ _ 2143289344 _ (hE2.below hba) (by decide) (by go_simp) (Lib.hid one_score_b)).mono ?_; rintro e w2b ⟨g2, c2, rfl, hc2, hb2b⟩; have hb2 := hb2a.trans ((hba.trans (hb2b.mono hba.size)).mono hb2a.size); clear hba hb2a hb2b))
 clear hE2
 go_upto_region 4 with (first | (go_at_call 29; refine (one_any _).mono ?_; rintro e w3a ⟨v3, no3, nc3, lo3, lc3, rfl, hE3, hb3a⟩; obtain ⟨rfl⟩ := hE3.val) | (go_at_call 13; refine (score_arity _ oneE _ _ _ _ _ _ none 0 0 _ hE3 (Lib.hid one_check) (Lib.hid (by decide)) (by decide)).mono ?_; rintro e w3b ⟨rfl, hb3b⟩))
 clear hE3
 have hb23 := hb2.trans ((hb3a.trans (hb3b.mono hb3a.size)).mono hb2.size)
 have hb3 := hb3a.trans (hb3b.mono hb3a.size)
 clear hb3a hb3b
 have k1 := (hb23.cell (p := ⟨g1, 0, none⟩) (World.block_lt_of_cell? w1b ⟨g1, 0, none⟩ hc1)).trans hc1
 have k2 := (hb3.cell (p := ⟨g2, 0, none⟩) (World.block_lt_of_cell? w2b ⟨g2, 0, none⟩ hc2)).trans hc2
 clear hc1 hc2
 go_wp2_with fail
 go_ret
 exact ⟨rfl, hb1.trans (hb23.mono hb1.size)⟩
end Go.Proofs.YtieffhkfefimeaaGreatDoor
