/-
  rat: Least, Most over an iterator that counts in an old cell; the laws' each.
-/
import Derived.Test.YtoadhoojdgeikaaDoorIterP
import Derived.Test.YtoadhoojdgeikaaDoorIterS
namespace Go.Proofs.YtoadhoojdgeikaaDoor
open Go.RowKit Go.Shelf
set_option linter.unusedVariables false
set_option linter.unusedSimpArgs false
attribute [local go_sem] Oper.semAt_some field_nat

theorem IterX.up {α : Type} {P : Program} {gf pn : Nat} {c0 : Int} {lb : Array Value} {Enc : World → Value → α → Prop} {xs : List α} {B B' : Nat} {Kp : World → World → Prop} {w : World} (h : IterX pn c0 P gf lb Enc xs B Kp w) (hB : B ≤ B') :
    IterX pn c0 P gf lb Enc xs B' Kp w := fun l J Jx S0 W1 hW hS => h l J Jx S0 W1 hW (fun k hk => ⟨Nat.le_trans hB (hS k hk).1, (hS k hk).2⟩)

set_option maxRecDepth 100000 in
set_option maxHeartbeats 2000000 in
theorem least_any (gf : Nat) (lb : Array Value) (qs : List Rat) (pn : Nat) (c0 : Int) (w : World) (hit : IterX pn c0 Tryd.prog gf lb QIs qs w.heap.size (KpX pn) w) (eg : ∀ args w, (callFunc gf args).run Tryd.prog w = .ok (.enter gf args) w)
    (en : ∀ w, (binOp .eql 44 (.func (.func gf) #[] lb) .nilFunc).run Tryd.prog w = .ok (.bool false) w)
    (hx : ∀ q ∈ qs, QB q 700) (hpn : pn < w.heap.size) (hc0 : w.cell? ⟨pn, 0, none⟩ = some (.int .i64 c0)) (hn0 : IntAt w pn) :
    Calls Tryd.prog 13 #[.func (.func gf) #[] lb] w fun e w' => ∃ r, e = .returned (.tuple #[r, .bool (pkL (-1) qs).2]) ∧ QIs w' r (pkL (-1) qs).1 ∧ BelowX pn w.heap.size w w' ∧ w'.cell? ⟨pn, 0, none⟩ = some (.int .i64 (c0 + (qs.length : Int))) := by
  obtain ⟨w0, hw0⟩ : ∃ w0, w0 = w.alloc (.cells #[.bool false, .slice none 0 0, .slice none 0 0] 35) := ⟨_, rfl⟩
  have hbf : Below w.heap.size w w0 := by rw [hw0]; exact (Below.refl _ w).alloc (Nat.le_refl _) _
  obtain ⟨pr, hpr⟩ : ∃ p, p = w.heap.size := ⟨_, rfl⟩
  have hbr : Box3 w0 pr (.bool false) (.slice none 0 0) (.slice none 0 0) := by rw [hw0, hpr]; exact ⟨by go_simp, by go_simp, by go_simp, by go_simp, by go_simp, by go_simp⟩
  have hlt : w.heap.size ≤ pr ∧ pr < w0.heap.size := ⟨by omega, hbr.lt⟩
  have HW := Lib.hid hw0; clear hw0
  have HPN := Lib.hid hpn; clear hpn
  have hn9 := (BelowX.of (pn := pn) hbf).own hn0
  have hc9 : w0.cell? ⟨pn, 0, none⟩ = some (.int .i64 c0) := (hbf.cell (p := ⟨pn, 0, none⟩) (by show pn < _; exact HPN.out)).trans hc0
  go_enter Tryd.func13, Tryd.ntmps13
  go_upto_region 1 with fail
  rw [← HW.out, ← hpr]
  have HP := Lib.hid hpr; clear hpr
  have HL := Lib.hid hlt; clear hlt
  go_wp2_with fail
  refine (pick_any gf lb qs (-1) pn c0 w0 ?_ eg en hx ?_ hc9 hn9).mono ?_
  · exact (hit.mono hbf).up hbf.size
  · have := HL.out; have := HPN.out; omega
  rintro e w1 ⟨r, rfl, hr, hB, hcn⟩
  obtain ⟨oB, oxO, oxL, oxC, oyO, oyL, oyC, rfl, hS9, _, _⟩ := hr.form
  clear hS9
  have hne : pr ≠ pn := by have := HL.out; have := HPN.out; omega
  replace hbr : Box3 w1 pr (.bool false) (.slice none 0 0) (.slice none 0 0) := hbr.extX (ExtX.of_belowX (B := 0) hB) hne
  have e0 := hbr.c0
  have e1 := hbr.c1
  have e2 := hbr.c2
  have f0 := hbr.f0
  have f1 := hbr.f1
  have f2 := hbr.f2
  go_wp2_with fail
  clear e0 e1 e2 f0 f1 f2
  have hr2 := hr.set3 (u0 := .bool oB) (u1 := .slice oxO oxL oxC) (u2 := .slice oyO oyL oyC) hbr
  have hb2 := hbr.set3 (u0 := .bool oB) (u1 := .slice oxO oxL oxC) (u2 := .slice oyO oyL oyC)
  have hlt2 := HL.out
  have hB0 : BelowX pn w.heap.size w w1 := belowX_ext (D := w.heap.size) (BelowX.of hbf) ((ExtX.of_belowX hB)) (Nat.le_refl _) hbf.size
  have hB2 := BelowX.set3 (u0 := .bool oB) (u1 := .slice oxO oxL oxC) (u2 := .slice oyO oyL oyC) (b := pr) hB0 hlt2.1 hne
  have hcn2 : (((w1.setCell ⟨pr, 0, none⟩ (.bool oB)).setCell ⟨pr, 1, none⟩ (.slice oxO oxL oxC)).setCell ⟨pr, 2, none⟩ (.slice oyO oyL oyC)).cell? ⟨pn, 0, none⟩ = some (.int .i64 (c0 + (qs.length : Int))) :=
    (World.cell?_of_block (a := ⟨pn, 0, none⟩) (((Below.heap_setCell _ _ _ _ (fun e => hne e.symm)).trans (Below.heap_setCell _ _ _ _ (fun e => hne e.symm))).trans (Below.heap_setCell _ _ _ _ (fun e => hne e.symm)))).trans hcn
  generalize ((w1.setCell ⟨pr, 0, none⟩ (.bool oB)).setCell ⟨pr, 1, none⟩ (.slice oxO oxL oxC)).setCell ⟨pr, 2, none⟩ (.slice oyO oyL oyC) = W2 at *
  exact ret_rat_tmp rfl rfl rfl hb2 rfl ⟨_, rfl, hr2, hB2, hcn2⟩

set_option maxRecDepth 100000 in
set_option maxHeartbeats 2000000 in
theorem most_any (gf : Nat) (lb : Array Value) (qs : List Rat) (pn : Nat) (c0 : Int) (w : World) (hit : IterX pn c0 Tryd.prog gf lb QIs qs w.heap.size (KpX pn) w) (eg : ∀ args w, (callFunc gf args).run Tryd.prog w = .ok (.enter gf args) w)
    (en : ∀ w, (binOp .eql 44 (.func (.func gf) #[] lb) .nilFunc).run Tryd.prog w = .ok (.bool false) w)
    (hx : ∀ q ∈ qs, QB q 700) (hpn : pn < w.heap.size) (hc0 : w.cell? ⟨pn, 0, none⟩ = some (.int .i64 c0)) (hn0 : IntAt w pn) :
    Calls Tryd.prog 14 #[.func (.func gf) #[] lb] w fun e w' => ∃ r, e = .returned (.tuple #[r, .bool (pkL (1) qs).2]) ∧ QIs w' r (pkL (1) qs).1 ∧ BelowX pn w.heap.size w w' ∧ w'.cell? ⟨pn, 0, none⟩ = some (.int .i64 (c0 + (qs.length : Int))) := by
  obtain ⟨w0, hw0⟩ : ∃ w0, w0 = w.alloc (.cells #[.bool false, .slice none 0 0, .slice none 0 0] 35) := ⟨_, rfl⟩
  have hbf : Below w.heap.size w w0 := by rw [hw0]; exact (Below.refl _ w).alloc (Nat.le_refl _) _
  obtain ⟨pr, hpr⟩ : ∃ p, p = w.heap.size := ⟨_, rfl⟩
  have hbr : Box3 w0 pr (.bool false) (.slice none 0 0) (.slice none 0 0) := by rw [hw0, hpr]; exact ⟨by go_simp, by go_simp, by go_simp, by go_simp, by go_simp, by go_simp⟩
  have hlt : w.heap.size ≤ pr ∧ pr < w0.heap.size := ⟨by omega, hbr.lt⟩
  have HW := Lib.hid hw0; clear hw0
  have HPN := Lib.hid hpn; clear hpn
  have hn9 := (BelowX.of (pn := pn) hbf).own hn0
  have hc9 : w0.cell? ⟨pn, 0, none⟩ = some (.int .i64 c0) := (hbf.cell (p := ⟨pn, 0, none⟩) (by show pn < _; exact HPN.out)).trans hc0
  go_enter Tryd.func14, Tryd.ntmps14
  go_upto_region 1 with fail
  rw [← HW.out, ← hpr]
  have HP := Lib.hid hpr; clear hpr
  have HL := Lib.hid hlt; clear hlt
  go_wp2_with fail
  refine (pick_any gf lb qs (1) pn c0 w0 ?_ eg en hx ?_ hc9 hn9).mono ?_
  · exact (hit.mono hbf).up hbf.size
  · have := HL.out; have := HPN.out; omega
  rintro e w1 ⟨r, rfl, hr, hB, hcn⟩
  obtain ⟨oB, oxO, oxL, oxC, oyO, oyL, oyC, rfl, hS9, _, _⟩ := hr.form
  clear hS9
  have hne : pr ≠ pn := by have := HL.out; have := HPN.out; omega
  replace hbr : Box3 w1 pr (.bool false) (.slice none 0 0) (.slice none 0 0) := hbr.extX (ExtX.of_belowX (B := 0) hB) hne
  have e0 := hbr.c0
  have e1 := hbr.c1
  have e2 := hbr.c2
  have f0 := hbr.f0
  have f1 := hbr.f1
  have f2 := hbr.f2
  go_wp2_with fail
  clear e0 e1 e2 f0 f1 f2
  have hr2 := hr.set3 (u0 := .bool oB) (u1 := .slice oxO oxL oxC) (u2 := .slice oyO oyL oyC) hbr
  have hb2 := hbr.set3 (u0 := .bool oB) (u1 := .slice oxO oxL oxC) (u2 := .slice oyO oyL oyC)
  have hlt2 := HL.out
  have hB0 : BelowX pn w.heap.size w w1 := belowX_ext (D := w.heap.size) (BelowX.of hbf) ((ExtX.of_belowX hB)) (Nat.le_refl _) hbf.size
  have hB2 := BelowX.set3 (u0 := .bool oB) (u1 := .slice oxO oxL oxC) (u2 := .slice oyO oyL oyC) (b := pr) hB0 hlt2.1 hne
  have hcn2 : (((w1.setCell ⟨pr, 0, none⟩ (.bool oB)).setCell ⟨pr, 1, none⟩ (.slice oxO oxL oxC)).setCell ⟨pr, 2, none⟩ (.slice oyO oyL oyC)).cell? ⟨pn, 0, none⟩ = some (.int .i64 (c0 + (qs.length : Int))) :=
    (World.cell?_of_block (a := ⟨pn, 0, none⟩) (((Below.heap_setCell _ _ _ _ (fun e => hne e.symm)).trans (Below.heap_setCell _ _ _ _ (fun e => hne e.symm))).trans (Below.heap_setCell _ _ _ _ (fun e => hne e.symm)))).trans hcn
  generalize ((w1.setCell ⟨pr, 0, none⟩ (.bool oB)).setCell ⟨pr, 1, none⟩ (.slice oxO oxL oxC)).setCell ⟨pr, 2, none⟩ (.slice oyO oyL oyC) = W2 at *
  exact ret_rat_tmp rfl rfl rfl hb2 rfl ⟨_, rfl, hr2, hB2, hcn2⟩

set_option maxRecDepth 100000 in
/-- each hands back an iterator that counts. -/
theorem each2_any (va : Value) (qs : List Rat) (pn : Nat) (c0 : Int) (w : World) (hrow : RatRow w va qs w.heap.size pn) (hpn : pn < w.heap.size) (hlen : qs.length ≤ 1000000) (h0 : 0 ≤ c0) (h1 : c0 ≤ 1000000000) :
    Calls Tryd.prog 12 #[va, .pointer (some ⟨pn, 0, none⟩)] w fun e w' => ∃ bl bt, e = .returned (.func (.func 35) #[] #[.pointer (some ⟨bl, 0, none⟩), .pointer (some ⟨bt, 0, none⟩)]) ∧
      IterX pn c0 Tryd.prog 35 #[.pointer (some ⟨bl, 0, none⟩), .pointer (some ⟨bt, 0, none⟩)] QIs qs w'.heap.size (KpX pn) w' ∧ Below w.heap.size w w' := by
  obtain ⟨ao, cap, rfl, h2⟩ := hrow.row
  go_enter Tryd.func12, Tryd.ntmps12
  go_wp2
  go_ret
  obtain ⟨w2, hw2⟩ : ∃ w2, w2 = ((w.alloc (.cells #[.slice ao qs.length cap] 25)).alloc (.cells #[.pointer (some ⟨pn, 0, none⟩)] 46)) := ⟨_, rfl⟩
  have hb : Below w.heap.size w w2 := by rw [hw2]; exact ((Below.refl _ w).alloc (Nat.le_refl _) _).alloc (by simp <;> omega) _
  have hc1 : w2.cell? ⟨w.heap.size, 0, none⟩ = some (.slice ao qs.length cap) := by rw [hw2]; go_simp
  have hc2 : w2.cell? ⟨w.heap.size + 1, 0, none⟩ = some (.pointer (some ⟨pn, 0, none⟩)) := by rw [hw2]; go_simp
  have hs2 : w2.heap.size = w.heap.size + 2 := by rw [hw2]; simp
  rw [← hw2]
  clear hw2
  have hrow2 := hrow.keep hb.size (fun g _ hg _ => hb.block g hg) (KeepNat.below hb)
  have hrow3 : RatRow w2 (.slice ao qs.length cap) qs w2.heap.size pn := by
    obtain ⟨ao2, cap2, e, k2⟩ := hrow2.row
    cases e
    refine ⟨⟨ao, cap, rfl, ?_⟩⟩
    rcases k2 with k2 | ⟨g, k3, k4, k5, k6, k7⟩
    · exact .inl k2
    · exact .inr ⟨g, k3, k5, k5, k6, k7⟩
  exact ⟨w.heap.size, w.heap.size + 1, rfl, each2_iter _ qs _ _ pn w2.heap.size c0 w2 hrow3 hc1 hc2 (by omega) (by omega) (by omega) (Nat.le_refl _) (by omega) (by omega) hlen h0 h1, hb⟩

end Go.Proofs.YtoadhoojdgeikaaDoor
