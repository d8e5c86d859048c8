/-
  Pk11: OnxP (what is needed of them).
-/
import Derived.Test.YtcpfanpcdkoiaaaGreatPk09
import Derived.Test.YtcpfanpcdkoiaaaGreatPk10
import Derived.WalkMore
import Derived.Sort.OwnSortedInts
import Derived.Maps.OwnSet
set_option maxRecDepth 100000
set_option linter.unusedVariables false
set_option linter.unusedSimpArgs false

namespace Go.Proofs.YtcpfanpcdkoiaaaGreat
open Go.RowKit


theorem find_hit {α : Type} {p : α → Bool} {zs : List α} {k : Nat} (hk : k < zs.length) (h : p zs[k] = true) (hne : ∀ j (hj : j < k), p zs[j] = false) : zs.findIdx? p = some k :=
 List.findIdx?_eq_some_iff_getElem.2 ⟨hk, h, fun j hj => by simp [hne j hj]⟩
theorem find_miss {α : Type} {p : α → Bool} {zs : List α} (h : ∀ j (hj : j < zs.length), p zs[j] = false) : zs.findIdx? p = none := by
 rw [List.findIdx?_eq_none_iff]
 intro x hx
 obtain ⟨i, hi, rfl⟩ := List.mem_iff_getElem.1 hx
 exact h i hi
def fidx (o : Option Nat) : Int := match o with | none => -1 | some k => (k : Int)
theorem any_fidx {α : Type} (p : α → Bool) (zs : List α) : decide (0 ≤ fidx (zs.findIdx? p)) = zs.any p := by
 cases h : zs.findIdx? p with
 | none =>
  have := List.findIdx?_eq_none_iff.1 h
  rw [show fidx none = -1 from rfl]
  symm; rw [show (decide (0 ≤ (-1 : Int))) = false from by decide]
  rw [List.any_eq_false]; intro x hx; simp [this x hx]
 | some k =>
  have h2 := List.findIdx?_eq_some_iff_getElem.1 h
  rw [show fidx (some k) = (k : Int) from rfl]
  rw [show decide (0 ≤ (k : Int)) = true from by simp]
  symm; rw [List.any_eq_true]
  exact ⟨_, List.getElem_mem h2.1, h2.2.1⟩
set_option maxHeartbeats 2000000 in
theorem idx_en (p : EN → Bool) (g : Nat) (lb : Array Value) (eg : ∀ args w, (callFunc g args).run Tryz.prog w = .ok (.enter g args) w) (ao : Option Addr) (c : Nat) (zs : List EN) (w : World) (r : Int)
  (hp : PredOn Tryz.prog g lb (fun x => Value.agg (enC x).toArray) p w zs) (hr : RowC 8 enC w ao zs) (hbig : zs.length ≤ maxLen) (hE : Hid (fidx (zs.findIdx? p) = r)) :
  Calls Tryz.prog 105 #[.slice ao zs.length c, .func (.func g) #[] lb] w fun e w' => e = .returned (.int .i64 r) ∧ Below w.heap.size w w' := by
 unfold maxLen at hbig
 go_enter Tryz.func105, Tryz.ntmps105
 go_wp2_with fail
 go_loopg [5, 8] zs.length (fun gg _ s8 wr => ∃ kk : Nat, kk ≤ zs.length ∧ zs.length - kk ≤ gg ∧ s8 = .int .i64 kk ∧ Aside (Below w.heap.size w wr) ∧ Aside (∀ j (hj : j < kk) (hj2 : j < zs.length), p zs[j] = false))
 case atStart => exact ⟨0, Nat.zero_le _, by omega, rfl, Below.refl _ w, fun j hj => absurd hj (Nat.not_lt_zero _)⟩
 case round =>
  obtain ⟨kk, hkk, hg, rfl, BW, A⟩ := hrel
  by_cases hlt : kk < zs.length
  ·have hltz : (kk : Int) < (zs.length : Int) := by omega
   obtain ⟨b, off, rfl⟩ := hr.addr hlt
   obtain ⟨y, hy⟩ : ∃ y, zs[kk] = y := ⟨_, rfl⟩
   obtain ⟨c0, c1, c2, c3, c4, c5, c6, c7⟩ := hr.c8 BW.out hlt y hy
   have hcall := hp wr zs[kk] (List.getElem_mem hlt) BW.out
   clear hr hp
   have h0k : (0 : Int) ≤ (kk : Int) := by omega
   rw [hy] at hcall; unfold enC at hcall
   have B : Aside (zs[kk] = y) := hy
   clear hy
   cases hq : p y with
   | true =>
    have hq2 : Aside (p y = true) := hq
    rw [hq] at hcall; clear hq
    go_wp2_with (go_at_fn g; refine hcall.mono ?_; rintro e w' ⟨rfl, hb'⟩)
    go_ret
    refine ⟨?_, BW.out.trans (hb'.mono BW.out.size)⟩
    rw [← hE.out, find_hit hlt (by rw [B.out]; exact hq2.out) (fun j hj => A.out j hj (by omega))]
    rfl
   | false =>
    have hq2 : Aside (p y = false) := hq
    rw [hq] at hcall; clear hq
    go_wp2_with (go_at_fn g; refine hcall.mono ?_; rintro e w' ⟨rfl, hb'⟩)
    go_roundg (zs.length - (kk + 1))
    case measure => omega
    case rel =>
     refine ⟨kk + 1, by omega, by omega, by go_num, BW.out.trans (hb'.mono BW.out.size), (show Aside _ from fun j hj hj2 => ?_)⟩
     by_cases e : j = kk
     ·subst e
      rw [B.out]; exact hq2.out
     ·exact A.out j (by omega) hj2
  ·have hltz : ¬ (kk : Int) < (zs.length : Int) := by omega
   go_wp2_with fail
   go_ret
   refine ⟨?_, BW.out⟩
   rw [← hE.out, find_miss (fun j hj => A.out j (by omega) hj)]
   rfl
theorem cont_en (p : EN → Bool) (g : Nat) (lb : Array Value) (eg : ∀ args w, (callFunc g args).run Tryz.prog w = .ok (.enter g args) w) (ao : Option Addr) (c : Nat) (zs : List EN) (w : World) (r : Bool)
  (hp : PredOn Tryz.prog g lb (fun x => Value.agg (enC x).toArray) p w zs) (hr : RowC 8 enC w ao zs) (hbig : zs.length ≤ maxLen) (hE : Hid (zs.any p = r)) :
  Calls Tryz.prog 130 #[.slice ao zs.length c, .func (.func g) #[] lb] w fun e w' => e = .returned (.bool r) ∧ Below w.heap.size w w' := by
 rw [← hE.out, ← any_fidx]; clear hE
 have hc := idx_en p g lb eg ao c zs w _ hp hr hbig (Lib.hid rfl)
 generalize fidx (zs.findIdx? p) = q at hc ⊢
 clear hp hr
 go_enter Tryz.func130, Tryz.ntmps130
 go_wp2_with (go_at_call 105; refine hc.mono ?_; rintro e w' ⟨rfl, hb'⟩)
 go_ret
 exact ⟨by first | rfl | simp, hb'⟩
set_option maxHeartbeats 2000000 in
theorem idx_el (p : EL → Bool) (g : Nat) (lb : Array Value) (eg : ∀ args w, (callFunc g args).run Tryz.prog w = .ok (.enter g args) w) (ao : Option Addr) (c : Nat) (zs : List EL) (w : World) (r : Int)
  (hp : PredOn Tryz.prog g lb (fun x => Value.agg (elC x).toArray) p w zs) (hr : RowC 4 elC w ao zs) (hbig : zs.length ≤ maxLen) (hE : Hid (fidx (zs.findIdx? p) = r)) :
  Calls Tryz.prog 138 #[.slice ao zs.length c, .func (.func g) #[] lb] w fun e w' => e = .returned (.int .i64 r) ∧ Below w.heap.size w w' := by
 unfold maxLen at hbig
 go_enter Tryz.func138, Tryz.ntmps138
 go_wp2_with fail
 go_loopg [5, 8] zs.length (fun gg _ s8 wr => ∃ kk : Nat, kk ≤ zs.length ∧ zs.length - kk ≤ gg ∧ s8 = .int .i64 kk ∧ Aside (Below w.heap.size w wr) ∧ Aside (∀ j (hj : j < kk) (hj2 : j < zs.length), p zs[j] = false))
 case atStart => exact ⟨0, Nat.zero_le _, by omega, rfl, Below.refl _ w, fun j hj => absurd hj (Nat.not_lt_zero _)⟩
 case round =>
  obtain ⟨kk, hkk, hg, rfl, BW, A⟩ := hrel
  by_cases hlt : kk < zs.length
  ·have hltz : (kk : Int) < (zs.length : Int) := by omega
   obtain ⟨b, off, rfl⟩ := hr.addr hlt
   obtain ⟨y, hy⟩ : ∃ y, zs[kk] = y := ⟨_, rfl⟩
   obtain ⟨c0, c1, c2, c3⟩ := hr.c4 BW.out hlt y hy
   have hcall := hp wr zs[kk] (List.getElem_mem hlt) BW.out
   clear hr hp
   have h0k : (0 : Int) ≤ (kk : Int) := by omega
   rw [hy] at hcall; unfold elC at hcall
   have B : Aside (zs[kk] = y) := hy
   clear hy
   cases hq : p y with
   | true =>
    have hq2 : Aside (p y = true) := hq
    rw [hq] at hcall; clear hq
    go_wp2_with (go_at_fn g; refine hcall.mono ?_; rintro e w' ⟨rfl, hb'⟩)
    go_ret
    refine ⟨?_, BW.out.trans (hb'.mono BW.out.size)⟩
    rw [← hE.out, find_hit hlt (by rw [B.out]; exact hq2.out) (fun j hj => A.out j hj (by omega))]
    rfl
   | false =>
    have hq2 : Aside (p y = false) := hq
    rw [hq] at hcall; clear hq
    go_wp2_with (go_at_fn g; refine hcall.mono ?_; rintro e w' ⟨rfl, hb'⟩)
    go_roundg (zs.length - (kk + 1))
    case measure => omega
    case rel =>
     refine ⟨kk + 1, by omega, by omega, by go_num, BW.out.trans (hb'.mono BW.out.size), (show Aside _ from fun j hj hj2 => ?_)⟩
     by_cases e : j = kk
     ·subst e
      rw [B.out]; exact hq2.out
     ·exact A.out j (by omega) hj2
  ·have hltz : ¬ (kk : Int) < (zs.length : Int) := by omega
   go_wp2_with fail
   go_ret
   refine ⟨?_, BW.out⟩
   rw [← hE.out, find_miss (fun j hj => A.out j (by omega) hj)]
   rfl
theorem cont_el (p : EL → Bool) (g : Nat) (lb : Array Value) (eg : ∀ args w, (callFunc g args).run Tryz.prog w = .ok (.enter g args) w) (ao : Option Addr) (c : Nat) (zs : List EL) (w : World) (r : Bool)
  (hp : PredOn Tryz.prog g lb (fun x => Value.agg (elC x).toArray) p w zs) (hr : RowC 4 elC w ao zs) (hbig : zs.length ≤ maxLen) (hE : Hid (zs.any p = r)) :
  Calls Tryz.prog 97 #[.slice ao zs.length c, .func (.func g) #[] lb] w fun e w' => e = .returned (.bool r) ∧ Below w.heap.size w w' := by
 rw [← hE.out, ← any_fidx]; clear hE
 have hc := idx_el p g lb eg ao c zs w _ hp hr hbig (Lib.hid rfl)
 generalize fidx (zs.findIdx? p) = q at hc ⊢
 clear hp hr
 go_enter Tryz.func97, Tryz.ntmps97
 go_wp2_with (go_at_call 138; refine hc.mono ?_; rintro e w' ⟨rfl, hb'⟩)
 go_ret
 exact ⟨by first | rfl | simp, hb'⟩
set_option maxHeartbeats 2000000 in
theorem idx_pat (p : Nat → Bool) (g : Nat) (lb : Array Value) (eg : ∀ args w, (callFunc g args).run Tryz.prog w = .ok (.enter g args) w) (ao : Option Addr) (c : Nat) (zs : List Nat) (w : World) (r : Int)
  (hp : PredOn Tryz.prog g lb (fun n : Nat => Value.int .u64 (n : Int)) p w zs) (hr : Cells .u64 w ao zs) (hbig : zs.length ≤ maxLen) (hE : Hid (fidx (zs.findIdx? p) = r)) :
  Calls Tryz.prog 157 #[.slice ao zs.length c, .func (.func g) #[] lb] w fun e w' => e = .returned (.int .i64 r) ∧ Below w.heap.size w w' := by
 unfold maxLen at hbig
 go_enter Tryz.func157, Tryz.ntmps157
 go_wp2_with fail
 go_loopg [5, 8] zs.length (fun gg _ s8 wr => ∃ kk : Nat, kk ≤ zs.length ∧ zs.length - kk ≤ gg ∧ s8 = .int .i64 kk ∧ Aside (Below w.heap.size w wr) ∧ Aside (∀ j (hj : j < kk) (hj2 : j < zs.length), p zs[j] = false))
 case atStart => exact ⟨0, Nat.zero_le _, by omega, rfl, Below.refl _ w, fun j hj => absurd hj (Nat.not_lt_zero _)⟩
 case round =>
  obtain ⟨kk, hkk, hg, rfl, BW, A⟩ := hrel
  by_cases hlt : kk < zs.length
  ·have hltz : (kk : Int) < (zs.length : Int) := by omega
   rcases hr with h0 | ⟨b, off, rfl, hb, hc⟩
   ·rw [h0] at hlt; simp at hlt
   have l2 := (BW.out.cell (p := ⟨b, off + kk, none⟩) hb).trans (hc kk hlt)
   rw [List.getElem?_eq_getElem hlt, Option.getD_some] at l2
   have hcall := hp wr zs[kk] (List.getElem_mem hlt) BW.out
   clear hc hp
   have h0k : (0 : Int) ≤ (kk : Int) := by omega
   generalize hy : zs[kk] = y at l2 hcall
   have B : Aside (zs[kk] = y) := hy
   clear hy
   cases hq : p y with
   | true =>
    have hq2 : Aside (p y = true) := hq
    rw [hq] at hcall; clear hq
    go_wp2_with (go_at_fn g; refine hcall.mono ?_; rintro e w' ⟨rfl, hb'⟩)
    go_ret
    refine ⟨?_, BW.out.trans (hb'.mono BW.out.size)⟩
    rw [← hE.out, find_hit hlt (by rw [B.out]; exact hq2.out) (fun j hj => A.out j hj (by omega))]
    rfl
   | false =>
    have hq2 : Aside (p y = false) := hq
    rw [hq] at hcall; clear hq
    go_wp2_with (go_at_fn g; refine hcall.mono ?_; rintro e w' ⟨rfl, hb'⟩)
    go_roundg (zs.length - (kk + 1))
    case measure => omega
    case rel =>
     refine ⟨kk + 1, by omega, by omega, by go_num, BW.out.trans (hb'.mono BW.out.size), (show Aside _ from fun j hj hj2 => ?_)⟩
     by_cases e : j = kk
     ·subst e
      rw [B.out]; exact hq2.out
     ·exact A.out j (by omega) hj2
  ·have hltz : ¬ (kk : Int) < (zs.length : Int) := by omega
   go_wp2_with fail
   go_ret
   refine ⟨?_, BW.out⟩
   rw [← hE.out, find_miss (fun j hj => A.out j (by omega) hj)]
   rfl
theorem cont_pat (p : Nat → Bool) (g : Nat) (lb : Array Value) (eg : ∀ args w, (callFunc g args).run Tryz.prog w = .ok (.enter g args) w) (ao : Option Addr) (c : Nat) (zs : List Nat) (w : World) (r : Bool)
  (hp : PredOn Tryz.prog g lb (fun n : Nat => Value.int .u64 (n : Int)) p w zs) (hr : Cells .u64 w ao zs) (hbig : zs.length ≤ maxLen) (hE : Hid (zs.any p = r)) :
  Calls Tryz.prog 128 #[.slice ao zs.length c, .func (.func g) #[] lb] w fun e w' => e = .returned (.bool r) ∧ Below w.heap.size w w' := by
 rw [← hE.out, ← any_fidx]; clear hE
 have hc := idx_pat p g lb eg ao c zs w _ hp hr hbig (Lib.hid rfl)
 generalize fidx (zs.findIdx? p) = q at hc ⊢
 clear hp hr
 go_enter Tryz.func128, Tryz.ntmps128
 go_wp2_with (go_at_call 157; refine hc.mono ?_; rintro e w' ⟨rfl, hb'⟩)
 go_ret
 exact ⟨by first | rfl | simp, hb'⟩
end Go.Proofs.YtcpfanpcdkoiaaaGreat
namespace Go.Proofs.YtcpfanpcdkoiaaaGreat
open Go.RowKit


theorem find1_any (x : EN) (t n : Int) (pt pn : Nat) (w : World) (ht : w.cell? ⟨pt, 0, none⟩ = some (.int .i64 t)) (hn : w.cell? ⟨pn, 0, none⟩ = some (.int .i64 n)) (r : Bool) (hr : Hid ((decide (x.tree = t) && decide (x.node = n)) = r)) :
  Calls Tryz.prog 106 #[.agg (enC x).toArray, .pointer (some ⟨pt, 0, none⟩), .pointer (some ⟨pn, 0, none⟩)] w fun e w' => e = .returned (.bool r) ∧ Below w.heap.size w w' := by
 unfold enC
 obtain ⟨x0, x1, x2, x3, x4, x5, x6, x7⟩ := x
 have ht2 := World.block_lt_of_cell? w ⟨pt, 0, none⟩ ht
 have hn2 := World.block_lt_of_cell? w ⟨pn, 0, none⟩ hn
 by_cases q : x0 = t
 ·by_cases q2 : x1 = n
  ·have hr2 : r = true := by rw [← hr.out]; simp [q, q2]
   subst q q2 hr2; clear hr
   go_enter Tryz.func106, Tryz.ntmps106
   go_wp2_with fail
   go_ret
   exact ⟨rfl, (Below.refl _ w).alloc (Nat.le_refl _) _⟩
  ·have hr2 : r = false := by rw [← hr.out]; simp [q, q2]
   subst q hr2; clear hr
   have q3 : (x1 == n) = false := by simp [q2]
   go_enter Tryz.func106, Tryz.ntmps106
   go_wp2_with fail
   go_ret
   exact ⟨rfl, (Below.refl _ w).alloc (Nat.le_refl _) _⟩
 ·have hr2 : r = false := by rw [← hr.out]; simp [q]
  subst hr2; clear hr
  have q3 : (x0 == t) = false := by simp [q]
  go_enter Tryz.func106, Tryz.ntmps106
  go_wp2_with fail
  go_ret
  exact ⟨rfl, (Below.refl _ w).alloc (Nat.le_refl _) _⟩
theorem enter_find1 : ∀ args w, (callFunc 106 args).run Tryz.prog w = .ok (.enter 106 args) w := enters_of Tryz.func106 (by kernel_rfl) rfl
theorem fidx_get (o : Option Nat) : IntKind.i64.wrap 0 = 0 ∧ max (fidx o) 0 = ((o.getD 0 : Nat) : Int) ∧ decide (0 ≤ fidx o) = o.isSome := by
 refine ⟨by decide, ?_, ?_⟩
 ·cases o with
  | none => rfl
  | some k => rw [show fidx (some k) = (k : Int) from rfl]; simp only [Option.getD_some]; omega
 ·cases o with
  | none => rfl
  | some k => rw [show fidx (some k) = (k : Int) from rfl]; simp
set_option maxHeartbeats 1000000 in
theorem find_any (v : Value) (e : EE) (bo : Option Addr) (bc : Nat) (no : Option Addr) (nc : Nat) (lo : Option Addr) (lc : Nat) (t n : Int) (w : World) (h : EnsIs w v e bo bc no nc lo lc) (g : Nat) (i : Bool) (hg : Hid ((findE e.nodes t n).getD 0 = g)) (hi : Hid ((findE e.nodes t n).isSome = i)) :
  Calls Tryz.prog 36 #[v, .int .i64 t, .int .i64 n] w fun e_1 w' => e_1 = .returned (.tuple #[.int .i64 (g : Int), .bool i]) ∧ Below w.heap.size w w' := by
 obtain ⟨rfl, h1, h2, h4, h5, h3, h6, h7, h8, h9⟩ := h
 obtain ⟨w0, hw0⟩ : ∃ w0, w0 = (((w.alloc (.cells #[.int .i64 e.feats, .int .i64 e.tgts, .string ⟨e.agg.toArray⟩, .string ⟨e.post.toArray⟩, .slice bo e.base.length bc, .slice no e.nodes.length nc, .slice lo e.leaves.length lc] 75)).alloc (.cells #[.int .i64 t] 3)).alloc (.cells #[.int .i64 n] 3)) := ⟨_, rfl⟩
 have hbf : Below w.heap.size w w0 := by rw [hw0]; exact ((((Below.refl _ w).alloc (Nat.le_refl _) _).alloc (by simp <;> omega) _).alloc (by simp <;> omega) _)
 obtain ⟨pe, hpe⟩ : ∃ p, p = w.heap.size := ⟨_, rfl⟩
 have hbe : BoxL w0 pe [.int .i64 e.feats, .int .i64 e.tgts, .string ⟨e.agg.toArray⟩, .string ⟨e.post.toArray⟩, .slice bo e.base.length bc, .slice no e.nodes.length nc, .slice lo e.leaves.length lc] := by rw [hw0, hpe]; exact BoxL.of7 (by go_simp) (by go_simp) (by go_simp) (by go_simp) (by go_simp) (by go_simp) (by go_simp) (by go_simp) (by go_simp) (by go_simp) (by go_simp) (by go_simp) (by go_simp) (by go_simp)
 obtain ⟨pt, hpt⟩ : ∃ p, p = w.heap.size + 1 := ⟨_, rfl⟩
 have hbt : Box w0 pt (Value.int .i64 t) := by rw [hw0, hpt]; exact ⟨by go_simp, by go_simp, by simp <;> omega⟩
 obtain ⟨pn, hpn⟩ : ∃ p, p = w.heap.size + 1 + 1 := ⟨_, rfl⟩
 have hbn : Box w0 pn (Value.int .i64 n) := by rw [hw0, hpn]; exact ⟨by go_simp, by go_simp, by simp <;> omega⟩
 have HP : Hid (w.heap.size ≤ pe ∧ pe < pt ∧ pt < pn) := Lib.hid (by omega)
 have HW := Lib.hid hw0; clear hw0
 go_enter Tryz.func36, Tryz.ntmps36
 go_upto_region 1 with fail
 rw [← HW.out, ← hpn, ← hpt, ← hpe]
 clear hpe hpt hpn HW
 obtain ⟨ee0, ee1, ee2, ee3, ee4, ee5, ee6⟩ := hbe.c7
 have hcall := idx_en (fun y => decide (y.tree = t) && decide (y.node = n)) 106 #[.pointer (some ⟨pt, 0, none⟩), .pointer (some ⟨pn, 0, none⟩)] enter_find1 no nc e.nodes w0 _ (fun W x hx hb => find1_any x t n pt pn W ((hbt.kept hb).cell) ((hbn.kept hb).cell) _ (Lib.hid rfl)) (h2.below (B := 0) hbf) h3 (Lib.hid rfl)
 obtain ⟨q1, q2, q3⟩ := fidx_get (findE e.nodes t n)
 rw [hg.out] at q2
 rw [hi.out] at q3
 change Calls _ _ _ _ (fun e_1 w' => e_1 = .returned (.int .i64 (fidx (findE e.nodes t n))) ∧ _) at hcall
 generalize fidx (findE e.nodes t n) = r9 at q2 q3 hcall
 clear hg hi q1
 go_wp2_with (go_at_call 105; refine hcall.mono ?_; rintro e w1 ⟨rfl, hb1⟩)
 exact bodyPost_ret (v := .tuple #[.int .i64 g, .bool i]) (by simp [results, Tryz.results36, go_sem]) rfl ⟨rfl, hbf.trans (hb1.mono hbf.size)⟩
section
open Go.Sort Go.Proofs
theorem grow_none (w : World) : grow w #[] = w := by simp [grow]
theorem below_own {B : Nat} {w w' : World} {g : Nat} (h : w.grownBy w' (some g)) (hg : B ≤ g) : w.heap.size ≥ B → Below B w w' := fun hB =>
 ⟨h.os, h.tape, h.output, h.size, fun k hk => h.block k (by omega) (by simp; omega)⟩
theorem sort_own {B : Nat} {w : World} {v : Value} {ns : List Int} (hO : Owns B 3 w v (ivals .i64 ns)) (hl : ns.length ≤ 1000000) (hB : B ≤ w.heap.size) :
  Calls Tryz.prog 49 #[v] w fun e w' => e = .returned (.tuple #[]) ∧ Owns B 3 w' v (ivals .i64 (ns.mergeSort fun x y => decide (x ≤ y))) ∧ Below B w w' := by
 have hlen : (ivals .i64 ns).length = ns.length := ivals_length _ _
 obtain ⟨h1, ⟨rfl, hn⟩ | ⟨g, cap, cur, rfl, h2, h3, h4, h5, h6, h7⟩⟩ := hO
 ·rw [hlen] at hn
  have : ns = [] := List.eq_nil_of_length_eq_zero hn
  subst this
  refine (Tryz.slices_Sort_int_none none 0 w).mono ?_
  rintro e w' ⟨rfl, rfl⟩
  exact ⟨rfl, by simpa [ivals] using Owns.nil B 3 _, Below.refl _ _⟩
 ·rw [hlen] at h4 h7 ⊢
  have hgl := (Array.getElem?_eq_some_iff.1 h3).1
  refine (Tryz.slices_Sort_int g 0 cap ns w (holds_of_blockI h3 (by simpa [ivals] using h7)) hgl (by omega)).mono ?_
  rintro e w' ⟨rfl, n, os, rfl⟩
  refine ⟨rfl, ?_, below_own (grownBy_sortedI _) h2 hB⟩
  have := ownsRow_sortedI (w := w) (n := n) (os := os) (ss := ns) (ts := ns.mergeSort fun x y => decide (x ≤ y)) (by simp) h2 h3 h4 h5 h6
  unfold Owns
  rw [ivals_length, List.length_mergeSort]
  exact this
theorem Owns.prefix {B : Nat} {e : TypeId} {w : World} {g n cap : Nat} {xs ys : List Value} (h : World.ownsRow w B e 1 (.slice (some ⟨g, 0, none⟩) n cap) n (xs ++ ys)) : Owns B e w (.slice (some ⟨g, 0, none⟩) xs.length cap) xs := by
 obtain ⟨h1, ⟨h, _⟩ | ⟨g', cap', cur, h0, h2, h3, h4, h5, h6, h7⟩⟩ := h
 ·cases h
 ·cases h0
  simp only [List.length_append, Nat.mul_one] at h1 h7
  refine ⟨by simp, .inr ⟨g, cap, cur, rfl, h2, h3, by omega, h5, h6, ?_⟩⟩
  have h8 : (cur.toList.take n).take xs.length = (xs ++ ys).take xs.length := by rw [h7]
  rw [List.take_take, List.take_left, Nat.min_eq_left (by omega)] at h8
  rw [Nat.mul_one]; exact h8
theorem compact_own {B : Nat} {w : World} {v : Value} {ns : List Int} (hO : Owns B 3 w v (ivals .i64 ns)) (hl : ns.length ≤ 1000000) (hB : B ≤ w.heap.size) :
  Calls Tryz.prog 50 #[v] w fun e w' => ∃ v', e = .returned v' ∧ Owns B 3 w' v' (ivals .i64 (Go.Lib.compact ns)) ∧ Below B w w' := by
 have hlen : (ivals .i64 ns).length = ns.length := ivals_length _ _
 obtain ⟨h1, ⟨rfl, hn⟩ | ⟨g, cap, cur, rfl, h2, h3, h4, h5, h6, h7⟩⟩ := hO
 ·rw [hlen] at hn
  have : ns = [] := List.eq_nil_of_length_eq_zero hn
  subst this
  refine (Tryz.slices_Compact_int_empty none 0 w).mono ?_
  rintro e w' ⟨rfl, rfl⟩
  have e0 : Go.Lib.compact ([] : List Int) = [] := by decide
  exact ⟨_, rfl, by rw [e0]; exact Owns.nil B 3 _, Below.refl _ _⟩
 ·rw [hlen] at h4 h7 ⊢
  have hgl := (Array.getElem?_eq_some_iff.1 h3).1
  have hcl := Go.Lib.compact_length_le ns
  refine (Tryz.slices_Compact_int g 0 cap ns w (holds_of_blockI h3 (by simpa [ivals] using h7)) (by omega) h4).mono ?_
  rintro e w' ⟨rfl, q, rfl⟩
  have := ownsRow_sortedI (w := w) (n := q) (os := #[]) (ss := ns) (ts := Go.Lib.compact ns ++ List.replicate (ns.length - (Go.Lib.compact ns).length) 0) (by simp; omega) h2 h3 h4 h5 h6
  rw [grow_none] at this
  refine ⟨_, rfl, ?_, ?_⟩
  ·rw [List.map_append] at this
   have h9 := Owns.prefix this
   rw [List.length_map] at h9
   exact h9
  ·have h9 := grownBy_sortedI (w := w) (g := g) (n := q) (os := #[]) (Go.Lib.compact ns ++ List.replicate (ns.length - (Go.Lib.compact ns).length) 0).toArray
   rw [grow_none] at h9
   exact below_own h9 h2 hB
end
set_option maxHeartbeats 1000000 in
theorem trees_any (v : Value) (e : EE) (bo : Option Addr) (bc : Nat) (no : Option Addr) (nc : Nat) (lo : Option Addr) (lc : Nat) (w : World) (h : EnsIs w v e bo bc no nc lo lc) (hlim : e.nodes.length ≤ 100000) :
  Calls Tryz.prog 32 #[v] w fun e_1 w' => ∃ r, e_1 = .returned r ∧ Owns w.heap.size 3 w' r (ivals .i64 (treesE e.nodes)) ∧ Below w.heap.size w w' := by
 obtain ⟨rfl, h1, h2, h4, h5, h3, h6, h7, h8, h9⟩ := h
 obtain ⟨w0, hw0, hbf, pe, hpe, hbe⟩ := boxE w e bo bc no nc lo lc
 have HP : Hid (w.heap.size ≤ pe) := Lib.hid (by omega)
 have HW := Lib.hid hw0; clear hw0
 go_enter Tryz.func32, Tryz.ntmps32
 go_upto_region 1 with fail
 rw [← HW.out, ← hpe]
 clear hpe HW
 have ee5 := hbe.cell 5 _ rfl
 go_wp2_with fail
 go_loopg [3, 9] e.nodes.length (fun gg ov iv wr => ∃ i : Nat, i + gg = e.nodes.length ∧ iv = .int .i64 (i : Int) ∧ Owns w0.heap.size 3 wr ov (ivals .i64 ((e.nodes.take i).map (·.tree))) ∧ Below w0.heap.size w0 wr)
 case atStart => exact ⟨0, by omega, rfl, by simpa [ivals] using Owns.nil _ _ _, Below.refl _ _⟩
 case round =>
  obtain ⟨i, hi, rfl, hO, hbr⟩ := hrel
  replace hbe := hbe.kept hbr
  clear ee5
  have hlen : (ivals .i64 ((e.nodes.take i).map (·.tree))).length = i := by rw [ivals_length, List.length_map, List.length_take]; omega
  by_cases hil : i < e.nodes.length
  ·have hz : (i : Int) < (e.nodes.length : Int) := by omega
   have hz0 : (0 : Int) ≤ (i : Int) := by omega
   obtain ⟨b, off, rfl⟩ := h2.addr hil
   obtain ⟨y, hy⟩ : ∃ y, e.nodes[i] = y := ⟨_, rfl⟩
   obtain ⟨c0, c1, c2, c3, c4, c5, c6, c7⟩ := RowC.c8 h2 (hbf.trans (hbr.mono hbf.size)) hil y hy
   have HT : Hid ((e.nodes.take (i + 1)).map (·.tree) = (e.nodes.take i).map (·.tree) ++ [y.tree]) := Lib.hid (by rw [List.take_succ_eq_append_getElem hil, List.map_append, hy]; rfl)
   clear hy
   obtain ⟨w2, hwE, hb2, px, hpE, hbx⟩ := boxN wr y
   have HW := Lib.hid hwE; clear hwE
   go_upto_region 5 with fail
   rw [← HW.out, ← hpE]
   clear HW hpE
   have hO2 := Owns.kept hO hb2
   have hbr2 := hbr.trans (hb2.mono hbr.size)
   have x0 := hbx.cell 0 _ rfl
   go_wp2_with (at_builtin; refine append1 E_ints hO2 rfl rfl rfl rfl rfl (by rw [hlen]; omega) (by rw [hlen]; unfold maxLen; omega) hbr2.size ?_; intro v6 w6 ho6 hb6 hg6)
   go_roundg (gk - 1)
   case measure => omega
   case rel => exact ⟨i + 1, by omega, by first | rfl | go_num, by rw [HT.out]; simpa [ivals] using ho6, hbr2.trans hb6⟩
  ·have hz : ¬ (i : Int) < (e.nodes.length : Int) := by omega
   rw [List.take_of_length_le (by omega)] at hO hlen
   have hS := sort_own hO (by rw [List.length_map]; omega) hbr.size
   go_wp2_with (go_at_call 49; refine hS.mono ?_; rintro e w7 ⟨rfl, hO7, hb7⟩)
   have hC := compact_own hO7 (by rw [List.length_mergeSort, List.length_map]; omega) (Nat.le_trans hbr.size hb7.size)
   go_wp2_with (go_at_call 50; refine hC.mono ?_; rintro e w8 ⟨v8, rfl, hO8, hb8⟩)
   go_ret
   rw [sort_compact] at hO8
   exact ⟨_, rfl, hO8.mono hbf.size, hbf.trans ((hbr.trans (hb7.trans hb8)).mono hbf.size)⟩
end Go.Proofs.YtcpfanpcdkoiaaaGreat
namespace Go.Proofs.YtcpfanpcdkoiaaaGreat
open Go.RowKit


abbrev ensV (e : EE) (bo : Option Addr) (bc : Nat) (no : Option Addr) (nc : Nat) (lo : Option Addr) (lc : Nat) : Value := .agg #[.int .i64 e.feats, .int .i64 e.tgts, .string ⟨e.agg.toArray⟩, .string ⟨e.post.toArray⟩, .slice bo e.base.length bc, .slice no e.nodes.length nc, .slice lo e.leaves.length lc]
def natI (l : List Nat) : List Int := l.map fun (k : Nat) => (k : Int)
theorem ints_pair {w w' : World} {p : Nat} {x y : Int} (t : TypeId) (hp : p = w.heap.size) (hw : w' = w.alloc (.cells #[.int .i64 x, .int .i64 y] t)) : ∀ i z, i < 2 → [x, y][i]? = some z → w'.cell? ⟨p, i, none⟩ = some (.int .i64 z) := by
 intro i z hi hz
 subst hp hw
 match i, hi, hz with
 | 0, _, hz => simp at hz; subst hz; go_simp
 | 1, _, hz => simp at hz; subst hz; go_simp
theorem natI_ivals_len (l : List Nat) : (ivals .i64 (natI l)).length = l.length := by simp [ivals, natI]
theorem kidsE_of {ns : List EN} {y : EN} (h : y.mode ≠ 7) : kidsE ns y = ([y.tru, y.fls].take 2).flatMap (fun x => (findE ns y.tree x).toList) := by
 simp [kidsE, h]
theorem kids_len {ns : List EN} {t : Int} (l : List Int) : (l.flatMap (fun x => (findE ns t x).toList)).length ≤ l.length := by
 induction l with
 | nil => simp
 | cons x r ih =>
  simp only [List.flatMap_cons, List.length_append, List.length_cons]
  have : (findE ns t x).toList.length ≤ 1 := by cases findE ns t x <;> simp
  omega
set_option maxHeartbeats 1000000 in
theorem kids_any (v : Value) (e : EE) (bo : Option Addr) (bc : Nat) (no : Option Addr) (nc : Nat) (lo : Option Addr) (lc : Nat) (k : Nat) (w : World) (h : EnsIs w v e bo bc no nc lo lc) (hk : k < e.nodes.length) (y : EN) (hy : e.nodes[k] = y) (ks : List Nat) (hks : Hid (kidsE e.nodes y = ks)) :
  Calls Tryz.prog 135 #[v, .int .i64 (k : Int)] w fun e_1 w' => ∃ r, e_1 = .returned r ∧ Owns w.heap.size 3 w' r (ivals .i64 (natI ks)) ∧ Below w.heap.size w w' := by
 obtain ⟨rfl, h1, h2, h4, h5, h3, h6, h7, h8, h9⟩ := h
 obtain ⟨w0, hw0, hbf, pe, hpe, hbe⟩ := boxE w e bo bc no nc lo lc
 have HP : Hid (w.heap.size ≤ pe) := Lib.hid (by omega)
 have HW := Lib.hid hw0; clear hw0
 go_enter Tryz.func135, Tryz.ntmps135
 go_upto_region 1 with fail
 rw [← HW.out, ← hpe]
 clear hpe HW
 have hE : EnsIs w0 (ensV e bo bc no nc lo lc) e bo bc no nc lo lc := EnsIs.below ⟨rfl, h1, h2, h4, h5, h3, h6, h7, h8, h9⟩ hbf
 have ee5 := hbe.cell 5 _ rfl
 obtain ⟨b, off, rfl⟩ := h2.addr hk
 obtain ⟨c0, c1, c2, c3, c4, c5, c6, c7⟩ := RowC.c8 h2 hbf hk y hy
 have hkz : (k : Int) < (e.nodes.length : Int) := by omega
 have hkz0 : (0 : Int) ≤ (k : Int) := by omega
 clear hy
 obtain ⟨w2, hwE, hb2, px, hpE, hbx⟩ := boxN w0 y
 have HW := Lib.hid hwE; clear hwE
 go_upto_region 2 with fail
 rw [← HW.out, ← hpE]
 clear HW hpE
 clear ee5 c0 c1 c2 c3 c4 c5 c6 c7 hkz hkz0
 have hbf2 := hbf.trans (hb2.mono hbf.size)
 replace hE := hE.below hb2
 replace hbe := hbe.kept hb2
 have x3 := hbx.cell 3 _ rfl
 by_cases hm : y.mode = 7
 ·rw [hm] at x3
  have hr : ks = [] := by rw [← hks.out]; unfold kidsE; rw [if_pos hm]
  subst hr; clear hm hks
  go_wp2_with fail
  go_ret
  exact ⟨_, rfl, Owns.nil _ _ _, hbf2⟩
 ·have hm7 : (y.mode == 7) = false := by simp [hm]
  have hks2 := Lib.hid ((kidsE_of hm).symm.trans hks.out); clear hks
  have x5 := hbx.cell 5 _ rfl
  have x6 := hbx.cell 6 _ rfl
  clear hm
  obtain ⟨w3, hwE⟩ : ∃ W, W = w2.alloc (.cells #[.int .i64 y.tru, .int .i64 y.fls] 3) := ⟨_, rfl⟩
  have hb3 : Below w2.heap.size w2 w3 := by rw [hwE]; exact (Below.refl _ w2).alloc (Nat.le_refl _) _
  obtain ⟨pl, hpE⟩ : ∃ p, p = w2.heap.size := ⟨_, rfl⟩
  have hpl : pl < w3.heap.size := by rw [hwE, hpE]; simp
  have hcl := ints_pair _ hpE hwE
  have HW := Lib.hid hwE; clear hwE
  go_wp2_with fail
  rw [← HW.out, ← hpE]
  clear HW hpE x3 x5 x6 hm7
  replace hbf2 := hbf2.trans (hb3.mono hbf2.size)
  replace hE := hE.below hb3
  replace hbe := hbe.kept hb3
  replace hbx := hbx.kept hb3
  obtain ⟨L, hL⟩ : ∃ L, L = [y.tru, y.fls] := ⟨_, rfl⟩
  have hL2 : L.length = 2 := by rw [hL]; rfl
  rw [← hL] at hcl hks2
  clear hL
  go_loopg [6, 25] 2 (fun gg ov iv wr => ∃ i : Nat, i + gg = 2 ∧ iv = .int .i64 (i : Int) ∧ Owns w3.heap.size 3 wr ov (ivals .i64 (natI ((L.take i).flatMap (fun x => (findE e.nodes y.tree x).toList)))) ∧ Below w3.heap.size w3 wr)
  case atStart => exact ⟨0, by omega, rfl, by simpa [ivals, natI] using Owns.nil _ _ _, Below.refl _ _⟩
  case round =>
   obtain ⟨i, hi, rfl, hO, hbr⟩ := hrel
   replace hbe := hbe.kept hbr
   replace hbx := hbx.kept hbr
   replace hE := hE.below hbr
   have hlen := natI_ivals_len ((L.take i).flatMap (fun x => (findE e.nodes y.tree x).toList))
   have hlen2 := kids_len (ns := e.nodes) (t := y.tree) (L.take i)
   rw [List.length_take] at hlen2
   by_cases hil : i < 2
   ·have hz : (i : Int) < 2 := by omega
    have hz0 : (0 : Int) ≤ (i : Int) := by omega
    obtain ⟨z, hzz⟩ : ∃ z, L[i]? = some z := ⟨_, List.getElem?_eq_getElem (by omega)⟩
    have cz := (hbr.cell (p := ⟨pl, i, none⟩) hpl).trans (hcl i z hil hzz)
    have HT : Hid ((L.take (i + 1)).flatMap (fun x => (findE e.nodes y.tree x).toList) = (L.take i).flatMap (fun x => (findE e.nodes y.tree x).toList) ++ (findE e.nodes y.tree z).toList) := Lib.hid (by rw [List.take_add_one, hzz, List.flatMap_append]; simp)
    clear hcl hzz hks2
    have x0 := hbx.cell 0 _ rfl
    obtain ⟨ee0, ee1, ee2, ee3, ee4, ee5, ee6⟩ := hbe.c7
    obtain ⟨q, hq⟩ : ∃ q, findE e.nodes y.tree z = q := ⟨_, rfl⟩
    have hfind := fun g i9 => find_any _ e _ _ _ _ _ _ y.tree z wr hE g i9
    rw [hq] at hfind HT
    clear hq
    cases q with
    | none =>
     have hcall := hfind 0 false (Lib.hid rfl) (Lib.hid rfl)
     clear hfind
     go_wp2_with (go_at_call 36; refine hcall.mono ?_; rintro e w6 ⟨rfl, hb6⟩)
     go_roundg (gk - 1)
     case measure => omega
     case rel => exact ⟨i + 1, by omega, by first | rfl | go_num, by rw [HT.out]; simpa [natI, ivals] using Owns.kept hO hb6, hbr.trans (hb6.mono hbr.size)⟩
    | some k9 =>
     have hcall := hfind k9 true (Lib.hid rfl) (Lib.hid rfl)
     clear hfind
     have hlz : (ivals .i64 (natI ((L.take i).flatMap (fun x => (findE e.nodes y.tree x).toList)))).length ≤ 2 := by omega
     go_wp2_with (first | (go_at_call 36; refine hcall.mono ?_; rintro e w6 ⟨rfl, hb6⟩; replace hO := Owns.kept hO hb6; have hbr6 := hbr.trans (hb6.mono hbr.size)) | (at_builtin; refine append1 E_ints hO rfl rfl rfl rfl rfl (by omega) (by unfold maxLen; omega) hbr6.size ?_; intro v6 w7 ho6 hb7 hg6))
     go_roundg (gk - 1)
     case measure => omega
     case rel => exact ⟨i + 1, by omega, by first | rfl | go_num, by rw [HT.out]; simpa [natI, ivals] using ho6, hbr6.trans hb7⟩
   ·have hz : ¬ (i : Int) < 2 := by omega
    have hi2 : i = 2 := by omega
    subst hi2
    rw [hks2.out] at hO
    clear hks2 hlen hlen2 hcl
    go_wp2_with fail
    go_ret
    exact ⟨_, rfl, hO.mono hbf2.size, hbf2.trans (hbr.mono hbf2.size)⟩
end Go.Proofs.YtcpfanpcdkoiaaaGreat
namespace Go.Proofs.YtcpfanpcdkoiaaaGreat
open Go.RowKit Go.Maps


theorem plainElem_bool_inv {P : Program} {e : TypeId} {H : Type} (he : P.underlying e = some .bool) {v : Value} {z : DataW H × List MemPlace} (h : plainElem P e v = some z) : ∃ c, v = .bool c ∧ z = (.lit (.bool c), []) := by
 unfold plainElem at h
 rw [he] at h
 cases v <;> simp at h
 exact ⟨_, rfl, h.symm⟩
theorem lookup_bool {H : Type} {P : Program} {w : World} {b n : Nat} {D : DataW H} {t k e : TypeId} (h : w.ownsMap P k (plainElem P e) b n D) (K : Keyed P k) (ht : P.underlying t = some (.map k e)) (he : P.underlying e = some .bool) (hz : (zeroValue e).run P w = .ok (.bool false) w)
  {key : Value} {kl : Lit} (hkey : keyOf P k key = some kl) : ∃ c, (Instr.lookup t (.map (some b)) key false).run P w = .ok (.bool c) w ∧ D.atKey kl (.lit (.bool false)) = .lit (.bool c) := by
 obtain ⟨v, ps, hrun, hv⟩ := h.lookup K ht hz (plainElem_bool he false) hkey
 obtain ⟨c, rfl, hc⟩ := plainElem_bool_inv he hv
 simp only [Prod.mk.injEq] at hc
 exact ⟨c, hrun, hc.1⟩
theorem step_mapUpdate {H : Type} {P : Program} {w : World} {o : Oper} {a : Act} {K9 : Act → World → Prop} {Q : Exit → Act → World → Prop}
  {m x v : Operand} {t : TypeId} (hop : o.op = Op.mapUpdate t m x v)
  {k e : TypeId} (K : Keyed P k) (ht : P.underlying t = some (.map k e)) {R : Value → Option (DataW H × List MemPlace)} {b n : Nat} {D : DataW H}
  {key val : Value} {kl : Lit} (hm : a.eval m = .map (some b)) (hx : a.eval x = key) (hv : a.eval v = val) (hown : w.ownsMap P k R b n D) (hn : n < maxLen) (hkey : keyOf P k key = some kl)
  {d : DataW H} {ps : List MemPlace} (hval : R val = some (d, ps))
  (hK : ∀ w', w'.ownsMap P k R b (n + 1) (D.put kl d) → w.grownBy w' (some b) → K9 (a.put o.dst undef) w') : Oper.wp P o a w K9 Q := by
 obtain ⟨w', hrun, r1, r2⟩ := hown.update K ht hn hkey hval
 unfold Oper.wp
 simp [execOp, hop, hm, hx, hv, hrun, Result.andThen]
 exact hK _ r1 r2
theorem grown_of_below {w w' : World} (h : Below w.heap.size w w') : w.grownBy w' none := ⟨h.os, h.tape, h.output, h.size, fun k hk _ => h.block k hk⟩
theorem law_int : Keyed Tryz.prog 3 := int_keyed Tryz.underlying3
theorem zero_bool (w : World) : (zeroValue 4).run Tryz.prog w = .ok (.bool false) w := by kernel_rfl
theorem key_int {x : Int} (h : IW x) : keyOf Tryz.prog 3 (.int .i64 x) = some (.int .i64 x) := keyOf_int_mk Tryz.underlying3 h
def Says (D : DataW Unit) (f : Int → Bool) : Prop := IsMap D ∧ ∀ x, D.atKey (.int .i64 x) (.lit (.bool false)) = .lit (.bool (f x))
theorem Says.put {D : DataW Unit} {f : Int → Bool} (h : Says D f) (y : Int) : Says (D.put (.int .i64 y) (.lit (.bool true))) (fun x => decide (y = x) || f x) := by
 refine ⟨?_, fun x => ?_⟩
 ·obtain ⟨es, rfl⟩ := h.1
  exact ⟨_, rfl⟩
 ·by_cases e : y = x
  ·subst e
   rw [atKey_put_same h.1 (by trivial)]
   simp
  ·rw [atKey_put_other (by intro h9; injection h9 with h8 h7; exact e h7.symm), h.2 x]
   simp [e]
theorem Says.of {D : DataW Unit} {f g : Int → Bool} (h : Says D f) (hg : ∀ x, f x = g x) : Says D g := ⟨h.1, fun x => by rw [h.2 x, hg x]⟩
theorem behind_snoc (ns : List EN) (y : EN) (t x : Int) : behindE (ns ++ [y]) t x = (behindE ns t x || (decide (y.tree = t) && (decide (y.mode ≠ 7) && (decide (y.tru = x) || decide (y.fls = x))))) := by
 simp [behindE]
set_option maxHeartbeats 1000000 in
theorem root_any (v : Value) (e : EE) (bo : Option Addr) (bc : Nat) (no : Option Addr) (nc : Nat) (lo : Option Addr) (lc : Nat) (t : Int) (w : World) (h : EnsIs w v e bo bc no nc lo lc) (hl : e.nodes.length ≤ 100000) (g : Nat) (i9 : Bool) (hg : Hid ((rootE e.nodes t).getD 0 = g)) (hi9 : Hid ((rootE e.nodes t).isSome = i9)) :
  Calls Tryz.prog 34 #[v, .int .i64 t] w fun e_1 w' => e_1 = .returned (.tuple #[.int .i64 (g : Int), .bool i9]) ∧ Below w.heap.size w w' := by
 obtain ⟨rfl, h1, h2, h4, h5, h3, h6, h7, h8, h9⟩ := h
 have hmm := @run_makeMap Tryz.prog
 obtain ⟨w0, hw0, hbf, pe, hpe, hbe⟩ := boxE w e bo bc no nc lo lc
 have HP : Hid (w.heap.size ≤ pe) := Lib.hid (by omega)
 have HW := Lib.hid hw0; clear hw0
 go_enter Tryz.func34, Tryz.ntmps34
 go_upto_region 1 with fail
 rw [← HW.out, ← hpe]
 clear hpe HW
 have hE : EnsIs w0 (ensV e bo bc no nc lo lc) e bo bc no nc lo lc := EnsIs.below ⟨rfl, h1, h2, h4, h5, h3, h6, h7, h8, h9⟩ hbf
 have ee5 := hbe.cell 5 _ rfl
 have hpe0 := Lib.hid hbe.lt
 obtain ⟨w1, hwE⟩ : ∃ W, W = w0.alloc (.map #[] 0) := ⟨_, rfl⟩
 have hb1 : Below w0.heap.size w0 w1 := by rw [hwE]; exact (Below.refl _ w0).alloc (Nat.le_refl _) _
 obtain ⟨pm, hpE⟩ : ∃ p, p = w0.heap.size := ⟨_, rfl⟩
 have hown : w1.ownsMap Tryz.prog 3 (plainElem (H := Unit) Tryz.prog 4) pm 0 (.map []) := by rw [hwE, hpE]; exact World.ownsMap_made _ _ _ _
 have hS0 : Says (.map []) (fun x => behindE (e.nodes.take 0) t x) := ⟨⟨_, rfl⟩, fun x => by simp [behindE]; rfl⟩
 have hpm : Hid (pm = w0.heap.size) := Lib.hid hpE
 have HW := Lib.hid hwE; clear hwE
 replace hbe := hbe.kept hb1
 go_step3
 go_upto_region 2 with fail
 rw [← HW.out, ← hpE]
 clear HW hpE hmm ee5
 have ee5 := hbe.cell 5 _ rfl
 go_wp2_with fail
 go_loopg [15] e.nodes.length (fun gg iv wr => ∃ (i : Nat) (D : DataW Unit), i + gg = e.nodes.length ∧ iv = .int .i64 (i : Int) ∧ wr.ownsMap Tryz.prog 3 (plainElem (H := Unit) Tryz.prog 4) pm (2 * i) D ∧ Hid (Says D (fun x => behindE (e.nodes.take i) t x)) ∧ Below w0.heap.size w0 wr ∧ BoxL wr pe [.int .i64 e.feats, .int .i64 e.tgts, .string ⟨e.agg.toArray⟩, .string ⟨e.post.toArray⟩, .slice bo e.base.length bc, .slice no e.nodes.length nc, .slice lo e.leaves.length lc])
 case atStart => exact ⟨0, _, by omega, rfl, hown, Lib.hid hS0, hb1, hbe⟩
 case round =>
  clear hown hS0 hbe ee5 hb1
  obtain ⟨i, D, hi, rfl, hown, hSD, hbr, hbe⟩ := hrel
  have ee5 := hbe.cell 5 _ rfl
  have hlt := hown.lt
  have hpe : pe ≠ pm := by have h10 := hpm.out; have h11 := hpe0.out; omega
  by_cases hil : i < e.nodes.length
  ·have hz : (i : Int) < (e.nodes.length : Int) := by omega
   have hz0 : (0 : Int) ≤ (i : Int) := by omega
   obtain ⟨b, off, rfl⟩ := h2.addr hil
   obtain ⟨y, hy⟩ : ∃ y, e.nodes[i] = y := ⟨_, rfl⟩
   obtain ⟨c0, c1, c2, c3, c4, c5, c6, c7⟩ := RowC.c8 h2 (hbf.trans (hbr.mono hbf.size)) hil y hy
   have HT : Hid (e.nodes.take (i + 1) = e.nodes.take i ++ [y]) := Lib.hid (by rw [List.take_succ_eq_append_getElem hil, hy])
   have hyw := h8 y (by rw [← hy]; exact List.getElem_mem hil)
   clear hy
   obtain ⟨w2, hwE, hb2, px, hpE, hbx⟩ := boxN wr y
   have HW := Lib.hid hwE; clear hwE
   go_upto_region 5 with fail
   rw [← HW.out, ← hpE]
   have Hpx := Lib.hid (Nat.le_of_eq hpE.symm)
   clear HW hpE
   replace hbe := hbe.kept hb2
   have hbr2 := hbr.trans (hb2.mono hbr.size)
   replace hown : w2.ownsMap Tryz.prog 3 (plainElem (H := Unit) Tryz.prog 4) pm (2 * i) D := hown.kept (row := none) ⟨hb2.os, hb2.tape, hb2.output, hb2.size, fun k hk _ => hb2.block k hk⟩ (by simp)
   have hpx : px ≠ pm := by have h10 := Hpx.out; have h11 := hlt; omega
   have x0 := hbx.cell 0 _ rfl
   have x3 := hbx.cell 3 _ rfl
   by_cases q : y.tree = t
   ·by_cases q2 : y.mode = 7
    ·have q3 : (y.mode != 7) = false := by simp [q2]
     have hSD2 : Hid (Says D (fun x => behindE (e.nodes.take (i + 1)) t x)) := Lib.hid (hSD.out.of fun x => by rw [HT.out, behind_snoc]; simp [q2])
     rw [q] at x0
     clear hSD q q2
     go_wp2_with fail
     go_roundg (gk - 1)
     case measure => omega
     case rel => exact ⟨i + 1, D, by omega, by first | rfl | go_num, hown.mono (by omega), hSD2, hbr2, hbe⟩
    ·have q3 : (y.mode != 7) = true := by simp [q2]
     have hSD2 := Lib.hid ((hSD.out.put y.tru).put y.fls |>.of (g := fun x => behindE (e.nodes.take (i + 1)) t x) fun x => by rw [HT.out, behind_snoc]; simp [q, q2]; cases decide (y.tru = x) <;> cases decide (y.fls = x) <;> simp)
     rw [q] at x0
     clear hSD q q2
     have hbf := hbf.trans (hbr2.mono hbf.size)
     obtain ⟨ex0, ex1, ex2, ex3, ex4, ex5, ex6, ex7⟩ := hbx.c8
     go_wp2_with fail
     clear ex0 ex1 ex2 ex3 ex4 ex5 ex6 ex7
     refine wp_region_seq (S := fun w' => BoxL w' px [.int .i64 y.tree, .int .i64 y.node, .int .i64 y.feat, .int .i64 y.mode, .int .u64 (y.val : Int), .int .i64 y.tru, .int .i64 y.fls, .bool y.trk]) [(true, 0), (true, 1), (true, 2), (true, 3), (true, 4), (true, 5), (false, 6), (false, 7)] (by kernel_rfl) (by kernel_rfl) (by kernel_rfl) (by kernel_rfl) (by kernel_rfl) (fun d _ _ _ _ h => by cases d <;> exact h) hbx.drew (fun _ => ?_)
     simp only [pickOps, List.append_eq, List.cons_append, List.nil_append, List.getElem?_toArray, List.getElem?_cons_succ, List.getElem?_cons_zero]
     have hb : Below w2.heap.size w2 w2.drew := (Below.refl _ _).drew
     generalize w2.drew = w1 at hb ⊢
     replace hbx := hbx.kept hb
     replace hown := hown.kept (row := none) (grown_of_below hb) (by simp)
     replace hbe := hbe.kept hb
     replace hbr2 := hbr2.trans (hb.mono hbr2.size)
     replace hbf := hbf.trans (hb.mono hbf.size)
     clear hb
     repeat (first | (refine seq_take (v := ?_) (by rfl) ?_ ?_; rotate_left; (· intro w hSw; (try dsimp only at hSw); have hLx := hSw; clear hSw; obtain ⟨ex0, ex1, ex2, ex3, ex4, ex5, ex6, ex7⟩ := hLx.c8; clear hLx; go_simp; all_goals with_reducible rfl); (try simp only [Act.put, List.setIfInBounds_toArray, List.set_cons_zero, List.set_cons_succ])) | (refine seq_leave (by rfl) ?_; (try simp only [Act.put, List.setIfInBounds_toArray, List.set_cons_zero, List.set_cons_succ])))
     refine seq_step (by rfl) (fun K hK => ?_)
     refine step_mapUpdate rfl law_int Tryz.underlying143 (b := pm) rfl rfl rfl hown (by unfold maxLen; omega) (key_int hyw.tru) (plainElem_bool Tryz.underlying4 true) (fun w2 hown' hgrow => ?_)
     replace hbx := hbx.block (hgrow.block px hbx.lt (by simpa using hpx))
     replace hbe := hbe.block (hgrow.block pe hbe.lt (by simpa using hpe))
     replace hbr2 := hbr2.grown hgrow hbr2.size (fun j hj => by cases hj; exact Nat.le_of_eq hpm.out.symm)
     clear hown
     have hown := hown'
     clear hown' hgrow
     first | refine hK.out _ _ hbx (fun _ => ?_) | (go_wp2_with fail; refine hK.out _ _ hbx (fun _ => ?_))
     clear hK K
     (try simp only [Act.put, List.setIfInBounds_toArray, List.set_cons_zero, List.set_cons_succ])
     refine seq_step (by rfl) (fun K hK => ?_)
     refine step_mapUpdate rfl law_int Tryz.underlying143 (b := pm) rfl rfl rfl hown (by unfold maxLen; omega) (key_int hyw.fls) (plainElem_bool Tryz.underlying4 true) (fun w3 hown' hgrow => ?_)
     replace hbx := hbx.block (hgrow.block px hbx.lt (by simpa using hpx))
     replace hbe := hbe.block (hgrow.block pe hbe.lt (by simpa using hpe))
     replace hbr2 := hbr2.grown hgrow hbr2.size (fun j hj => by cases hj; exact Nat.le_of_eq hpm.out.symm)
     clear hown
     have hown := hown'
     clear hown' hgrow
     first | refine hK.out _ _ hbx (fun _ => ?_) | (go_wp2_with fail; refine hK.out _ _ hbx (fun _ => ?_))
     clear hK K
     (try simp only [Act.put, List.setIfInBounds_toArray, List.set_cons_zero, List.set_cons_succ])
     refine seq_end ?_
     go_wp2_with fail
     go_roundg (gk - 1)
     case measure => omega
     case rel => exact ⟨i + 1, _, by omega, by first | rfl | go_num, hown.mono (by omega), hSD2, hbr2, hbe⟩
   ·have q3 : (y.tree == t) = false := by simp [q]
    have hSD2 : Hid (Says D (fun x => behindE (e.nodes.take (i + 1)) t x)) := Lib.hid (hSD.out.of fun x => by rw [HT.out, behind_snoc]; simp [q])
    clear hSD q
    go_wp2_with fail
    go_roundg (gk - 1)
    case measure => omega
    case rel => exact ⟨i + 1, D, by omega, by first | rfl | go_num, hown.mono (by omega), hSD2, hbr2, hbe⟩
  ·have hz : ¬ (i : Int) < (e.nodes.length : Int) := by omega
   have hS2 : Hid (Says D (fun x => behindE e.nodes t x)) := Lib.hid (by have h10 := hSD.out; rw [List.take_of_length_le (by omega)] at h10; exact h10)
   replace hE := hE.below hbr
   have hbr0 := hbf.trans (hbr.mono hbf.size)
   clear hSD hi hil
   obtain ⟨ww, hww⟩ : ∃ x, x = wr := ⟨_, rfl⟩
   subst hww
   go_wp2_with fail
   (try go_step3)
   (try go_wp2_with fail)
   clear hz
   obtain ⟨go1, hgo⟩ : ∃ go, go = gk := ⟨_, rfl⟩
   subst hgo
   go_loopg [38] e.nodes.length (fun gg iv wr => ∃ (i : Nat), i + gg = e.nodes.length ∧ iv = .int .i64 (i : Int) ∧ Hid (∀ j (hj : j < i) (hj2 : j < e.nodes.length), (decide (e.nodes[j].tree = t) && !behindE e.nodes t e.nodes[j].node) = false) ∧ Below ww.heap.size ww wr)
   case atStart => exact ⟨0, by omega, rfl, Lib.hid (fun j hj => absurd hj (Nat.not_lt_zero _)), Below.refl _ _⟩
   case round =>
    obtain ⟨i, hi, rfl, hA, hbq⟩ := hrel
    by_cases hil : i < e.nodes.length
    ·have hz : (i : Int) < (e.nodes.length : Int) := by omega
     have hz0 : (0 : Int) ≤ (i : Int) := by omega
     obtain ⟨b, off, rfl⟩ := h2.addr hil
     obtain ⟨y, hy⟩ : ∃ y, e.nodes[i] = y := ⟨_, rfl⟩
     obtain ⟨c0, c1, c2, c3, c4, c5, c6, c7⟩ := RowC.c8 h2 (hbr0.trans (hbq.mono hbr0.size)) hil y hy
     have hyw := h8 y (by rw [← hy]; exact List.getElem_mem hil)
     have hy2 := Lib.hid hy
     clear hy
     obtain ⟨w2, hwE, hb2, px, hpE, hbx⟩ := boxN wr y
     have HW := Lib.hid hwE; clear hwE
     go_upto_region 11 with fail
     rw [← HW.out, ← hpE]
     have Hpx := Lib.hid (Nat.le_of_eq hpE.symm)
     clear HW hpE
     have hbq2 := hbq.trans (hb2.mono hbq.size)
     have hown2 : w2.ownsMap Tryz.prog 3 (plainElem (H := Unit) Tryz.prog 4) pm _ D := hown.kept (row := none) (grown_of_below hbq2) (by simp)
     have hend := fun (r : Bool) (hr : (decide (y.tree = t) && !behindE e.nodes t y.node) = r) => (show (decide (e.nodes[i].tree = t) && !behindE e.nodes t e.nodes[i].node) = r by rw [hy2.out]; exact hr)
     obtain ⟨c, hrun, hat⟩ := lookup_bool hown2 law_int Tryz.underlying143 Tryz.underlying4 (zero_bool _) (key_int hyw.node)
     have hc : c = behindE e.nodes t y.node := by have h10 := hS2.out.2 y.node; rw [hat] at h10; injection h10 with h11; injection h11
     have hA2 : (decide (y.tree = t) && !behindE e.nodes t y.node) = false → Hid (∀ j (hj : j < i + 1) (hj2 : j < e.nodes.length), (decide (e.nodes[j].tree = t) && !behindE e.nodes t e.nodes[j].node) = false) := fun hr => Lib.hid fun j hj hj2 => by
      by_cases ej : j = i
      ·subst ej; exact hend _ hr
      ·exact hA.out j (by omega) hj2
     rw [← hc] at hend hA2
     clear hat hown2 hc
     have x0 := hbx.cell 0 _ rfl
     have x1 := hbx.cell 1 _ rfl
     by_cases q : y.tree = t
     ·rw [q] at x0
      cases c with
      | true =>
       have hA3 := hA2 (by simp)
       clear hA2 hend hA q
       go_wp2_with fail
       go_roundg (gk - 1)
       case measure => omega
       case rel => exact ⟨i + 1, by omega, by first | rfl | go_num, hA3, hbq2⟩
      | false =>
       have hr : rootE e.nodes t = some i := find_hit hil (hend true (by simp [q])) (fun j hj => hA.out j hj (by omega))
       have hg1 : g = i := by rw [← hg.out, hr]; rfl
       have hi1 : i9 = true := by rw [← hi9.out, hr]; rfl
       subst hg1 hi1
       clear hA2 hend hA q hr hg hi9
       go_wp2_with fail
       rw [Exit.noGoto_ret]
       exact bodyPost_ret (v := .tuple #[.int .i64 g, .bool true]) (by simp [results, Tryz.results34, go_sem]) rfl ⟨rfl, hbr0.trans (hbq2.mono hbr0.size)⟩
     ·have q3 : (y.tree != t) = true := by simp [q]
      have hA3 := hA2 (by simp [q])
      clear hA2 hend hA q
      go_wp2_with fail
      go_roundg (gk - 1)
      case measure => omega
      case rel => exact ⟨i + 1, by omega, by first | rfl | go_num, hA3, hbq2⟩
    ·have hz : ¬ (i : Int) < (e.nodes.length : Int) := by omega
     have hr : rootE e.nodes t = none := find_miss (fun j hj => hA.out j (by omega) hj)
     have hg1 : g = 0 := by rw [← hg.out, hr]; rfl
     have hi1 : i9 = false := by rw [← hi9.out, hr]; rfl
     subst hg1 hi1
     clear hA hr hg hi9
     go_wp2_with fail
     exact bodyPost_ret (v := .tuple #[.int .i64 ((0 : Nat) : Int), .bool false]) (by simp [results, Tryz.results34, go_sem]) rfl ⟨rfl, hbr0.trans (hbq.mono hbr0.size)⟩
end Go.Proofs.YtcpfanpcdkoiaaaGreat
