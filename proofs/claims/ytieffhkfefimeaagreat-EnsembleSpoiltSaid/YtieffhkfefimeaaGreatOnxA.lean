/-
  The library: IndexFunc, ContainsFunc at nodes, leaves, patterns; Index, Contains at texts.
-/
import Derived.Test.YtieffhkfefimeaaGreatHeapE
import Derived.WalkMore
namespace Go.Proofs.YtieffhkfefimeaaGreat
open Go.RowKit
set_option linter.unusedVariables false
set_option linter.unusedSimpArgs false

theorem find_hit {α : Type} {p : α → Bool} {zs : List α} {k : Nat} (hk : k < zs.length) (h : p zs[k] = true) (hne : ∀ j (hj : j < k), p zs[j] = false) : zs.findIdx? p = some k :=
  List.findIdx?_eq_some_iff_getElem.2 ⟨hk, h, fun j hj => by simp [hne j hj]⟩
theorem find_miss {α : Type} {p : α → Bool} {zs : List α} (h : ∀ j (hj : j < zs.length), p zs[j] = false) : zs.findIdx? p = none := by
  rw [List.findIdx?_eq_none_iff]
  intro x hx
  obtain ⟨i, hi, rfl⟩ := List.mem_iff_getElem.1 hx
  exact h i hi
def fidx (o : Option Nat) : Int := match o with | none => -1 | some k => (k : Int)
theorem any_fidx {α : Type} (p : α → Bool) (zs : List α) : decide (0 ≤ fidx (zs.findIdx? p)) = zs.any p := by
  cases h : zs.findIdx? p with
  | none =>
    have := List.findIdx?_eq_none_iff.1 h
    rw [show fidx none = -1 from rfl]
    symm; rw [show (decide (0 ≤ (-1 : Int))) = false from by decide]
    rw [List.any_eq_false]; intro x hx; simp [this x hx]
  | some k =>
    have h2 := List.findIdx?_eq_some_iff_getElem.1 h
    rw [show fidx (some k) = (k : Int) from rfl]
    rw [show decide (0 ≤ (k : Int)) = true from by simp]
    symm; rw [List.any_eq_true]
    exact ⟨_, List.getElem_mem h2.1, h2.2.1⟩
set_option maxRecDepth 100000 in
set_option maxHeartbeats 2000000 in
theorem idx_en (p : EN → Bool) (g : Nat) (lb : Array Value) (eg : ∀ args w, (callFunc g args).run Tryz.prog w = .ok (.enter g args) w) (ao : Option Addr) (c : Nat) (zs : List EN) (w : World) (r : Int)
    (hp : PredOn Tryz.prog g lb (fun x => Value.agg (enC x).toArray) p w zs) (hr : RowC 8 enC w ao zs) (hbig : zs.length ≤ maxLen) (hE : Hid (fidx (zs.findIdx? p) = r)) :
    Calls Tryz.prog 51 #[.slice ao zs.length c, .func (.func g) #[] lb] w fun e w' => e = .returned (.int .i64 r) ∧ Below w.heap.size w w' := by
  unfold maxLen at hbig
  go_enter Tryz.func51, Tryz.ntmps51
  go_wp2_with fail
  go_loopg [5, 8] zs.length (fun gg _ s8 wr => ∃ kk : Nat, kk ≤ zs.length ∧ zs.length - kk ≤ gg ∧ s8 = .int .i64 kk ∧ Aside (Below w.heap.size w wr) ∧ Aside (∀ j (hj : j < kk) (hj2 : j < zs.length), p zs[j] = false))
  case atStart => exact ⟨0, Nat.zero_le _, by omega, rfl, Below.refl _ w, fun j hj => absurd hj (Nat.not_lt_zero _)⟩
  case round =>
    obtain ⟨kk, hkk, hg, rfl, BW, A⟩ := hrel
    by_cases hlt : kk < zs.length
    · have hltz : (kk : Int) < (zs.length : Int) := by omega
      obtain ⟨b, off, rfl⟩ := hr.addr hlt
      obtain ⟨y, hy⟩ : ∃ y, zs[kk] = y := ⟨_, rfl⟩
      obtain ⟨c0, c1, c2, c3, c4, c5, c6, c7⟩ := hr.c8 BW.out hlt y hy
      have hcall := hp wr zs[kk] (List.getElem_mem hlt) BW.out
      clear hr hp
      have h0k : (0 : Int) ≤ (kk : Int) := by omega
      rw [hy] at hcall; unfold enC at hcall
      have B : Aside (zs[kk] = y) := hy
      clear hy
      cases hq : p y with
      | true =>
        have hq2 : Aside (p y = true) := hq
        rw [hq] at hcall; clear hq
        go_wp2_with (go_at_fn g; refine hcall.mono ?_; rintro e w' ⟨rfl, hb'⟩)
        go_ret
        refine ⟨?_, BW.out.trans (hb'.mono BW.out.size)⟩
        rw [← hE.out, find_hit hlt (by rw [B.out]; exact hq2.out) (fun j hj => A.out j hj (by omega))]
        rfl
      | false =>
        have hq2 : Aside (p y = false) := hq
        rw [hq] at hcall; clear hq
        go_wp2_with (go_at_fn g; refine hcall.mono ?_; rintro e w' ⟨rfl, hb'⟩)
        go_roundg (zs.length - (kk + 1))
        case measure => omega
        case rel =>
          refine ⟨kk + 1, by omega, by omega, by go_num, BW.out.trans (hb'.mono BW.out.size), (show Aside _ from fun j hj hj2 => ?_)⟩
          by_cases e : j = kk
          · subst e
            rw [B.out]; exact hq2.out
          · exact A.out j (by omega) hj2
    · have hltz : ¬ (kk : Int) < (zs.length : Int) := by omega
      go_wp2_with fail
      go_ret
      refine ⟨?_, BW.out⟩
      rw [← hE.out, find_miss (fun j hj => A.out j (by omega) hj)]
      rfl
set_option maxRecDepth 100000 in
theorem cont_en (p : EN → Bool) (g : Nat) (lb : Array Value) (eg : ∀ args w, (callFunc g args).run Tryz.prog w = .ok (.enter g args) w) (ao : Option Addr) (c : Nat) (zs : List EN) (w : World) (r : Bool)
    (hp : PredOn Tryz.prog g lb (fun x => Value.agg (enC x).toArray) p w zs) (hr : RowC 8 enC w ao zs) (hbig : zs.length ≤ maxLen) (hE : Hid (zs.any p = r)) :
    Calls Tryz.prog 83 #[.slice ao zs.length c, .func (.func g) #[] lb] w fun e w' => e = .returned (.bool r) ∧ Below w.heap.size w w' := by
  rw [← hE.out, ← any_fidx]; clear hE
  have hc := idx_en p g lb eg ao c zs w _ hp hr hbig (Lib.hid rfl)
  generalize fidx (zs.findIdx? p) = q at hc ⊢
  clear hp hr
  go_enter Tryz.func83, Tryz.ntmps83
  go_wp2_with (go_at_call 51; refine hc.mono ?_; rintro e w' ⟨rfl, hb'⟩)
  go_ret
  exact ⟨by first | rfl | simp, hb'⟩
set_option maxRecDepth 100000 in
set_option maxHeartbeats 2000000 in
theorem idx_el (p : EL → Bool) (g : Nat) (lb : Array Value) (eg : ∀ args w, (callFunc g args).run Tryz.prog w = .ok (.enter g args) w) (ao : Option Addr) (c : Nat) (zs : List EL) (w : World) (r : Int)
    (hp : PredOn Tryz.prog g lb (fun x => Value.agg (elC x).toArray) p w zs) (hr : RowC 4 elC w ao zs) (hbig : zs.length ≤ maxLen) (hE : Hid (fidx (zs.findIdx? p) = r)) :
    Calls Tryz.prog 91 #[.slice ao zs.length c, .func (.func g) #[] lb] w fun e w' => e = .returned (.int .i64 r) ∧ Below w.heap.size w w' := by
  unfold maxLen at hbig
  go_enter Tryz.func91, Tryz.ntmps91
  go_wp2_with fail
  go_loopg [5, 8] zs.length (fun gg _ s8 wr => ∃ kk : Nat, kk ≤ zs.length ∧ zs.length - kk ≤ gg ∧ s8 = .int .i64 kk ∧ Aside (Below w.heap.size w wr) ∧ Aside (∀ j (hj : j < kk) (hj2 : j < zs.length), p zs[j] = false))
  case atStart => exact ⟨0, Nat.zero_le _, by omega, rfl, Below.refl _ w, fun j hj => absurd hj (Nat.not_lt_zero _)⟩
  case round =>
    obtain ⟨kk, hkk, hg, rfl, BW, A⟩ := hrel
    by_cases hlt : kk < zs.length
    · have hltz : (kk : Int) < (zs.length : Int) := by omega
      obtain ⟨b, off, rfl⟩ := hr.addr hlt
      obtain ⟨y, hy⟩ : ∃ y, zs[kk] = y := ⟨_, rfl⟩
      obtain ⟨c0, c1, c2, c3⟩ := hr.c4 BW.out hlt y hy
      have hcall := hp wr zs[kk] (List.getElem_mem hlt) BW.out
      clear hr hp
      have h0k : (0 : Int) ≤ (kk : Int) := by omega
      rw [hy] at hcall; unfold elC at hcall
      have B : Aside (zs[kk] = y) := hy
      clear hy
      cases hq : p y with
      | true =>
        have hq2 : Aside (p y = true) := hq
        rw [hq] at hcall; clear hq
        go_wp2_with (go_at_fn g; refine hcall.mono ?_; rintro e w' ⟨rfl, hb'⟩)
        go_ret
        refine ⟨?_, BW.out.trans (hb'.mono BW.out.size)⟩
        rw [← hE.out, find_hit hlt (by rw [B.out]; exact hq2.out) (fun j hj => A.out j hj (by omega))]
        rfl
      | false =>
        have hq2 : Aside (p y = false) := hq
        rw [hq] at hcall; clear hq
        go_wp2_with (go_at_fn g; refine hcall.mono ?_; rintro e w' ⟨rfl, hb'⟩)
        go_roundg (zs.length - (kk + 1))
        case measure => omega
        case rel =>
          refine ⟨kk + 1, by omega, by omega, by go_num, BW.out.trans (hb'.mono BW.out.size), (show Aside _ from fun j hj hj2 => ?_)⟩
          by_cases e : j = kk
          · subst e
            rw [B.out]; exact hq2.out
          · exact A.out j (by omega) hj2
    · have hltz : ¬ (kk : Int) < (zs.length : Int) := by omega
      go_wp2_with fail
      go_ret
      refine ⟨?_, BW.out⟩
      rw [← hE.out, find_miss (fun j hj => A.out j (by omega) hj)]
      rfl
set_option maxRecDepth 100000 in
theorem cont_el (p : EL → Bool) (g : Nat) (lb : Array Value) (eg : ∀ args w, (callFunc g args).run Tryz.prog w = .ok (.enter g args) w) (ao : Option Addr) (c : Nat) (zs : List EL) (w : World) (r : Bool)
    (hp : PredOn Tryz.prog g lb (fun x => Value.agg (elC x).toArray) p w zs) (hr : RowC 4 elC w ao zs) (hbig : zs.length ≤ maxLen) (hE : Hid (zs.any p = r)) :
    Calls Tryz.prog 40 #[.slice ao zs.length c, .func (.func g) #[] lb] w fun e w' => e = .returned (.bool r) ∧ Below w.heap.size w w' := by
  rw [← hE.out, ← any_fidx]; clear hE
  have hc := idx_el p g lb eg ao c zs w _ hp hr hbig (Lib.hid rfl)
  generalize fidx (zs.findIdx? p) = q at hc ⊢
  clear hp hr
  go_enter Tryz.func40, Tryz.ntmps40
  go_wp2_with (go_at_call 91; refine hc.mono ?_; rintro e w' ⟨rfl, hb'⟩)
  go_ret
  exact ⟨by first | rfl | simp, hb'⟩
set_option maxRecDepth 100000 in
set_option maxHeartbeats 2000000 in
theorem idx_pat (p : Nat → Bool) (g : Nat) (lb : Array Value) (eg : ∀ args w, (callFunc g args).run Tryz.prog w = .ok (.enter g args) w) (ao : Option Addr) (c : Nat) (zs : List Nat) (w : World) (r : Int)
    (hp : PredOn Tryz.prog g lb (fun n : Nat => Value.int .u64 (n : Int)) p w zs) (hr : Cells .u64 w ao zs) (hbig : zs.length ≤ maxLen) (hE : Hid (fidx (zs.findIdx? p) = r)) :
    Calls Tryz.prog 105 #[.slice ao zs.length c, .func (.func g) #[] lb] w fun e w' => e = .returned (.int .i64 r) ∧ Below w.heap.size w w' := by
  unfold maxLen at hbig
  go_enter Tryz.func105, Tryz.ntmps105
  go_wp2_with fail
  go_loopg [5, 8] zs.length (fun gg _ s8 wr => ∃ kk : Nat, kk ≤ zs.length ∧ zs.length - kk ≤ gg ∧ s8 = .int .i64 kk ∧ Aside (Below w.heap.size w wr) ∧ Aside (∀ j (hj : j < kk) (hj2 : j < zs.length), p zs[j] = false))
  case atStart => exact ⟨0, Nat.zero_le _, by omega, rfl, Below.refl _ w, fun j hj => absurd hj (Nat.not_lt_zero _)⟩
  case round =>
    obtain ⟨kk, hkk, hg, rfl, BW, A⟩ := hrel
    by_cases hlt : kk < zs.length
    · have hltz : (kk : Int) < (zs.length : Int) := by omega
      rcases hr with h0 | ⟨b, off, rfl, hb, hc⟩
      · rw [h0] at hlt; simp at hlt
      have l2 := (BW.out.cell (p := ⟨b, off + kk, none⟩) hb).trans (hc kk hlt)
      rw [List.getElem?_eq_getElem hlt, Option.getD_some] at l2
      have hcall := hp wr zs[kk] (List.getElem_mem hlt) BW.out
      clear hc hp
      have h0k : (0 : Int) ≤ (kk : Int) := by omega
      generalize hy : zs[kk] = y at l2 hcall
      have B : Aside (zs[kk] = y) := hy
      clear hy
      cases hq : p y with
      | true =>
        have hq2 : Aside (p y = true) := hq
        rw [hq] at hcall; clear hq
        go_wp2_with (go_at_fn g; refine hcall.mono ?_; rintro e w' ⟨rfl, hb'⟩)
        go_ret
        refine ⟨?_, BW.out.trans (hb'.mono BW.out.size)⟩
        rw [← hE.out, find_hit hlt (by rw [B.out]; exact hq2.out) (fun j hj => A.out j hj (by omega))]
        rfl
      | false =>
        have hq2 : Aside (p y = false) := hq
        rw [hq] at hcall; clear hq
        go_wp2_with (go_at_fn g; refine hcall.mono ?_; rintro e w' ⟨rfl, hb'⟩)
        go_roundg (zs.length - (kk + 1))
        case measure => omega
        case rel =>
          refine ⟨kk + 1, by omega, by omega, by go_num, BW.out.trans (hb'.mono BW.out.size), (show Aside _ from fun j hj hj2 => ?_)⟩
          by_cases e : j = kk
          · subst e
            rw [B.out]; exact hq2.out
          · exact A.out j (by omega) hj2
    · have hltz : ¬ (kk : Int) < (zs.length : Int) := by omega
      go_wp2_with fail
      go_ret
      refine ⟨?_, BW.out⟩
      rw [← hE.out, find_miss (fun j hj => A.out j (by omega) hj)]
      rfl
set_option maxRecDepth 100000 in
theorem cont_pat (p : Nat → Bool) (g : Nat) (lb : Array Value) (eg : ∀ args w, (callFunc g args).run Tryz.prog w = .ok (.enter g args) w) (ao : Option Addr) (c : Nat) (zs : List Nat) (w : World) (r : Bool)
    (hp : PredOn Tryz.prog g lb (fun n : Nat => Value.int .u64 (n : Int)) p w zs) (hr : Cells .u64 w ao zs) (hbig : zs.length ≤ maxLen) (hE : Hid (zs.any p = r)) :
    Calls Tryz.prog 81 #[.slice ao zs.length c, .func (.func g) #[] lb] w fun e w' => e = .returned (.bool r) ∧ Below w.heap.size w w' := by
  rw [← hE.out, ← any_fidx]; clear hE
  have hc := idx_pat p g lb eg ao c zs w _ hp hr hbig (Lib.hid rfl)
  generalize fidx (zs.findIdx? p) = q at hc ⊢
  clear hp hr
  go_enter Tryz.func81, Tryz.ntmps81
  go_wp2_with (go_at_call 105; refine hc.mono ?_; rintro e w' ⟨rfl, hb'⟩)
  go_ret
  exact ⟨by first | rfl | simp, hb'⟩
end Go.Proofs.YtieffhkfefimeaaGreat
