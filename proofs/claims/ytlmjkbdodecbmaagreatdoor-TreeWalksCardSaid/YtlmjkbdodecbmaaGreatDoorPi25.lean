/-
  Pi25: TreG (what is needed of them).
-/
import Derived.Test.YtlmjkbdodecbmaaGreatDoorPi23
import Derived.Test.YtlmjkbdodecbmaaGreatDoorPi24
import Derived.Deep.RegionHeld

namespace Go.Proofs.YtlmjkbdodecbmaaGreatDoor
open Go.RowKit Go.Shelf
set_option linter.unusedVariables false
set_option linter.unusedSimpArgs false
attribute [local go_sem] Oper.semAt_some field_nat
section
variable {P : Program} {ops : Array Oper} {Q : Exit → Act → World → Prop} {S : World → Prop}
theorem rep_pop3 (n : Nat) : (Array.replicate n false).pop = Array.replicate (n - 1) false := by
  apply Array.ext_getElem?
  intro j
  simp only [Array.getElem?_pop, Array.getElem?_replicate, Array.size_replicate]
  split
  · rw [if_pos (by omega)]
  · rfl
theorem wpAny_tail3 (hk : tailOk3 ops = true) {fuel : Nat} {a : Act} {w : World} (h : wpAny P .any ops.pop (TailQ P ops Q) fuel (Array.replicate (ops.size - 1) false) a w) : wpAny P .any ops Q (fuel + 1) (Array.replicate ops.size false) a w := by
  have T := tailOk_spec3 hk
  rw [← rep_pop3] at h
  exact wpAny_of_init3 T _ (Array.replicate ops.size false) a w (by simp) (by
    have := T.pos
    rw [Array.getD_eq_getD_getElem?, Array.getElem?_replicate, if_pos (by omega)]; rfl) (fun j o _ hl9 => by
    rw [Array.getD_eq_getD_getElem?, Array.getElem?_replicate] at hl9
    split at hl9 <;> cases hl9) h
/-- A region in a round that draws its order, whose last two operations wait for all others. -/
theorem wpIn_region_heldT2 {l9 id : Nat} {a : Act} {w : World} (hnd : noDefers ops = true) (hlo : ¬ LetsOut Q) (hm : P.follows .mixedOrders = true) (hk : tailOk3 ops = true) (hk' : tailOk3 ops.pop = true) (hn : 2 ≤ ops.size) (hS : S w.drew)
    (h : S w.drew → wpAnyH P .any ops.pop.pop (TailQ P ops.pop (TailQ P ops Q)) S (ops.size - 2) (Array.replicate (ops.size - 2) false) a w.drew) : (Code.region id ops true).wpIn (Fence.wide.inRound l9) 0 P Q a w := by
  have h2 := wpAny_tail3 hk' (Q := TailQ P ops Q) (by rw [Array.size_pop, show ops.size - 1 - 1 = ops.size - 2 by omega]; exact wpAny_of_held _ _ _ _ (h hS))
  rw [Array.size_pop] at h2
  have h3 := wpAny_tail3 hk h2
  rw [show ops.size - 2 + 1 + 1 = ops.size by omega] at h3
  exact wpIn_region_any hm (wpAnyIn_of_wpAny hnd hlo _ _ _ _ h3)
end
/-- What is told till one has enough. -/
def cutL {α : Type} (stop : Int) (L : List α) : List α := if 0 < stop ∧ stop < (L.length : Int) then L.take stop.toNat else L
theorem cutL_stop {α : Type} {stop : Int} {pre L : List α} (h : pre <+: L) (hs : (pre.length : Int) = stop) (h0 : 0 < pre.length) : pre = cutL stop L := by
  unfold cutL
  have h1 := List.prefix_iff_eq_take.1 h
  have hl := h.length_le
  split
  · rename_i h2
    rw [show stop.toNat = pre.length by omega]; exact h1
  · rename_i h2
    have : pre.length = L.length := by omega
    rw [h1, this, List.take_length]
theorem cutL_all {α : Type} {stop : Int} {L : List α} (h : ∀ j : Nat, 1 ≤ j → j ≤ L.length → (j : Int) ≠ stop) : L = cutL stop L := by
  unfold cutL
  split
  · rename_i h2
    exact absurd (show ((stop.toNat : Nat) : Int) = stop by omega) (h stop.toNat (by omega) (by omega))
  · rfl
/-- No round so far was the last one asked for. -/
def NoStop (stop : Int) (n : Nat) : Prop := ∀ j : Nat, 1 ≤ j → j ≤ n → (j : Int) ≠ stop
theorem NoStop.zero (stop : Int) : NoStop stop 0 := fun j h1 h2 => by omega
theorem NoStop.succ {stop : Int} {n : Nat} (h : NoStop stop n) (hn : ((n + 1 : Nat) : Int) ≠ stop) : NoStop stop (n + 1) := fun j h1 h2 => by
  rcases Nat.lt_or_ge n j with h3 | h3
  · rw [show j = n + 1 by omega]; exact hn
  · exact h j h1 h3
theorem step_appendKs {P : Program} {t e : TypeId} {z : Value} {K bytes : Nat} (E : ElemK P t e z K bytes) {w : World} {o : Oper} {a : Act} {Kn : Act → World → Prop} {Q : Exit → Act → World → Prop} {s x : Operand} {us : List Value} {base n : Nat} {v : Value} {xs : List Value} {ad : Addr}
    (hown : OwnsK K base e w v n xs) (ho : o.op = .call { callee := .builtin .append, args := #[s, x], argTypes := #[t, t] }) (hs : a.eval s = v) (hx : a.eval x = .slice (some ad) 1 1) (hul : us.length = K) (hu : ∀ j u', us[j]? = some u' → w.cell? (ad.add j) = some u') (h1 : ∀ u ∈ us, u.oneCell' = true) (hl : (n + 1) * bytes ≤ 140737488355328) (hm : n + 1 ≤ maxLen) (hbase : base ≤ w.heap.size)
    (h : ∀ v' w', OwnsK K base e w' v' (n + 1) (xs ++ us) → w.grownBy w' v.ownBlock → (∀ g, v'.ownBlock = some g → v.ownBlock = some g ∨ w.heap.size ≤ g) → Kn (a.put o.dst v') w') : Oper.wp P o a w Kn Q := by
  obtain ⟨v', w', hrun, r1, r2, r3, r4⟩ := run_appendK E o.type hown ad 1 us hul hu h1 hl hm hbase
  unfold Oper.wp
  simp [execOp, ho, resolve, invoke, builtin, hs, hx, hrun, Result.andThen]
  exact h _ _ r1 r2 r3
/-- Nodes, and depths. -/
def fstI (l : List (Nat × Nat)) : List Int := l.map fun x => (x.1 : Int)
def sndI (l : List (Nat × Nat)) : List Int := l.map fun x => (x.2 : Int)
theorem fstI_snoc (l : List (Nat × Nat)) (x : Nat × Nat) : icel (fstI l) ++ [.int .i64 (x.1 : Int)] = icel (fstI (l ++ [x])) := by unfold fstI icel; simp
theorem sndI_snoc (l : List (Nat × Nat)) (x : Nat × Nat) : icel (sndI l) ++ [.int .i64 (x.2 : Int)] = icel (sndI (l ++ [x])) := by unfold sndI icel; simp
/-- The two lists that are grown, and their boxes. -/
def TwI (D p3 p6 p7 : Nat) (stop : Int) (w : World) (pre : List (Nat × Nat)) (S : Nat → Prop) (W : World) : Prop := ∃ (ao : Option Addr) (an ac : Nat) (bo : Option Addr) (bn bc : Nat), (S = fun k => (k = p6 ∨ k = p7) ∨ (Value.slice ao an ac).ownBlock = some k ∨ (Value.slice bo bn bc).ownBlock = some k) ∧ BoxL W p3 [.int .i64 stop] ∧ BoxL W p6 [.slice ao an ac] ∧ BoxL W p7 [.slice bo bn bc] ∧
  OwnsK 1 D 3 W (.slice ao an ac) pre.length (icel (fstI pre)) ∧ OwnsK 1 D 3 W (.slice bo bn bc) pre.length (icel (sndI pre)) ∧ (∀ k, (Value.slice ao an ac).ownBlock = some k → (Value.slice bo bn bc).ownBlock ≠ some k) ∧ Below w.heap.size w W
theorem TwI.mk {D p3 p6 p7 : Nat} {stop : Int} {w : World} {pre : List (Nat × Nat)} {S : Nat → Prop} {W : World} {ao : Option Addr} {an ac : Nat} {bo : Option Addr} {bn bc : Nat} (h0 : S = fun k => (k = p6 ∨ k = p7) ∨ (Value.slice ao an ac).ownBlock = some k ∨ (Value.slice bo bn bc).ownBlock = some k) (h1 : BoxL W p3 [.int .i64 stop]) (h2 : BoxL W p6 [.slice ao an ac]) (h3 : BoxL W p7 [.slice bo bn bc])
    (h4 : OwnsK 1 D 3 W (.slice ao an ac) pre.length (icel (fstI pre))) (h6 : OwnsK 1 D 3 W (.slice bo bn bc) pre.length (icel (sndI pre))) (h8 : ∀ k, (Value.slice ao an ac).ownBlock = some k → (Value.slice bo bn bc).ownBlock ≠ some k) (h7 : Below w.heap.size w W) : TwI D p3 p6 p7 stop w pre S W := ⟨ao, an, ac, bo, bn, bc, h0, h1, h2, h3, h4, h6, h8, h7⟩
theorem TwI.oth {D p3 p6 p7 : Nat} {stop : Int} {w : World} {pre : List (Nat × Nat)} {S : Nat → Prop} {W W' : World} {D1 : Nat} (h : TwI D p3 p6 p7 stop w pre S W) (ho : Oth D1 S W W') (hw : w.heap.size ≤ D1) (h3 : p3 < D1) : TwI D p3 p6 p7 stop w pre S W' := by
  obtain ⟨ao, an, ac, bo, bn, bc, rfl, i1, i2, i3, i4, i6, i8, i7⟩ := h
  refine TwI.mk rfl (i1.block (ho.same _ i1.lt (.inl h3))) (i2.block (ho.same _ i2.lt (.inr (.inl (.inl rfl))))) (i3.block (ho.same _ i3.lt (.inr (.inl (.inr rfl))))) (i4.block fun g hg => ho.same g (i4.lt g hg).2 (.inr (.inr (.inl hg)))) (i6.block fun g hg => ho.same g (i6.lt g hg).2 (.inr (.inr (.inr hg)))) i8 ?_
  exact i7.trans ⟨ho.os, ho.tape, ho.output, ho.size, fun k hk => ho.same k (Nat.lt_of_lt_of_le hk i7.size) (.inl (by omega))⟩
/-- What walked answers. -/
def TwPost (L : List (Nat × Nat)) (w : World) (e : Ending) (w' : World) : Prop := ∃ (ao : Option Addr) (n ac : Nat) (bo : Option Addr) (bc : Nat), e = .returned (.tuple #[.slice ao n ac, .slice bo n bc]) ∧ Hid (n = L.length) ∧
  OwnsK 1 w.heap.size 3 w' (.slice ao n ac) n (icel (fstI L)) ∧ OwnsK 1 w.heap.size 3 w' (.slice bo n bc) n (icel (sndI L)) ∧ Below w.heap.size w w'
theorem TwPost.mk {L : List (Nat × Nat)} {w w' : World} {e : Ending} {ao : Option Addr} {n ac : Nat} {bo : Option Addr} {bc : Nat} (h1 : e = .returned (.tuple #[.slice ao n ac, .slice bo n bc])) (h2 : Hid (n = L.length)) (h3 : OwnsK 1 w.heap.size 3 w' (.slice ao n ac) n (icel (fstI L))) (h5 : OwnsK 1 w.heap.size 3 w' (.slice bo n bc) n (icel (sndI L))) (h6 : Below w.heap.size w w') : TwPost L w e w' := ⟨ao, n, ac, bo, bc, h1, h2, h3, h5, h6⟩
set_option maxRecDepth 100000 in
set_option maxHeartbeats 8000000 in
/-- walked. -/
theorem walked_any (L : List (Nat × Nat)) (stop : Int) (B px : Nat) (w : World) (hit0 : IterW Tryz.prog twalkF #[.pointer (some ⟨px, 0, none⟩)] TdEnc L (Res B px) w) (hBw : B ≤ w.heap.size) (hpx : px < w.heap.size) (hLl : L.length ≤ 2000) :
    Calls Tryz.prog 12 #[.func (.func twalkF) #[] #[.pointer (some ⟨px, 0, none⟩)], .int .i64 stop] w (TwPost (cutL stop L) w) := by
  refine (callsIn_wide (n := 0)).1 ?_
  refine callsIn_of_wp_marks Tryz.func12 rfl (by trivial) ?_ rfl
  simp only [Tryz.ntmps12, List.size_toArray, List.length_cons, List.length_nil, Nat.reduceAdd, Nat.reduceSub, Array.replicate_succ, Array.replicate_zero, List.push_toArray, List.append_toArray, List.nil_append, List.cons_append]
  obtain ⟨wR, hwR⟩ : ∃ W, W = ((w.alloc (.cells #[.int .i64 stop] 3)).alloc (.cells #[.slice none 0 0] 27)).alloc (.cells #[.slice none 0 0] 27) := ⟨_, rfl⟩
  have hbR : Below w.heap.size w wR := by rw [hwR]; exact (((Below.refl _ w).alloc (Nat.le_refl _) _).alloc (by simp <;> omega) _).alloc (by simp <;> omega) _
  have hszR : wR.heap.size = w.heap.size + 3 := by rw [hwR]; simp
  obtain ⟨p3, hp3⟩ : ∃ q, q = w.heap.size := ⟨_, rfl⟩
  obtain ⟨p6, hp6⟩ : ∃ q, q = w.heap.size + 1 := ⟨_, rfl⟩
  obtain ⟨p7, hp7⟩ : ∃ q, q = w.heap.size + 1 + 1 := ⟨_, rfl⟩
  have hb3 : BoxL wR p3 [.int .i64 stop] := by rw [hwR, hp3]; exact BoxL.of1 (by go_simp) (by go_simp)
  have hb6 : BoxL wR p6 [.slice none 0 0] := by rw [hwR, hp6]; exact BoxL.of1 (by go_simp) (by go_simp)
  have hb7 : BoxL wR p7 [.slice none 0 0] := by rw [hwR, hp7]; exact BoxL.of1 (by go_simp) (by go_simp)
  have hit := hit0.mono hbR
  obtain ⟨R, hR⟩ : ∃ R, R = cutL stop L := ⟨_, rfl⟩
  rw [← hR]
  have HR := Lib.hid hR
  clear hR
  have HQ : p3 < p6 ∧ p6 < p7 ∧ p7 < wR.heap.size ∧ w.heap.size ≤ p3 := by omega
  have HW := Lib.hid hwR
  have H3 := Lib.hid hp3
  have H6 := Lib.hid hp6
  have H7 := Lib.hid hp7
  have hBR : B ≤ wR.heap.size := by omega
  have hpR : px < wR.heap.size := by omega
  clear hwR hp3 hp6 hp7 hszR hit0
  gi_wp2_with fail
  rw [← HW.out, ← H7.out, ← H6.out, ← H3.out]
  clear HW H3 H6 H7
  obtain ⟨q1, q2, q3, q4⟩ := HQ
  have hT1 : True := trivial
  refine wp_rangeW (gf := twalkF) (lb := #[.pointer (some ⟨px, 0, none⟩)]) rfl enters_twalk1 hit (fun W v x h => by cases h; rfl) (fun k hr => res_lt hBR hpR hr)
    (fun pre S W => TwI wR.heap.size p3 p6 p7 stop w pre S W ∧ NoStop stop pre.length ∧ wR.heap.size ≤ W.heap.size)
    (fun c pre S W => c = .exit 0 ∧ TwI wR.heap.size p3 p6 p7 stop w pre S W ∧ (pre.length : Int) = stop ∧ 0 < pre.length ∧ wR.heap.size ≤ W.heap.size)
    ?_ ?_ (fun k => (k = p6 ∨ k = p7) ∨ (Value.slice none 0 0).ownBlock = some k ∨ (Value.slice none 0 0).ownBlock = some k) ?_ ?_
    (fun x9 a' W => a' = { tmps := #[.func (.func twalkF) #[] #[.pointer (some ⟨px, 0, none⟩)], .int .i64 stop, undef, .pointer (some ⟨p3, 0, none⟩), .slice none 0 0, .slice none 0 0, .pointer (some ⟨p6, 0, none⟩), .pointer (some ⟨p7, 0, none⟩), .int .i64 (x9.1 : Int), .int .i64 (x9.2 : Int), .func (.func twalkF) #[] #[.pointer (some ⟨px, 0, none⟩)], .int .i64 (x9.1 : Int), .int .i64 (x9.2 : Int), undef, undef, undef, undef, undef, undef, undef, undef, undef, undef, undef, undef, undef, undef], defers := [] })
    ?_ ?assign ?body ?done ?stop
  case assign =>
    rintro l8 pre x9 v S W K hi hnv hpre hK
    cases hnv
    gi_wp2
    exact hK _ _ (Below.refl _ _) hi rfl
  case body =>
    rintro l8 pre x9 a' S W ⟨hI, hN, hsW⟩ rfl hpre hS
    obtain ⟨ao, an, ac, bo, bn, bc, rfl, i3, i6, i7, iA, iB, hNEx, iW⟩ := hI
    have hpl : pre.length + 1 ≤ 2000 := by
      have := hpre.length_le
      rw [List.length_append] at this
      simp at this
      omega
    obtain ⟨ao1, cap1, hva, -, -, -⟩ := iA.slice
    obtain ⟨bo1, cap2, hvb, -, -, -⟩ := iB.slice
    have HA : Hid (an = pre.length) := Lib.hid (by cases hva; rfl)
    have HB : Hid (bn = pre.length) := Lib.hid (by cases hvb; rfl)
    have HNE := Lib.hid hNEx
    have HOA : Hid (∀ k, (Value.slice ao an ac).ownBlock = some k → wR.heap.size ≤ k ∧ k < W.heap.size) := Lib.hid iA.lt
    have HOB : Hid (∀ k, (Value.slice bo bn bc).ownBlock = some k → wR.heap.size ≤ k ∧ k < W.heap.size) := Lib.hid iB.lt
    have HIW := Lib.hid iW
    have HNS := Lib.hid hN
    clear hva hvb hpre hN iW hNEx
    gi_wp2_with fail
    have hT2 : True := trivial
    refine wpIn_region_heldT2 (S := fun w' => BoxL w' p6 [.slice ao an ac] ∧ BoxL w' p7 [.slice bo bn bc]) (by kernel_rfl) (fun ⟨_, _, h⟩ => h) (by kernel_rfl) (by kernel_rfl) (by kernel_rfl) (by decide) ⟨i6.drew, i7.drew⟩ (fun _ => ?_)
    have hb : Below W.heap.size W W.drew := (Below.refl _ _).drew
    generalize W.drew = wd at hb ⊢
    have HF : Hid (Keep (fun k => (k = p6 ∨ k = p7) ∨ (Value.slice ao an ac).ownBlock = some k ∨ (Value.slice bo bn bc).ownBlock = some k) W wd) := Lib.hid (Keep.of_below hb)
    replace i3 := i3.kept hb
    replace i6 := i6.kept hb
    replace i7 := i7.kept hb
    replace iA := iA.kept hb
    replace iB := iB.kept hb
    replace hsW := Nat.le_trans hsW hb.size
    clear hb
    (refine wpAnyH_take (i := 0) (v := ?_) rfl (by kernel_rfl) (by kernel_rfl) (by kernel_rfl) (fun _ _ _ h => h) (Or.inl ⟨by rfl, ?_⟩) ⟨i6, i7⟩ ?_; rotate_left; (· intro w hSw; (try dsimp only at hSw); obtain ⟨hL6, hL7⟩ := hSw; have e6 := hL6.cell 0 _ rfl; have e7 := hL7.cell 0 _ rfl; clear hL6 hL7; go_simp; all_goals with_reducible rfl); (try simp only [List.getElem_toArray, List.getElem_cons_succ, List.getElem_cons_zero, Act.put, List.setIfInBounds_toArray, List.set_cons_zero, List.set_cons_succ]))
    (refine wpAnyH_take (i := 1) (v := ?_) rfl (by kernel_rfl) (by kernel_rfl) (by kernel_rfl) (fun _ _ _ h => h) (Or.inl ⟨by rfl, ?_⟩) ⟨i6, i7⟩ ?_; rotate_left; (· intro w hSw; (try dsimp only at hSw); obtain ⟨hL6, hL7⟩ := hSw; have e6 := hL6.cell 0 _ rfl; have e7 := hL7.cell 0 _ rfl; clear hL6 hL7; go_simp; all_goals with_reducible rfl); (try simp only [List.getElem_toArray, List.getElem_cons_succ, List.getElem_cons_zero, Act.put, List.setIfInBounds_toArray, List.set_cons_zero, List.set_cons_succ]))
    (refine wpAnyH_take (i := 4) (v := ?_) rfl (by kernel_rfl) (by kernel_rfl) (by kernel_rfl) (fun _ _ _ h => h) (Or.inl ⟨by rfl, ?_⟩) ⟨i6, i7⟩ ?_; rotate_left; (· intro w hSw; (try dsimp only at hSw); obtain ⟨hL6, hL7⟩ := hSw; have e6 := hL6.cell 0 _ rfl; have e7 := hL7.cell 0 _ rfl; clear hL6 hL7; go_simp; all_goals with_reducible rfl); (try simp only [List.getElem_toArray, List.getElem_cons_succ, List.getElem_cons_zero, Act.put, List.setIfInBounds_toArray, List.set_cons_zero, List.set_cons_succ]))
    (refine wpAnyH_take (i := 5) (v := ?_) rfl (by kernel_rfl) (by kernel_rfl) (by kernel_rfl) (fun _ _ _ h => h) (Or.inl ⟨by rfl, ?_⟩) ⟨i6, i7⟩ ?_; rotate_left; (· intro w hSw; (try dsimp only at hSw); obtain ⟨hL6, hL7⟩ := hSw; have e6 := hL6.cell 0 _ rfl; have e7 := hL7.cell 0 _ rfl; clear hL6 hL7; go_simp; all_goals with_reducible rfl); (try simp only [List.getElem_toArray, List.getElem_cons_succ, List.getElem_cons_zero, Act.put, List.setIfInBounds_toArray, List.set_cons_zero, List.set_cons_succ]))
    refine wpAnyH_ready (rs := [2, 6]) (by kernel_rfl) (by simp) (AllReadyH.cons rfl (fun K hK => ?_) (AllReadyH.cons rfl (fun K hK => ?_) AllReadyH.nil))
    · skip
      go_simp
      obtain ⟨wq1, hwE⟩ : ∃ W, W = wd.alloc (.cells #[.int .i64 (x9.1 : Int)] 3) := ⟨_, rfl⟩
      have hb : Below wd.heap.size wd wq1 := by rw [hwE]; exact (Below.refl _ _).alloc (Nat.le_refl _) _
      obtain ⟨pnA, hpE⟩ : ∃ p, p = wd.heap.size := ⟨_, rfl⟩
      have hNA : BoxL wq1 pnA [.int .i64 (x9.1 : Int)] := by rw [hwE, hpE]; exact BoxL.new wd _ _
      rw [← hwE, ← hpE]
      have hqA : W.heap.size ≤ pnA := by have := HF.out.size; omega
      clear hwE hpE
      replace i3 := i3.kept hb
      replace i6 := i6.kept hb
      replace i7 := i7.kept hb
      replace iA := iA.kept hb
      replace iB := iB.kept hb
      replace HF : Hid (Keep (fun k => (k = p6 ∨ k = p7) ∨ (Value.slice ao an ac).ownBlock = some k ∨ (Value.slice bo bn bc).ownBlock = some k) W _) := Lib.hid (HF.out.then_below hb)
      replace hsW := Nat.le_trans hsW hb.size
      clear hb
      first | refine hK.out _ _ ⟨i6, i7⟩ (fun _ => ?_) | (go_wp2_with fail; refine hK.out _ _ ⟨i6, i7⟩ (fun _ => ?_))
      clear hK K
      (try simp only [List.getElem_toArray, List.getElem_cons_succ, List.getElem_cons_zero, Act.put, List.setIfInBounds_toArray, List.set_cons_zero, List.set_cons_succ])
      refine wpAnyH_ready (rs := [3, 6]) (by kernel_rfl) (by simp) (AllReadyH.cons rfl (fun K hK => ?_) (AllReadyH.cons rfl (fun K hK => ?_) AllReadyH.nil))
      · skip
        rw [if_pos (by rfl)]
        refine step_appendKs (us := [.int .i64 (x9.1 : Int)]) E_intT iA rfl rfl rfl rfl (fun j u hj => by rw [Addr.add_lit, Nat.zero_add]; exact hNA.cell j u hj) (by simp [Value.oneCell']) (by omega) (by unfold maxLen; omega) hsW ?_
        intro vA wq2 hOA hgA hnA
        obtain ⟨Ao9, Ac9, rfl, -, -, -⟩ := hOA.slice
        have HSA : Hid (W.heap.size ≤ wq1.heap.size) := Lib.hid HF.out.size
        replace i3 := i3.block (hgA.block p3 i3.lt (fun e9 => by have := HOA.out p3 e9.symm; omega))
        replace i6 := i6.block (hgA.block p6 i6.lt (fun e9 => by have := HOA.out p6 e9.symm; omega))
        replace i7 := i7.block (hgA.block p7 i7.lt (fun e9 => by have := HOA.out p7 e9.symm; omega))
        replace HF : Hid (Keep (fun k => (k = p6 ∨ k = p7) ∨ (Value.slice ao an ac).ownBlock = some k ∨ (Value.slice bo bn bc).ownBlock = some k) W wq2) := Lib.hid ⟨hgA.os.trans HF.out.os, hgA.tape.trans HF.out.tape, hgA.output.trans HF.out.output, Nat.le_trans HF.out.size hgA.size, fun k hk hs => (hgA.block k (Nat.lt_of_lt_of_le hk HF.out.size) (fun e9 => hs (.inr (.inl e9.symm)))).trans (HF.out.same k hk hs)⟩
        have hAB : ∀ k, (Value.slice Ao9 (pre.length + 1) Ac9).ownBlock = some k → (Value.slice bo bn bc).ownBlock ≠ some k := fun k hk hk2 => by
          rcases hnA k hk with h9 | h9
          · exact HNE.out k h9 hk2
          · have := (iB.lt k hk2).2; omega
        replace iB := iB.block (fun k hk => hgA.block k (iB.lt k hk).2 (fun e9 => HNE.out k e9.symm hk))
        replace hsW := Nat.le_trans hsW hgA.size
        have HNA := Lib.hid hnA
        have HAB := Lib.hid hAB
        clear hgA hnA iA hAB
        first | refine hK.out _ _ ⟨i6, i7⟩ (fun _ => ?_) | (go_wp2_with fail; refine hK.out _ _ ⟨i6, i7⟩ (fun _ => ?_))
        clear hK K
        (try simp only [List.getElem_toArray, List.getElem_cons_succ, List.getElem_cons_zero, Act.put, List.setIfInBounds_toArray, List.set_cons_zero, List.set_cons_succ])
        refine wpAnyH_ready (rs := [6]) (by kernel_rfl) (by simp) (AllReadyH.cons rfl (fun K hK => ?_) AllReadyH.nil)
        go_simp
        obtain ⟨wq3, hwE⟩ : ∃ W, W = wq2.alloc (.cells #[.int .i64 (x9.2 : Int)] 3) := ⟨_, rfl⟩
        have hb : Below wq2.heap.size wq2 wq3 := by rw [hwE]; exact (Below.refl _ _).alloc (Nat.le_refl _) _
        obtain ⟨pnB, hpE⟩ : ∃ p, p = wq2.heap.size := ⟨_, rfl⟩
        have hNB : BoxL wq3 pnB [.int .i64 (x9.2 : Int)] := by rw [hwE, hpE]; exact BoxL.new wq2 _ _
        rw [← hwE, ← hpE]
        have hqB : W.heap.size ≤ pnB := by have := HF.out.size; omega
        clear hwE hpE
        replace i3 := i3.kept hb
        replace i6 := i6.kept hb
        replace i7 := i7.kept hb
        replace hOA := hOA.kept hb
        replace iB := iB.kept hb
        replace HF : Hid (Keep (fun k => (k = p6 ∨ k = p7) ∨ (Value.slice ao an ac).ownBlock = some k ∨ (Value.slice bo bn bc).ownBlock = some k) W _) := Lib.hid (HF.out.then_below hb)
        replace hsW := Nat.le_trans hsW hb.size
        clear hb
        first | refine hK.out _ _ ⟨i6, i7⟩ (fun _ => ?_) | (go_wp2_with fail; refine hK.out _ _ ⟨i6, i7⟩ (fun _ => ?_))
        clear hK K
        (try simp only [List.getElem_toArray, List.getElem_cons_succ, List.getElem_cons_zero, Act.put, List.setIfInBounds_toArray, List.set_cons_zero, List.set_cons_succ])
        refine wpAnyH_ready (rs := [7]) (by kernel_rfl) (by simp) (AllReadyH.cons rfl (fun K hK => ?_) AllReadyH.nil)
        rw [if_pos (by rfl)]
        refine step_appendKs (us := [.int .i64 (x9.2 : Int)]) E_intT iB rfl rfl rfl rfl (fun j u hj => by rw [Addr.add_lit, Nat.zero_add]; exact hNB.cell j u hj) (by simp [Value.oneCell']) (by omega) (by unfold maxLen; omega) hsW ?_
        intro vB wq4 hOB hgB hnB
        obtain ⟨Bo9, Bc9, rfl, -, -, -⟩ := hOB.slice
        have HSB : Hid (W.heap.size ≤ wq3.heap.size) := Lib.hid HF.out.size
        replace i3 := i3.block (hgB.block p3 i3.lt (fun e9 => by have := HOB.out p3 e9.symm; omega))
        replace i6 := i6.block (hgB.block p6 i6.lt (fun e9 => by have := HOB.out p6 e9.symm; omega))
        replace i7 := i7.block (hgB.block p7 i7.lt (fun e9 => by have := HOB.out p7 e9.symm; omega))
        replace HF : Hid (Keep (fun k => (k = p6 ∨ k = p7) ∨ (Value.slice ao an ac).ownBlock = some k ∨ (Value.slice bo bn bc).ownBlock = some k) W wq4) := Lib.hid ⟨hgB.os.trans HF.out.os, hgB.tape.trans HF.out.tape, hgB.output.trans HF.out.output, Nat.le_trans HF.out.size hgB.size, fun k hk hs => (hgB.block k (Nat.lt_of_lt_of_le hk HF.out.size) (fun e9 => hs (.inr (.inr e9.symm)))).trans (HF.out.same k hk hs)⟩
        have hAB2 : ∀ k, (Value.slice Ao9 (pre.length + 1) Ac9).ownBlock = some k → (Value.slice Bo9 (pre.length + 1) Bc9).ownBlock ≠ some k := fun k hk hk2 => by
          rcases hnB k hk2 with h9 | h9
          · exact HAB.out k hk h9
          · have := (hOA.lt k hk).2; omega
        replace hOA := hOA.block (fun k hk => hgB.block k (hOA.lt k hk).2 (fun e9 => HAB.out k hk e9.symm))
        replace hsW := Nat.le_trans hsW hgB.size
        have HNB := Lib.hid hnB
        have HAB2 := Lib.hid hAB2
        clear hgB hnB iB hAB2
        first | refine hK.out _ _ ⟨i6, i7⟩ (fun _ => ?_) | (go_wp2_with fail; refine hK.out _ _ ⟨i6, i7⟩ (fun _ => ?_))
        clear hK K
        (try simp only [List.getElem_toArray, List.getElem_cons_succ, List.getElem_cons_zero, Act.put, List.setIfInBounds_toArray, List.set_cons_zero, List.set_cons_succ])
        refine wpAnyH_done (by kernel_rfl) ?_ _
        refine tail_end rfl rfl ?_
        have e6 := i6.cell 0 _ rfl
        have f6 := i6.free 0 (by simp)
        go_simp
        clear e6 f6
        obtain ⟨wS, hwE⟩ : ∃ W, W = wq4.setCell ⟨p6, 0, none⟩ (.slice Ao9 (pre.length + 1) Ac9) := ⟨_, rfl⟩
        have hKS : Keep (fun k => k = p6) wq4 wS := by rw [hwE]; exact (Keep.refl _ _).set p6 0 _ (.inl rfl)
        replace i6 : BoxL wS p6 [.slice Ao9 (pre.length + 1) Ac9] := by rw [hwE]; exact i6.set 0 _ (by simp)
        rw [← hwE]
        clear hwE
        replace i3 := i3.keep hKS (by omega)
        replace i7 := i7.keep hKS (by omega)
        have hOAl : ∀ k, (Value.slice Ao9 (pre.length + 1) Ac9).ownBlock = some k → p7 < k := fun k hk => by have := (hOA.lt k hk).1; omega
        have hOBl : ∀ k, (Value.slice Bo9 (pre.length + 1) Bc9).ownBlock = some k → p7 < k := fun k hk => by have := (hOB.lt k hk).1; omega
        replace hOA := hOA.keep hKS (fun k hk e => by have := hOAl k hk; omega)
        replace hOB := hOB.keep hKS (fun k hk e => by have := hOBl k hk; omega)
        replace HF : Hid (Keep (fun k => (k = p6 ∨ k = p7) ∨ (Value.slice ao an ac).ownBlock = some k ∨ (Value.slice bo bn bc).ownBlock = some k) W wS) := Lib.hid (HF.out.trans hKS (fun k _ e => .inl (.inl e)))
        refine tail_end rfl rfl ?_
        have e7 := i7.cell 0 _ rfl
        have f7 := i7.free 0 (by simp)
        go_simp
        clear e7 f7
        obtain ⟨wT, hwE⟩ : ∃ W, W = wS.setCell ⟨p7, 0, none⟩ (.slice Bo9 (pre.length + 1) Bc9) := ⟨_, rfl⟩
        have hKT : Keep (fun k => k = p7) wS wT := by rw [hwE]; exact (Keep.refl _ _).set p7 0 _ (.inl rfl)
        replace i7 : BoxL wT p7 [.slice Bo9 (pre.length + 1) Bc9] := by rw [hwE]; exact i7.set 0 _ (by simp)
        rw [← hwE]
        clear hwE
        replace i3 := i3.keep hKT (by omega)
        replace i6 := i6.keep hKT (by omega)
        replace hOA := hOA.keep hKT (fun k hk e => by have := hOAl k hk; omega)
        replace hOB := hOB.keep hKT (fun k hk e => by have := hOBl k hk; omega)
        replace HF : Hid (Keep (fun k => (k = p6 ∨ k = p7) ∨ (Value.slice ao an ac).ownBlock = some k ∨ (Value.slice bo bn bc).ownBlock = some k) W wT) := Lib.hid (HF.out.trans hKT (fun k _ e => .inl (.inr e)))
        have hsT : wR.heap.size ≤ wT.heap.size := by have := hKS.size; have := hKT.size; omega
        rw [fstI_snoc] at hOA
        rw [sndI_snoc] at hOB
        have hl1 : (pre ++ [x9]).length = pre.length + 1 := by simp
        have hWT : Below w.heap.size w wT := HIW.out.trans (HF.out.below (fun k hk => by rcases hk with (hk | hk) | hk | hk; omega; omega; (have := HOA.out k hk; omega); (have := HOB.out k hk; omega)) (by have := HIW.out.size; omega))
        have hTl : TwI wR.heap.size p3 p6 p7 stop w (pre ++ [x9]) (fun k => (k = p6 ∨ k = p7) ∨ (Value.slice Ao9 (pre.length + 1) Ac9).ownBlock = some k ∨ (Value.slice Bo9 (pre.length + 1) Bc9).ownBlock = some k) wT := TwI.mk rfl i3 i6 i7 (by rw [hl1]; exact hOA) (by rw [hl1]; exact hOB) HAB2.out hWT
        have hFt : Foot (fun k => (k = p6 ∨ k = p7) ∨ (Value.slice ao an ac).ownBlock = some k ∨ (Value.slice bo bn bc).ownBlock = some k) (fun k => (k = p6 ∨ k = p7) ∨ (Value.slice Ao9 (pre.length + 1) Ac9).ownBlock = some k ∨ (Value.slice Bo9 (pre.length + 1) Bc9).ownBlock = some k) W wT := ⟨HF.out.os, HF.out.tape, HF.out.output, HF.out.size, HF.out.same, fun k hk => by
          rcases hk with hk | hk | hk
          · exact .inl (.inl hk)
          · rcases HNA.out k hk with h | h
            · exact .inl (.inr (.inl h))
            · exact .inr (Nat.le_trans HSA.out h)
          · rcases HNB.out k hk with h | h
            · exact .inl (.inr (.inr h))
            · exact .inr (Nat.le_trans HSB.out h)⟩
        have hTop : Top (fun k => (k = p6 ∨ k = p7) ∨ (Value.slice Ao9 (pre.length + 1) Ac9).ownBlock = some k ∨ (Value.slice Bo9 (pre.length + 1) Bc9).ownBlock = some k) wT := fun k hk => by
          rcases hk with (hk | hk) | hk | hk
          · omega
          · omega
          · exact (hOA.lt k hk).2
          · exact (hOB.lt k hk).2
        have HTL := Lib.hid hTl
        have HFT := Lib.hid hFt
        have HTP := Lib.hid hTop
        have HL1 := Lib.hid hl1
        have HST := Lib.hid hsT
        have e6 := i6.cell 0 _ rfl
        have e3 := i3.cell 0 _ rfl
        clear hTl hFt hTop hOA hOB hKS hKT hl1 hWT
        by_cases hst : ((pre.length + 1 : Nat) : Int) = stop
        · have hsb : (((pre.length : Nat) : Int) + 1 == stop) = true := by rw [beq_iff_eq]; omega
          have HSS := Lib.hid hst
          clear hst
          gi_wp2_with fail
          exact ⟨_, ⟨rfl, HTL.out, by rw [HL1.out]; exact HSS.out, by rw [HL1.out]; omega, HST.out⟩, HFT.out⟩
        · have hsb : (((pre.length : Nat) : Int) + 1 == stop) = false := by rw [beq_eq_false_iff_ne]; omega
          have HSS := Lib.hid hst
          clear hst
          gi_wp2_with fail
          exact ⟨_, ⟨HTL.out, by rw [HL1.out]; exact HNS.out.succ HSS.out, HST.out⟩, HFT.out, HTP.out⟩
      · skip
        go_simp
        obtain ⟨wq2, hwE⟩ : ∃ W, W = wq1.alloc (.cells #[.int .i64 (x9.2 : Int)] 3) := ⟨_, rfl⟩
        have hb : Below wq1.heap.size wq1 wq2 := by rw [hwE]; exact (Below.refl _ _).alloc (Nat.le_refl _) _
        obtain ⟨pnB, hpE⟩ : ∃ p, p = wq1.heap.size := ⟨_, rfl⟩
        have hNB : BoxL wq2 pnB [.int .i64 (x9.2 : Int)] := by rw [hwE, hpE]; exact BoxL.new wq1 _ _
        rw [← hwE, ← hpE]
        have hqB : W.heap.size ≤ pnB := by have := HF.out.size; omega
        clear hwE hpE
        replace i3 := i3.kept hb
        replace i6 := i6.kept hb
        replace i7 := i7.kept hb
        replace iA := iA.kept hb
        replace iB := iB.kept hb
        replace HF : Hid (Keep (fun k => (k = p6 ∨ k = p7) ∨ (Value.slice ao an ac).ownBlock = some k ∨ (Value.slice bo bn bc).ownBlock = some k) W _) := Lib.hid (HF.out.then_below hb)
        replace hsW := Nat.le_trans hsW hb.size
        replace hNA := hNA.kept hb
        clear hb
        first | refine hK.out _ _ ⟨i6, i7⟩ (fun _ => ?_) | (go_wp2_with fail; refine hK.out _ _ ⟨i6, i7⟩ (fun _ => ?_))
        clear hK K
        (try simp only [List.getElem_toArray, List.getElem_cons_succ, List.getElem_cons_zero, Act.put, List.setIfInBounds_toArray, List.set_cons_zero, List.set_cons_succ])
        refine wpAnyH_ready (rs := [3]) (by kernel_rfl) (by simp) (AllReadyH.cons rfl (fun K hK => ?_) AllReadyH.nil)
        rw [if_pos (by rfl)]
        refine step_appendKs (us := [.int .i64 (x9.1 : Int)]) E_intT iA rfl rfl rfl rfl (fun j u hj => by rw [Addr.add_lit, Nat.zero_add]; exact hNA.cell j u hj) (by simp [Value.oneCell']) (by omega) (by unfold maxLen; omega) hsW ?_
        intro vA wq3 hOA hgA hnA
        obtain ⟨Ao9, Ac9, rfl, -, -, -⟩ := hOA.slice
        have HSA : Hid (W.heap.size ≤ wq2.heap.size) := Lib.hid HF.out.size
        replace i3 := i3.block (hgA.block p3 i3.lt (fun e9 => by have := HOA.out p3 e9.symm; omega))
        replace i6 := i6.block (hgA.block p6 i6.lt (fun e9 => by have := HOA.out p6 e9.symm; omega))
        replace i7 := i7.block (hgA.block p7 i7.lt (fun e9 => by have := HOA.out p7 e9.symm; omega))
        replace HF : Hid (Keep (fun k => (k = p6 ∨ k = p7) ∨ (Value.slice ao an ac).ownBlock = some k ∨ (Value.slice bo bn bc).ownBlock = some k) W wq3) := Lib.hid ⟨hgA.os.trans HF.out.os, hgA.tape.trans HF.out.tape, hgA.output.trans HF.out.output, Nat.le_trans HF.out.size hgA.size, fun k hk hs => (hgA.block k (Nat.lt_of_lt_of_le hk HF.out.size) (fun e9 => hs (.inr (.inl e9.symm)))).trans (HF.out.same k hk hs)⟩
        have hAB : ∀ k, (Value.slice Ao9 (pre.length + 1) Ac9).ownBlock = some k → (Value.slice bo bn bc).ownBlock ≠ some k := fun k hk hk2 => by
          rcases hnA k hk with h9 | h9
          · exact HNE.out k h9 hk2
          · have := (iB.lt k hk2).2; omega
        replace iB := iB.block (fun k hk => hgA.block k (iB.lt k hk).2 (fun e9 => HNE.out k e9.symm hk))
        replace hNB := hNB.block (hgA.block pnB hNB.lt (fun e9 => by have := HOA.out pnB e9.symm; omega))
        replace hsW := Nat.le_trans hsW hgA.size
        have HNA := Lib.hid hnA
        have HAB := Lib.hid hAB
        clear hgA hnA iA hAB
        first | refine hK.out _ _ ⟨i6, i7⟩ (fun _ => ?_) | (go_wp2_with fail; refine hK.out _ _ ⟨i6, i7⟩ (fun _ => ?_))
        clear hK K
        (try simp only [List.getElem_toArray, List.getElem_cons_succ, List.getElem_cons_zero, Act.put, List.setIfInBounds_toArray, List.set_cons_zero, List.set_cons_succ])
        refine wpAnyH_ready (rs := [7]) (by kernel_rfl) (by simp) (AllReadyH.cons rfl (fun K hK => ?_) AllReadyH.nil)
        rw [if_pos (by rfl)]
        refine step_appendKs (us := [.int .i64 (x9.2 : Int)]) E_intT iB rfl rfl rfl rfl (fun j u hj => by rw [Addr.add_lit, Nat.zero_add]; exact hNB.cell j u hj) (by simp [Value.oneCell']) (by omega) (by unfold maxLen; omega) hsW ?_
        intro vB wq4 hOB hgB hnB
        obtain ⟨Bo9, Bc9, rfl, -, -, -⟩ := hOB.slice
        have HSB : Hid (W.heap.size ≤ wq3.heap.size) := Lib.hid HF.out.size
        replace i3 := i3.block (hgB.block p3 i3.lt (fun e9 => by have := HOB.out p3 e9.symm; omega))
        replace i6 := i6.block (hgB.block p6 i6.lt (fun e9 => by have := HOB.out p6 e9.symm; omega))
        replace i7 := i7.block (hgB.block p7 i7.lt (fun e9 => by have := HOB.out p7 e9.symm; omega))
        replace HF : Hid (Keep (fun k => (k = p6 ∨ k = p7) ∨ (Value.slice ao an ac).ownBlock = some k ∨ (Value.slice bo bn bc).ownBlock = some k) W wq4) := Lib.hid ⟨hgB.os.trans HF.out.os, hgB.tape.trans HF.out.tape, hgB.output.trans HF.out.output, Nat.le_trans HF.out.size hgB.size, fun k hk hs => (hgB.block k (Nat.lt_of_lt_of_le hk HF.out.size) (fun e9 => hs (.inr (.inr e9.symm)))).trans (HF.out.same k hk hs)⟩
        have hAB2 : ∀ k, (Value.slice Ao9 (pre.length + 1) Ac9).ownBlock = some k → (Value.slice Bo9 (pre.length + 1) Bc9).ownBlock ≠ some k := fun k hk hk2 => by
          rcases hnB k hk2 with h9 | h9
          · exact HAB.out k hk h9
          · have := (hOA.lt k hk).2; omega
        replace hOA := hOA.block (fun k hk => hgB.block k (hOA.lt k hk).2 (fun e9 => HAB.out k hk e9.symm))
        replace hsW := Nat.le_trans hsW hgB.size
        have HNB := Lib.hid hnB
        have HAB2 := Lib.hid hAB2
        clear hgB hnB iB hAB2
        first | refine hK.out _ _ ⟨i6, i7⟩ (fun _ => ?_) | (go_wp2_with fail; refine hK.out _ _ ⟨i6, i7⟩ (fun _ => ?_))
        clear hK K
        (try simp only [List.getElem_toArray, List.getElem_cons_succ, List.getElem_cons_zero, Act.put, List.setIfInBounds_toArray, List.set_cons_zero, List.set_cons_succ])
        refine wpAnyH_done (by kernel_rfl) ?_ _
        refine tail_end rfl rfl ?_
        have e6 := i6.cell 0 _ rfl
        have f6 := i6.free 0 (by simp)
        go_simp
        clear e6 f6
        obtain ⟨wS, hwE⟩ : ∃ W, W = wq4.setCell ⟨p6, 0, none⟩ (.slice Ao9 (pre.length + 1) Ac9) := ⟨_, rfl⟩
        have hKS : Keep (fun k => k = p6) wq4 wS := by rw [hwE]; exact (Keep.refl _ _).set p6 0 _ (.inl rfl)
        replace i6 : BoxL wS p6 [.slice Ao9 (pre.length + 1) Ac9] := by rw [hwE]; exact i6.set 0 _ (by simp)
        rw [← hwE]
        clear hwE
        replace i3 := i3.keep hKS (by omega)
        replace i7 := i7.keep hKS (by omega)
        have hOAl : ∀ k, (Value.slice Ao9 (pre.length + 1) Ac9).ownBlock = some k → p7 < k := fun k hk => by have := (hOA.lt k hk).1; omega
        have hOBl : ∀ k, (Value.slice Bo9 (pre.length + 1) Bc9).ownBlock = some k → p7 < k := fun k hk => by have := (hOB.lt k hk).1; omega
        replace hOA := hOA.keep hKS (fun k hk e => by have := hOAl k hk; omega)
        replace hOB := hOB.keep hKS (fun k hk e => by have := hOBl k hk; omega)
        replace HF : Hid (Keep (fun k => (k = p6 ∨ k = p7) ∨ (Value.slice ao an ac).ownBlock = some k ∨ (Value.slice bo bn bc).ownBlock = some k) W wS) := Lib.hid (HF.out.trans hKS (fun k _ e => .inl (.inl e)))
        refine tail_end rfl rfl ?_
        have e7 := i7.cell 0 _ rfl
        have f7 := i7.free 0 (by simp)
        go_simp
        clear e7 f7
        obtain ⟨wT, hwE⟩ : ∃ W, W = wS.setCell ⟨p7, 0, none⟩ (.slice Bo9 (pre.length + 1) Bc9) := ⟨_, rfl⟩
        have hKT : Keep (fun k => k = p7) wS wT := by rw [hwE]; exact (Keep.refl _ _).set p7 0 _ (.inl rfl)
        replace i7 : BoxL wT p7 [.slice Bo9 (pre.length + 1) Bc9] := by rw [hwE]; exact i7.set 0 _ (by simp)
        rw [← hwE]
        clear hwE
        replace i3 := i3.keep hKT (by omega)
        replace i6 := i6.keep hKT (by omega)
        replace hOA := hOA.keep hKT (fun k hk e => by have := hOAl k hk; omega)
        replace hOB := hOB.keep hKT (fun k hk e => by have := hOBl k hk; omega)
        replace HF : Hid (Keep (fun k => (k = p6 ∨ k = p7) ∨ (Value.slice ao an ac).ownBlock = some k ∨ (Value.slice bo bn bc).ownBlock = some k) W wT) := Lib.hid (HF.out.trans hKT (fun k _ e => .inl (.inr e)))
        have hsT : wR.heap.size ≤ wT.heap.size := by have := hKS.size; have := hKT.size; omega
        rw [fstI_snoc] at hOA
        rw [sndI_snoc] at hOB
        have hl1 : (pre ++ [x9]).length = pre.length + 1 := by simp
        have hWT : Below w.heap.size w wT := HIW.out.trans (HF.out.below (fun k hk => by rcases hk with (hk | hk) | hk | hk; omega; omega; (have := HOA.out k hk; omega); (have := HOB.out k hk; omega)) (by have := HIW.out.size; omega))
        have hTl : TwI wR.heap.size p3 p6 p7 stop w (pre ++ [x9]) (fun k => (k = p6 ∨ k = p7) ∨ (Value.slice Ao9 (pre.length + 1) Ac9).ownBlock = some k ∨ (Value.slice Bo9 (pre.length + 1) Bc9).ownBlock = some k) wT := TwI.mk rfl i3 i6 i7 (by rw [hl1]; exact hOA) (by rw [hl1]; exact hOB) HAB2.out hWT
        have hFt : Foot (fun k => (k = p6 ∨ k = p7) ∨ (Value.slice ao an ac).ownBlock = some k ∨ (Value.slice bo bn bc).ownBlock = some k) (fun k => (k = p6 ∨ k = p7) ∨ (Value.slice Ao9 (pre.length + 1) Ac9).ownBlock = some k ∨ (Value.slice Bo9 (pre.length + 1) Bc9).ownBlock = some k) W wT := ⟨HF.out.os, HF.out.tape, HF.out.output, HF.out.size, HF.out.same, fun k hk => by
          rcases hk with hk | hk | hk
          · exact .inl (.inl hk)
          · rcases HNA.out k hk with h | h
            · exact .inl (.inr (.inl h))
            · exact .inr (Nat.le_trans HSA.out h)
          · rcases HNB.out k hk with h | h
            · exact .inl (.inr (.inr h))
            · exact .inr (Nat.le_trans HSB.out h)⟩
        have hTop : Top (fun k => (k = p6 ∨ k = p7) ∨ (Value.slice Ao9 (pre.length + 1) Ac9).ownBlock = some k ∨ (Value.slice Bo9 (pre.length + 1) Bc9).ownBlock = some k) wT := fun k hk => by
          rcases hk with (hk | hk) | hk | hk
          · omega
          · omega
          · exact (hOA.lt k hk).2
          · exact (hOB.lt k hk).2
        have HTL := Lib.hid hTl
        have HFT := Lib.hid hFt
        have HTP := Lib.hid hTop
        have HL1 := Lib.hid hl1
        have HST := Lib.hid hsT
        have e6 := i6.cell 0 _ rfl
        have e3 := i3.cell 0 _ rfl
        clear hTl hFt hTop hOA hOB hKS hKT hl1 hWT
        by_cases hst : ((pre.length + 1 : Nat) : Int) = stop
        · have hsb : (((pre.length : Nat) : Int) + 1 == stop) = true := by rw [beq_iff_eq]; omega
          have HSS := Lib.hid hst
          clear hst
          gi_wp2_with fail
          exact ⟨_, ⟨rfl, HTL.out, by rw [HL1.out]; exact HSS.out, by rw [HL1.out]; omega, HST.out⟩, HFT.out⟩
        · have hsb : (((pre.length : Nat) : Int) + 1 == stop) = false := by rw [beq_eq_false_iff_ne]; omega
          have HSS := Lib.hid hst
          clear hst
          gi_wp2_with fail
          exact ⟨_, ⟨HTL.out, by rw [HL1.out]; exact HNS.out.succ HSS.out, HST.out⟩, HFT.out, HTP.out⟩
    · skip
      go_simp
      obtain ⟨wq1, hwE⟩ : ∃ W, W = wd.alloc (.cells #[.int .i64 (x9.2 : Int)] 3) := ⟨_, rfl⟩
      have hb : Below wd.heap.size wd wq1 := by rw [hwE]; exact (Below.refl _ _).alloc (Nat.le_refl _) _
      obtain ⟨pnB, hpE⟩ : ∃ p, p = wd.heap.size := ⟨_, rfl⟩
      have hNB : BoxL wq1 pnB [.int .i64 (x9.2 : Int)] := by rw [hwE, hpE]; exact BoxL.new wd _ _
      rw [← hwE, ← hpE]
      have hqB : W.heap.size ≤ pnB := by have := HF.out.size; omega
      clear hwE hpE
      replace i3 := i3.kept hb
      replace i6 := i6.kept hb
      replace i7 := i7.kept hb
      replace iA := iA.kept hb
      replace iB := iB.kept hb
      replace HF : Hid (Keep (fun k => (k = p6 ∨ k = p7) ∨ (Value.slice ao an ac).ownBlock = some k ∨ (Value.slice bo bn bc).ownBlock = some k) W _) := Lib.hid (HF.out.then_below hb)
      replace hsW := Nat.le_trans hsW hb.size
      clear hb
      first | refine hK.out _ _ ⟨i6, i7⟩ (fun _ => ?_) | (go_wp2_with fail; refine hK.out _ _ ⟨i6, i7⟩ (fun _ => ?_))
      clear hK K
      (try simp only [List.getElem_toArray, List.getElem_cons_succ, List.getElem_cons_zero, Act.put, List.setIfInBounds_toArray, List.set_cons_zero, List.set_cons_succ])
      refine wpAnyH_ready (rs := [2]) (by kernel_rfl) (by simp) (AllReadyH.cons rfl (fun K hK => ?_) AllReadyH.nil)
      go_simp
      obtain ⟨wq2, hwE⟩ : ∃ W, W = wq1.alloc (.cells #[.int .i64 (x9.1 : Int)] 3) := ⟨_, rfl⟩
      have hb : Below wq1.heap.size wq1 wq2 := by rw [hwE]; exact (Below.refl _ _).alloc (Nat.le_refl _) _
      obtain ⟨pnA, hpE⟩ : ∃ p, p = wq1.heap.size := ⟨_, rfl⟩
      have hNA : BoxL wq2 pnA [.int .i64 (x9.1 : Int)] := by rw [hwE, hpE]; exact BoxL.new wq1 _ _
      rw [← hwE, ← hpE]
      have hqA : W.heap.size ≤ pnA := by have := HF.out.size; omega
      clear hwE hpE
      replace i3 := i3.kept hb
      replace i6 := i6.kept hb
      replace i7 := i7.kept hb
      replace iA := iA.kept hb
      replace iB := iB.kept hb
      replace HF : Hid (Keep (fun k => (k = p6 ∨ k = p7) ∨ (Value.slice ao an ac).ownBlock = some k ∨ (Value.slice bo bn bc).ownBlock = some k) W _) := Lib.hid (HF.out.then_below hb)
      replace hsW := Nat.le_trans hsW hb.size
      replace hNB := hNB.kept hb
      clear hb
      first | refine hK.out _ _ ⟨i6, i7⟩ (fun _ => ?_) | (go_wp2_with fail; refine hK.out _ _ ⟨i6, i7⟩ (fun _ => ?_))
      clear hK K
      (try simp only [List.getElem_toArray, List.getElem_cons_succ, List.getElem_cons_zero, Act.put, List.setIfInBounds_toArray, List.set_cons_zero, List.set_cons_succ])
      refine wpAnyH_ready (rs := [3]) (by kernel_rfl) (by simp) (AllReadyH.cons rfl (fun K hK => ?_) AllReadyH.nil)
      rw [if_pos (by rfl)]
      refine step_appendKs (us := [.int .i64 (x9.1 : Int)]) E_intT iA rfl rfl rfl rfl (fun j u hj => by rw [Addr.add_lit, Nat.zero_add]; exact hNA.cell j u hj) (by simp [Value.oneCell']) (by omega) (by unfold maxLen; omega) hsW ?_
      intro vA wq3 hOA hgA hnA
      obtain ⟨Ao9, Ac9, rfl, -, -, -⟩ := hOA.slice
      have HSA : Hid (W.heap.size ≤ wq2.heap.size) := Lib.hid HF.out.size
      replace i3 := i3.block (hgA.block p3 i3.lt (fun e9 => by have := HOA.out p3 e9.symm; omega))
      replace i6 := i6.block (hgA.block p6 i6.lt (fun e9 => by have := HOA.out p6 e9.symm; omega))
      replace i7 := i7.block (hgA.block p7 i7.lt (fun e9 => by have := HOA.out p7 e9.symm; omega))
      replace HF : Hid (Keep (fun k => (k = p6 ∨ k = p7) ∨ (Value.slice ao an ac).ownBlock = some k ∨ (Value.slice bo bn bc).ownBlock = some k) W wq3) := Lib.hid ⟨hgA.os.trans HF.out.os, hgA.tape.trans HF.out.tape, hgA.output.trans HF.out.output, Nat.le_trans HF.out.size hgA.size, fun k hk hs => (hgA.block k (Nat.lt_of_lt_of_le hk HF.out.size) (fun e9 => hs (.inr (.inl e9.symm)))).trans (HF.out.same k hk hs)⟩
      have hAB : ∀ k, (Value.slice Ao9 (pre.length + 1) Ac9).ownBlock = some k → (Value.slice bo bn bc).ownBlock ≠ some k := fun k hk hk2 => by
        rcases hnA k hk with h9 | h9
        · exact HNE.out k h9 hk2
        · have := (iB.lt k hk2).2; omega
      replace iB := iB.block (fun k hk => hgA.block k (iB.lt k hk).2 (fun e9 => HNE.out k e9.symm hk))
      replace hNB := hNB.block (hgA.block pnB hNB.lt (fun e9 => by have := HOA.out pnB e9.symm; omega))
      replace hsW := Nat.le_trans hsW hgA.size
      have HNA := Lib.hid hnA
      have HAB := Lib.hid hAB
      clear hgA hnA iA hAB
      first | refine hK.out _ _ ⟨i6, i7⟩ (fun _ => ?_) | (go_wp2_with fail; refine hK.out _ _ ⟨i6, i7⟩ (fun _ => ?_))
      clear hK K
      (try simp only [List.getElem_toArray, List.getElem_cons_succ, List.getElem_cons_zero, Act.put, List.setIfInBounds_toArray, List.set_cons_zero, List.set_cons_succ])
      refine wpAnyH_ready (rs := [7]) (by kernel_rfl) (by simp) (AllReadyH.cons rfl (fun K hK => ?_) AllReadyH.nil)
      rw [if_pos (by rfl)]
      refine step_appendKs (us := [.int .i64 (x9.2 : Int)]) E_intT iB rfl rfl rfl rfl (fun j u hj => by rw [Addr.add_lit, Nat.zero_add]; exact hNB.cell j u hj) (by simp [Value.oneCell']) (by omega) (by unfold maxLen; omega) hsW ?_
      intro vB wq4 hOB hgB hnB
      obtain ⟨Bo9, Bc9, rfl, -, -, -⟩ := hOB.slice
      have HSB : Hid (W.heap.size ≤ wq3.heap.size) := Lib.hid HF.out.size
      replace i3 := i3.block (hgB.block p3 i3.lt (fun e9 => by have := HOB.out p3 e9.symm; omega))
      replace i6 := i6.block (hgB.block p6 i6.lt (fun e9 => by have := HOB.out p6 e9.symm; omega))
      replace i7 := i7.block (hgB.block p7 i7.lt (fun e9 => by have := HOB.out p7 e9.symm; omega))
      replace HF : Hid (Keep (fun k => (k = p6 ∨ k = p7) ∨ (Value.slice ao an ac).ownBlock = some k ∨ (Value.slice bo bn bc).ownBlock = some k) W wq4) := Lib.hid ⟨hgB.os.trans HF.out.os, hgB.tape.trans HF.out.tape, hgB.output.trans HF.out.output, Nat.le_trans HF.out.size hgB.size, fun k hk hs => (hgB.block k (Nat.lt_of_lt_of_le hk HF.out.size) (fun e9 => hs (.inr (.inr e9.symm)))).trans (HF.out.same k hk hs)⟩
      have hAB2 : ∀ k, (Value.slice Ao9 (pre.length + 1) Ac9).ownBlock = some k → (Value.slice Bo9 (pre.length + 1) Bc9).ownBlock ≠ some k := fun k hk hk2 => by
        rcases hnB k hk2 with h9 | h9
        · exact HAB.out k hk h9
        · have := (hOA.lt k hk).2; omega
      replace hOA := hOA.block (fun k hk => hgB.block k (hOA.lt k hk).2 (fun e9 => HAB.out k hk e9.symm))
      replace hsW := Nat.le_trans hsW hgB.size
      have HNB := Lib.hid hnB
      have HAB2 := Lib.hid hAB2
      clear hgB hnB iB hAB2
      first | refine hK.out _ _ ⟨i6, i7⟩ (fun _ => ?_) | (go_wp2_with fail; refine hK.out _ _ ⟨i6, i7⟩ (fun _ => ?_))
      clear hK K
      (try simp only [List.getElem_toArray, List.getElem_cons_succ, List.getElem_cons_zero, Act.put, List.setIfInBounds_toArray, List.set_cons_zero, List.set_cons_succ])
      refine wpAnyH_done (by kernel_rfl) ?_ _
      refine tail_end rfl rfl ?_
      have e6 := i6.cell 0 _ rfl
      have f6 := i6.free 0 (by simp)
      go_simp
      clear e6 f6
      obtain ⟨wS, hwE⟩ : ∃ W, W = wq4.setCell ⟨p6, 0, none⟩ (.slice Ao9 (pre.length + 1) Ac9) := ⟨_, rfl⟩
      have hKS : Keep (fun k => k = p6) wq4 wS := by rw [hwE]; exact (Keep.refl _ _).set p6 0 _ (.inl rfl)
      replace i6 : BoxL wS p6 [.slice Ao9 (pre.length + 1) Ac9] := by rw [hwE]; exact i6.set 0 _ (by simp)
      rw [← hwE]
      clear hwE
      replace i3 := i3.keep hKS (by omega)
      replace i7 := i7.keep hKS (by omega)
      have hOAl : ∀ k, (Value.slice Ao9 (pre.length + 1) Ac9).ownBlock = some k → p7 < k := fun k hk => by have := (hOA.lt k hk).1; omega
      have hOBl : ∀ k, (Value.slice Bo9 (pre.length + 1) Bc9).ownBlock = some k → p7 < k := fun k hk => by have := (hOB.lt k hk).1; omega
      replace hOA := hOA.keep hKS (fun k hk e => by have := hOAl k hk; omega)
      replace hOB := hOB.keep hKS (fun k hk e => by have := hOBl k hk; omega)
      replace HF : Hid (Keep (fun k => (k = p6 ∨ k = p7) ∨ (Value.slice ao an ac).ownBlock = some k ∨ (Value.slice bo bn bc).ownBlock = some k) W wS) := Lib.hid (HF.out.trans hKS (fun k _ e => .inl (.inl e)))
      refine tail_end rfl rfl ?_
      have e7 := i7.cell 0 _ rfl
      have f7 := i7.free 0 (by simp)
      go_simp
      clear e7 f7
      obtain ⟨wT, hwE⟩ : ∃ W, W = wS.setCell ⟨p7, 0, none⟩ (.slice Bo9 (pre.length + 1) Bc9) := ⟨_, rfl⟩
      have hKT : Keep (fun k => k = p7) wS wT := by rw [hwE]; exact (Keep.refl _ _).set p7 0 _ (.inl rfl)
      replace i7 : BoxL wT p7 [.slice Bo9 (pre.length + 1) Bc9] := by rw [hwE]; exact i7.set 0 _ (by simp)
      rw [← hwE]
      clear hwE
      replace i3 := i3.keep hKT (by omega)
      replace i6 := i6.keep hKT (by omega)
      replace hOA := hOA.keep hKT (fun k hk e => by have := hOAl k hk; omega)
      replace hOB := hOB.keep hKT (fun k hk e => by have := hOBl k hk; omega)
      replace HF : Hid (Keep (fun k => (k = p6 ∨ k = p7) ∨ (Value.slice ao an ac).ownBlock = some k ∨ (Value.slice bo bn bc).ownBlock = some k) W wT) := Lib.hid (HF.out.trans hKT (fun k _ e => .inl (.inr e)))
      have hsT : wR.heap.size ≤ wT.heap.size := by have := hKS.size; have := hKT.size; omega
      rw [fstI_snoc] at hOA
      rw [sndI_snoc] at hOB
      have hl1 : (pre ++ [x9]).length = pre.length + 1 := by simp
      have hWT : Below w.heap.size w wT := HIW.out.trans (HF.out.below (fun k hk => by rcases hk with (hk | hk) | hk | hk; omega; omega; (have := HOA.out k hk; omega); (have := HOB.out k hk; omega)) (by have := HIW.out.size; omega))
      have hTl : TwI wR.heap.size p3 p6 p7 stop w (pre ++ [x9]) (fun k => (k = p6 ∨ k = p7) ∨ (Value.slice Ao9 (pre.length + 1) Ac9).ownBlock = some k ∨ (Value.slice Bo9 (pre.length + 1) Bc9).ownBlock = some k) wT := TwI.mk rfl i3 i6 i7 (by rw [hl1]; exact hOA) (by rw [hl1]; exact hOB) HAB2.out hWT
      have hFt : Foot (fun k => (k = p6 ∨ k = p7) ∨ (Value.slice ao an ac).ownBlock = some k ∨ (Value.slice bo bn bc).ownBlock = some k) (fun k => (k = p6 ∨ k = p7) ∨ (Value.slice Ao9 (pre.length + 1) Ac9).ownBlock = some k ∨ (Value.slice Bo9 (pre.length + 1) Bc9).ownBlock = some k) W wT := ⟨HF.out.os, HF.out.tape, HF.out.output, HF.out.size, HF.out.same, fun k hk => by
        rcases hk with hk | hk | hk
        · exact .inl (.inl hk)
        · rcases HNA.out k hk with h | h
          · exact .inl (.inr (.inl h))
          · exact .inr (Nat.le_trans HSA.out h)
        · rcases HNB.out k hk with h | h
          · exact .inl (.inr (.inr h))
          · exact .inr (Nat.le_trans HSB.out h)⟩
      have hTop : Top (fun k => (k = p6 ∨ k = p7) ∨ (Value.slice Ao9 (pre.length + 1) Ac9).ownBlock = some k ∨ (Value.slice Bo9 (pre.length + 1) Bc9).ownBlock = some k) wT := fun k hk => by
        rcases hk with (hk | hk) | hk | hk
        · omega
        · omega
        · exact (hOA.lt k hk).2
        · exact (hOB.lt k hk).2
      have HTL := Lib.hid hTl
      have HFT := Lib.hid hFt
      have HTP := Lib.hid hTop
      have HL1 := Lib.hid hl1
      have HST := Lib.hid hsT
      have e6 := i6.cell 0 _ rfl
      have e3 := i3.cell 0 _ rfl
      clear hTl hFt hTop hOA hOB hKS hKT hl1 hWT
      by_cases hst : ((pre.length + 1 : Nat) : Int) = stop
      · have hsb : (((pre.length : Nat) : Int) + 1 == stop) = true := by rw [beq_iff_eq]; omega
        have HSS := Lib.hid hst
        clear hst
        gi_wp2_with fail
        exact ⟨_, ⟨rfl, HTL.out, by rw [HL1.out]; exact HSS.out, by rw [HL1.out]; omega, HST.out⟩, HFT.out⟩
      · have hsb : (((pre.length : Nat) : Int) + 1 == stop) = false := by rw [beq_eq_false_iff_ne]; omega
        have HSS := Lib.hid hst
        clear hst
        gi_wp2_with fail
        exact ⟨_, ⟨HTL.out, by rw [HL1.out]; exact HNS.out.succ HSS.out, HST.out⟩, HFT.out, HTP.out⟩
  case done =>
    rintro D S W hD ⟨hI, hN, hsW⟩ hK
    have hRL : R = L := HR.out.trans (cutL_all hN).symm
    subst hRL
    obtain ⟨ao, an, ac, bo, bn, bc, rfl, i3, i6, i7, iA, iB, hNEx, iW⟩ := hI
    obtain ⟨ao1, cap1, hva, -, -, -⟩ := iA.slice
    obtain ⟨bo1, cap2, hvb, -, -, -⟩ := iB.slice
    obtain rfl : an = R.length := by cases hva; rfl
    obtain rfl : bn = R.length := by cases hvb; rfl
    have HL : Hid (R.length = R.length) := Lib.hid rfl
    clear hva hvb HR hN
    have e6 := i6.cell 0 _ rfl
    have e7 := i7.cell 0 _ rfl
    have HOA := Lib.hid iA
    have HOB := Lib.hid iB
    have HB := Lib.hid iW
    have HK := Lib.hid hK
    clear iA iB iW hK i3 hNEx
    gi_wp2_with fail
    refine wpIn_wide.2 ?_
    go_region
    clear e6 e7
    have hd : Below W.heap.size W W.drew := (Below.refl _ _).drew
    have hKD : W.drew.heap[D]? = some (.deferred (some [])) := (hd.block D (Array.getElem?_eq_some_iff.1 HK.out).1).trans HK.out
    have hO2 := HOA.out.kept hd
    have hO3 := HOB.out.kept hd
    have hB2 := HB.out.trans (hd.mono HB.out.size)
    have hDw : w.heap.size ≤ W.drew.heap.size := hB2.size
    clear hd HK HOA HOB HB
    generalize W.drew = W2 at *
    gi_wp2_with fail
    have hx9 : Ext D W2 (W2.putObj D (.deferred none)) := Ext.put (Nat.le_refl _) hKD rfl
    refine ⟨by simp, .inl ⟨_, _, rfl, run_takeDeferred hKD, ?_⟩⟩
    refine ⟨_, results_tmp2 rfl _ _ _, ?_⟩
    exact TwPost.mk rfl (Lib.hid rfl) ((hO2.ext hx9).mono (by omega)) ((hO3.ext hx9).mono (by omega)) (below_extT hB2 hx9 (by omega) hDw)
  case stop =>
    rintro D c pre S W hD hp ⟨rfl, hI, hst, hp0, hsW⟩ hK
    have hRL : pre = R := (cutL_stop hp hst hp0).trans HR.out.symm
    subst hRL
    obtain ⟨ao, an, ac, bo, bn, bc, rfl, i3, i6, i7, iA, iB, hNEx, iW⟩ := hI
    obtain ⟨ao1, cap1, hva, -, -, -⟩ := iA.slice
    obtain ⟨bo1, cap2, hvb, -, -, -⟩ := iB.slice
    obtain rfl : an = pre.length := by cases hva; rfl
    obtain rfl : bn = pre.length := by cases hvb; rfl
    have HL : Hid (pre.length = pre.length) := Lib.hid rfl
    clear hva hvb HR hp hst hp0
    have e6 := i6.cell 0 _ rfl
    have e7 := i7.cell 0 _ rfl
    have HOA := Lib.hid iA
    have HOB := Lib.hid iB
    have HB := Lib.hid iW
    have HK := Lib.hid hK
    clear iA iB iW hK i3 hNEx
    gi_wp2_with fail
    refine wpIn_wide.2 ?_
    go_region
    clear e6 e7
    have hd : Below W.heap.size W W.drew := (Below.refl _ _).drew
    have hKD : W.drew.heap[D]? = some (.deferred (some [])) := (hd.block D (Array.getElem?_eq_some_iff.1 HK.out).1).trans HK.out
    have hO2 := HOA.out.kept hd
    have hO3 := HOB.out.kept hd
    have hB2 := HB.out.trans (hd.mono HB.out.size)
    have hDw : w.heap.size ≤ W.drew.heap.size := hB2.size
    clear hd HK HOA HOB HB
    generalize W.drew = W2 at *
    gi_wp2_with fail
    have hx9 : Ext D W2 (W2.putObj D (.deferred none)) := Ext.put (Nat.le_refl _) hKD rfl
    refine ⟨by simp, .inl ⟨_, _, rfl, run_takeDeferred hKD, ?_⟩⟩
    refine ⟨_, results_tmp2 rfl _ _ _, ?_⟩
    exact TwPost.mk rfl (Lib.hid rfl) ((hO2.ext hx9).mono (by omega)) ((hO3.ext hx9).mono (by omega)) (below_extT hB2 hx9 (by omega) hDw)
  · rintro pre S W W' ⟨hI, hN, hsW⟩ ho
    exact ⟨hI.oth ho (by omega) (by omega), hN, Nat.le_trans hsW ho.size⟩
  · rintro c pre S W W' ⟨rfl, hI, hst, hp0, hsW⟩ ho
    exact ⟨rfl, hI.oth ho (by omega) (by omega), hst, hp0, Nat.le_trans hsW ho.size⟩
  · rintro k (hk | hk | hk)
    · exact ⟨fun hr => by rcases hr with hr | hr <;> omega, by omega⟩
    · simp [Value.ownBlock] at hk
    · simp [Value.ownBlock] at hk
  · exact ⟨TwI.mk rfl hb3 hb6 hb7 (OwnsK.nil _ _ _ _) (OwnsK.nil _ _ _ _) (fun k hk => by simp [Value.ownBlock] at hk) hbR, NoStop.zero _, Nat.le_refl _⟩
  · rintro x9 a' W W' rfl hx
    rfl
end Go.Proofs.YtlmjkbdodecbmaaGreatDoor
