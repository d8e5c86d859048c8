/-
  Pe08: PrdF (what is needed of them).
-/
import Derived.Test.YtlmjkbdodecbmaaDoorPe07
import Derived.Deep.RegionHeld

namespace Go.Proofs.YtlmjkbdodecbmaaDoor
open Go.RowKit Go.Shelf
set_option linter.unusedVariables false
set_option linter.unusedSimpArgs false
attribute [local go_sem] Oper.semAt_some field_nat
section
variable {P : Program} {ops : Array Oper} {Q : Exit → Act → World → Prop} {S : World → Prop}
theorem rep_pop3 (n : Nat) : (Array.replicate n false).pop = Array.replicate (n - 1) false := by
  apply Array.ext_getElem?
  intro j
  simp only [Array.getElem?_pop, Array.getElem?_replicate, Array.size_replicate]
  split
  · rw [if_pos (by omega)]
  · rfl
theorem wpAny_tail3 (hk : tailOk3 ops = true) {fuel : Nat} {a : Act} {w : World} (h : wpAny P .any ops.pop (TailQ P ops Q) fuel (Array.replicate (ops.size - 1) false) a w) : wpAny P .any ops Q (fuel + 1) (Array.replicate ops.size false) a w := by
  have T := tailOk_spec3 hk
  rw [← rep_pop3] at h
  exact wpAny_of_init3 T _ (Array.replicate ops.size false) a w (by simp) (by
    have := T.pos
    rw [Array.getD_eq_getD_getElem?, Array.getElem?_replicate, if_pos (by omega)]; rfl) (fun j o _ hl9 => by
    rw [Array.getD_eq_getD_getElem?, Array.getElem?_replicate] at hl9
    split at hl9 <;> cases hl9) h
/-- A region in a round that draws its order, whose last two operations wait for all others. -/
theorem wpIn_region_heldT2 {l9 id : Nat} {a : Act} {w : World} (hnd : noDefers ops = true) (hlo : ¬ LetsOut Q) (hm : P.follows .mixedOrders = true) (hk : tailOk3 ops = true) (hk' : tailOk3 ops.pop = true) (hn : 2 ≤ ops.size) (hS : S w.drew)
    (h : S w.drew → wpAnyH P .any ops.pop.pop (TailQ P ops.pop (TailQ P ops Q)) S (ops.size - 2) (Array.replicate (ops.size - 2) false) a w.drew) : (Code.region id ops true).wpIn (Fence.wide.inRound l9) 0 P Q a w := by
  have h2 := wpAny_tail3 hk' (Q := TailQ P ops Q) (by rw [Array.size_pop, show ops.size - 1 - 1 = ops.size - 2 by omega]; exact wpAny_of_held _ _ _ _ (h hS))
  rw [Array.size_pop] at h2
  have h3 := wpAny_tail3 hk h2
  rw [show ops.size - 2 + 1 + 1 = ops.size by omega] at h3
  exact wpIn_region_any hm (wpAnyIn_of_wpAny hnd hlo _ _ _ _ h3)
end
/-- What is told till one has enough. -/
def cutL {α : Type} (stop : Int) (L : List α) : List α := if 0 < stop ∧ stop < (L.length : Int) then L.take stop.toNat else L
theorem cutL_stop {α : Type} {stop : Int} {pre L : List α} (h : pre <+: L) (hs : (pre.length : Int) = stop) (h0 : 0 < pre.length) : pre = cutL stop L := by
  unfold cutL
  have h1 := List.prefix_iff_eq_take.1 h
  have hl := h.length_le
  split
  · rename_i h2
    rw [show stop.toNat = pre.length by omega]; exact h1
  · rename_i h2
    have : pre.length = L.length := by omega
    rw [h1, this, List.take_length]
theorem cutL_all {α : Type} {stop : Int} {L : List α} (h : ∀ j : Nat, 1 ≤ j → j ≤ L.length → (j : Int) ≠ stop) : L = cutL stop L := by
  unfold cutL
  split
  · rename_i h2
    exact absurd (show ((stop.toNat : Nat) : Int) = stop by omega) (h stop.toNat (by omega) (by omega))
  · rfl
/-- The two lists that are grown, and their boxes. -/
def TlI (B D p3 p6 p7 : Nat) (stop : Int) (w : World) (pre : List (PT × Nat)) (S : Nat → Prop) (W : World) : Prop := ∃ (ao : Option Addr) (an ac : Nat) (bo : Option Addr) (bn bc : Nat) (xs : List Value), (S = fun k => (k = p6 ∨ k = p7) ∨ (Value.slice ao an ac).ownBlock = some k ∨ (Value.slice bo bn bc).ownBlock = some k) ∧ BoxL W p3 [.int .i64 stop] ∧ BoxL W p6 [.slice ao an ac] ∧ BoxL W p7 [.slice bo bn bc] ∧
  OwnsK 4 D 25 W (.slice ao an ac) pre.length xs ∧ RowP B W (pre.map Prod.fst) xs ∧ OwnsK 1 D 3 W (.slice bo bn bc) pre.length (dcel pre) ∧ Below w.heap.size w W
theorem TlI.mk {B D p3 p6 p7 : Nat} {stop : Int} {w : World} {pre : List (PT × Nat)} {S : Nat → Prop} {W : World} {ao : Option Addr} {an ac : Nat} {bo : Option Addr} {bn bc : Nat} {xs : List Value} (h0 : S = fun k => (k = p6 ∨ k = p7) ∨ (Value.slice ao an ac).ownBlock = some k ∨ (Value.slice bo bn bc).ownBlock = some k) (h1 : BoxL W p3 [.int .i64 stop]) (h2 : BoxL W p6 [.slice ao an ac]) (h3 : BoxL W p7 [.slice bo bn bc])
    (h4 : OwnsK 4 D 25 W (.slice ao an ac) pre.length xs) (h5 : RowP B W (pre.map Prod.fst) xs) (h6 : OwnsK 1 D 3 W (.slice bo bn bc) pre.length (dcel pre)) (h7 : Below w.heap.size w W) : TlI B D p3 p6 p7 stop w pre S W := ⟨ao, an, ac, bo, bn, bc, xs, h0, h1, h2, h3, h4, h5, h6, h7⟩
theorem TlI.oth {B D p3 p6 p7 : Nat} {stop : Int} {w : World} {pre : List (PT × Nat)} {S : Nat → Prop} {W W' : World} {D1 : Nat} (h : TlI B D p3 p6 p7 stop w pre S W) (ho : Oth D1 S W W') (hB : B ≤ D1) (hw : w.heap.size ≤ D1) (h3 : p3 < D1) (hBW : B ≤ W.heap.size) : TlI B D p3 p6 p7 stop w pre S W' := by
  obtain ⟨ao, an, ac, bo, bn, bc, xs, rfl, i1, i2, i3, i4, i5, i6, i7⟩ := h
  refine TlI.mk rfl (i1.block (ho.same _ i1.lt (.inl h3))) (i2.block (ho.same _ i2.lt (.inr (.inl (.inl rfl))))) (i3.block (ho.same _ i3.lt (.inr (.inl (.inr rfl))))) (i4.block fun g hg => ho.same g (i4.lt g hg).2 (.inr (.inr (.inl hg)))) (i5.low (ho.low hB hBW)) (i6.block fun g hg => ho.same g (i6.lt g hg).2 (.inr (.inr (.inr hg)))) ?_
  exact i7.trans ⟨ho.os, ho.tape, ho.output, ho.size, fun k hk => ho.same k (Nat.lt_of_lt_of_le hk i7.size) (.inl (by omega))⟩
/-- No round so far was the last one asked for. -/
def NoStop (stop : Int) (n : Nat) : Prop := ∀ j : Nat, 1 ≤ j → j ≤ n → (j : Int) ≠ stop
theorem NoStop.zero (stop : Int) : NoStop stop 0 := fun j h1 h2 => by omega
theorem NoStop.succ {stop : Int} {n : Nat} (h : NoStop stop n) (hn : ((n + 1 : Nat) : Int) ≠ stop) : NoStop stop (n + 1) := fun j h1 h2 => by
  rcases Nat.lt_or_ge n j with h3 | h3
  · rw [show j = n + 1 by omega]; exact hn
  · exact h j h1 h3
/-- What told answers. -/
def TdPost (B : Nat) (L : List (PT × Nat)) (w : World) (e : Ending) (w' : World) : Prop := ∃ (ao : Option Addr) (n ac : Nat) (bo : Option Addr) (bc : Nat) (xs : List Value), e = .returned (.tuple #[.slice ao n ac, .slice bo n bc]) ∧ Hid (n = L.length) ∧
  OwnsK 4 w.heap.size 25 w' (.slice ao n ac) n xs ∧ Hid (RowP B w' (L.map Prod.fst) xs) ∧ OwnsK 1 w.heap.size 3 w' (.slice bo n bc) n (dcel L) ∧ Below w.heap.size w w'
theorem TdPost.mk {B : Nat} {L : List (PT × Nat)} {w w' : World} {e : Ending} {ao : Option Addr} {n ac : Nat} {bo : Option Addr} {bc : Nat} {xs : List Value} (h1 : e = .returned (.tuple #[.slice ao n ac, .slice bo n bc])) (h2 : Hid (n = L.length)) (h3 : OwnsK 4 w.heap.size 25 w' (.slice ao n ac) n xs) (h4 : Hid (RowP B w' (L.map Prod.fst) xs)) (h5 : OwnsK 1 w.heap.size 3 w' (.slice bo n bc) n (dcel L)) (h6 : Below w.heap.size w w') : TdPost B L w e w' := ⟨ao, n, ac, bo, bc, xs, h1, h2, h3, h4, h5, h6⟩
theorem below_extT {B D : Nat} {w W W' : World} (h : Below B w W) (hx : Ext D W W') (hD : B ≤ D) (hB : B ≤ W.heap.size) : Below B w W' := h.trans ⟨hx.os, hx.tape, hx.output, hx.size, fun k hk => hx.low k (by omega) (by omega)⟩
theorem step_appendKs {P : Program} {t e : TypeId} {z : Value} {K bytes : Nat} (E : ElemK P t e z K bytes) {w : World} {o : Oper} {a : Act} {Kn : Act → World → Prop} {Q : Exit → Act → World → Prop} {s x : Operand} {us : List Value} {base n : Nat} {v : Value} {xs : List Value} {ad : Addr}
    (hown : OwnsK K base e w v n xs) (ho : o.op = .call { callee := .builtin .append, args := #[s, x], argTypes := #[t, t] }) (hs : a.eval s = v) (hx : a.eval x = .slice (some ad) 1 1) (hul : us.length = K) (hu : ∀ j u', us[j]? = some u' → w.cell? (ad.add j) = some u') (h1 : ∀ u ∈ us, u.oneCell' = true) (hl : (n + 1) * bytes ≤ 140737488355328) (hm : n + 1 ≤ maxLen) (hbase : base ≤ w.heap.size)
    (h : ∀ v' w', OwnsK K base e w' v' (n + 1) (xs ++ us) → w.grownBy w' v.ownBlock → (∀ g, v'.ownBlock = some g → v.ownBlock = some g ∨ w.heap.size ≤ g) → Kn (a.put o.dst v') w') : Oper.wp P o a w Kn Q := by
  obtain ⟨v', w', hrun, r1, r2, r3, r4⟩ := run_appendK E o.type hown ad 1 us hul hu h1 hl hm hbase
  unfold Oper.wp
  simp [execOp, ho, resolve, invoke, builtin, hs, hx, hrun, Result.andThen]
  exact h _ _ r1 r2 r3
set_option maxRecDepth 100000 in
set_option maxHeartbeats 8000000 in
/-- told. -/
theorem told_any (p : PT) (stop : Int) (vo : Option Addr) (vc : Nat) (ko : Option Addr) (kc : Nat) (B px : Nat) (w : World) (hP : PtIs B w p vo vc ko kc) (hBw : B ≤ w.heap.size) (hpx : px < w.heap.size) (hsz : sizeP p ≤ 600)
    (hx : At4 w px 0 (.int .i64 p.op) (.int .i64 p.fld) (.slice vo p.vals.length vc) (.slice ko p.kids.length kc)) :
    Calls Tryd.prog 11 #[.func (.func walkF) #[] #[.pointer (some ⟨px, 0, none⟩)], .int .i64 stop] w (TdPost B (cutL stop (walkP 1 p)) w) := by
  refine (callsIn_wide (n := 0)).1 ?_
  refine callsIn_of_wp_marks Tryd.func11 rfl (by trivial) ?_ rfl
  simp only [Tryd.ntmps11, List.size_toArray, List.length_cons, List.length_nil, Nat.reduceAdd, Nat.reduceSub, Array.replicate_succ, Array.replicate_zero, List.push_toArray, List.append_toArray, List.nil_append, List.cons_append]
  obtain ⟨wR, hwR⟩ : ∃ W, W = ((w.alloc (.cells #[.int .i64 stop] 3)).alloc (.cells #[.slice none 0 0] 23)).alloc (.cells #[.slice none 0 0] 28) := ⟨_, rfl⟩
  have hbR : Below w.heap.size w wR := by rw [hwR]; exact (((Below.refl _ w).alloc (Nat.le_refl _) _).alloc (by simp <;> omega) _).alloc (by simp <;> omega) _
  have hszR : wR.heap.size = w.heap.size + 3 := by rw [hwR]; simp
  obtain ⟨p3, hp3⟩ : ∃ q, q = w.heap.size := ⟨_, rfl⟩
  obtain ⟨p6, hp6⟩ : ∃ q, q = w.heap.size + 1 := ⟨_, rfl⟩
  obtain ⟨p7, hp7⟩ : ∃ q, q = w.heap.size + 1 + 1 := ⟨_, rfl⟩
  have hb3 : BoxL wR p3 [.int .i64 stop] := by rw [hwR, hp3]; exact BoxL.of1 (by go_simp) (by go_simp)
  have hb6 : BoxL wR p6 [.slice none 0 0] := by rw [hwR, hp6]; exact BoxL.of1 (by go_simp) (by go_simp)
  have hb7 : BoxL wR p7 [.slice none 0 0] := by rw [hwR, hp7]; exact BoxL.of1 (by go_simp) (by go_simp)
  have hit := walk1_iter B p vo vc ko kc px w.heap.size wR (hP.low (Low.of_below hbR hBw)) (by omega) hBw (by omega) hpx (by omega) hsz (hx.kept hbR)
  obtain ⟨L, hL⟩ : ∃ L, L = walkP 1 p := ⟨_, rfl⟩
  rw [← hL] at hit ⊢
  obtain ⟨R, hR⟩ : ∃ R, R = cutL stop L := ⟨_, rfl⟩
  rw [← hR]
  have HR := Lib.hid hR
  clear hR
  have hLl : L.length ≤ 600 := by rw [hL]; exact Nat.le_trans (walkP_len p 1) hsz
  have HQ : p3 < p6 ∧ p6 < p7 ∧ p7 < wR.heap.size ∧ w.heap.size ≤ p3 := by omega
  have HW := Lib.hid hwR
  have H3 := Lib.hid hp3
  have H6 := Lib.hid hp6
  have H7 := Lib.hid hp7
  have hBR : B ≤ wR.heap.size := by omega
  clear hwR hp3 hp6 hp7 hP hx hpx hszR hL
  gi_wp2_with fail
  rw [← HW.out, ← H7.out, ← H6.out, ← H3.out]
  clear HW H3 H6 H7
  obtain ⟨q1, q2, q3, q4⟩ := HQ
  have hT1 : True := trivial
  refine wp_rangeW (gf := walkF) (lb := #[.pointer (some ⟨px, 0, none⟩)]) rfl enters_walk1 hit (fun W v x h => by obtain ⟨a, b, c, d, rfl, _⟩ := h; rfl) (by omega)
    (fun pre S W => TlI B wR.heap.size p3 p6 p7 stop w pre S W ∧ NoStop stop pre.length ∧ wR.heap.size ≤ W.heap.size)
    (fun c pre S W => c = .exit 0 ∧ TlI B wR.heap.size p3 p6 p7 stop w pre S W ∧ (pre.length : Int) = stop ∧ 0 < pre.length ∧ wR.heap.size ≤ W.heap.size)
    ?_ ?_ (fun k => (k = p6 ∨ k = p7) ∨ (Value.slice none 0 0).ownBlock = some k ∨ (Value.slice none 0 0).ownBlock = some k) ?_ ?_
    (fun x9 a' W => ∃ (b9 : Nat) (kvo : Option Addr) (kvc : Nat) (kko : Option Addr) (kkc : Nat), wR.heap.size ≤ b9 ∧ BoxL W b9 [.int .i64 x9.1.op, .int .i64 x9.1.fld, .slice kvo x9.1.vals.length kvc, .slice kko x9.1.kids.length kkc] ∧ PtIs B W x9.1 kvo kvc kko kkc ∧ (∀ v, W.cell? ⟨p6, 0, none⟩ = some v → v.ownBlock ≠ some b9) ∧ (∀ v, W.cell? ⟨p7, 0, none⟩ = some v → v.ownBlock ≠ some b9) ∧ a' = { tmps := #[.func (.func walkF) #[] #[.pointer (some ⟨px, 0, none⟩)], .int .i64 stop, undef, .pointer (some ⟨p3, 0, none⟩), .slice none 0 0, .slice none 0 0, .pointer (some ⟨p6, 0, none⟩), .pointer (some ⟨p7, 0, none⟩), .pointer (some ⟨b9, 0, none⟩), .int .i64 (x9.2 : Int), .func (.func walkF) #[] #[.pointer (some ⟨px, 0, none⟩)], .agg #[.int .i64 x9.1.op, .int .i64 x9.1.fld, .slice kvo x9.1.vals.length kvc, .slice kko x9.1.kids.length kkc], .int .i64 (x9.2 : Int), undef, undef, undef, undef, undef, undef, undef, undef, undef, undef, undef, undef, undef, undef], defers := [] })
    ?_ ?assign ?body ?done ?stop
  case assign =>
    rintro l8 pre x9 v S W K hi hnv hpre hK
    obtain ⟨kvo, kvc, kko, kkc, rfl, hX9⟩ := hnv
    gi_wp2
    obtain ⟨hI, hN, hsW⟩ := hi
    have hb : Below W.heap.size W (W.alloc (.cells #[.int .i64 x9.1.op, .int .i64 x9.1.fld, .slice kvo x9.1.vals.length kvc, .slice kko x9.1.kids.length kkc] 25)) := (Below.refl _ W).alloc (Nat.le_refl _) _
    have hBW : B ≤ W.heap.size := by omega
    refine hK _ _ hb ⟨hI.oth (D1 := wR.heap.size) (Oth.of_below hb) hBR (by omega) (by omega) hBW, hN, Nat.le_trans hsW hb.size⟩ ⟨W.heap.size, kvo, kvc, kko, kkc, hsW, BoxL.new W _ _, hX9.low (Low.of_below hb hBW), ?_, ?_, rfl⟩
    · obtain ⟨ao, an, ac, bo, bn, bc, xs, rfl, i3, i6, i7, iA, iP, iB, iW⟩ := hI
      intro v hv e
      rw [(i6.kept hb).cell 0 _ rfl] at hv
      cases hv
      have := (iA.lt _ e).2
      omega
    · obtain ⟨ao, an, ac, bo, bn, bc, xs, rfl, i3, i6, i7, iA, iP, iB, iW⟩ := hI
      intro v hv e
      rw [(i7.kept hb).cell 0 _ rfl] at hv
      cases hv
      have := (iB.lt _ e).2
      omega
  case body =>
    rintro l8 pre x9 a' S W ⟨hI, hN, hsW⟩ ⟨b9, kvo, kvc, kko, kkc, hq9, hB9, hX9, h96, h97, rfl⟩ hpre hS
    obtain ⟨ao, an, ac, bo, bn, bc, xs, rfl, i3, i6, i7, iA, iP, iB, iW⟩ := hI
    have hpl : pre.length + 1 ≤ 600 := by
      have := hpre.length_le
      rw [List.length_append] at this
      simp at this
      omega
    obtain ⟨ao1, cap1, hva, -, -, -⟩ := iA.slice
    obtain ⟨bo1, cap2, hvb, -, -, -⟩ := iB.slice
    have HA : Hid (an = pre.length) := Lib.hid (by cases hva; rfl)
    have HB : Hid (bn = pre.length) := Lib.hid (by cases hvb; rfl)
    have HNE := Lib.hid (OwnsK.ne_block iA iB (by decide))
    have HOA : Hid (∀ k, (Value.slice ao an ac).ownBlock = some k → wR.heap.size ≤ k ∧ k < W.heap.size) := Lib.hid iA.lt
    have HOB : Hid (∀ k, (Value.slice bo bn bc).ownBlock = some k → wR.heap.size ≤ k ∧ k < W.heap.size) := Lib.hid iB.lt
    have HIP := Lib.hid iP
    have HIW := Lib.hid iW
    have HX9 := Lib.hid hX9
    have HNS := Lib.hid hN
    clear hva hvb hpre hX9 hN iP iW
    have H9A := Lib.hid (h96 _ (i6.cell 0 _ rfl))
    have H9B := Lib.hid (h97 _ (i7.cell 0 _ rfl))
    have hb9l := hB9.lt
    clear h96 h97
    gi_wp2_with fail
    have hT2 : True := trivial
    refine wpIn_region_heldT2 (S := fun w' => BoxL w' p6 [.slice ao an ac] ∧ BoxL w' p7 [.slice bo bn bc] ∧ BoxL w' b9 [.int .i64 x9.1.op, .int .i64 x9.1.fld, .slice kvo x9.1.vals.length kvc, .slice kko x9.1.kids.length kkc]) (by kernel_rfl) (fun ⟨_, _, h⟩ => h) (by kernel_rfl) (by kernel_rfl) (by kernel_rfl) (by decide) ⟨i6.drew, i7.drew, hB9.drew⟩ (fun _ => ?_)
    have hb : Below W.heap.size W W.drew := (Below.refl _ _).drew
    generalize W.drew = wd at hb ⊢
    have HF : Hid (Keep (fun k => (k = p6 ∨ k = p7) ∨ (Value.slice ao an ac).ownBlock = some k ∨ (Value.slice bo bn bc).ownBlock = some k) W wd) := Lib.hid (Keep.of_below hb)
    replace i3 := i3.kept hb
    replace i6 := i6.kept hb
    replace i7 := i7.kept hb
    replace hB9 := hB9.kept hb
    replace iA := iA.kept hb
    replace iB := iB.kept hb
    replace HIP : Hid (RowP B wd (pre.map Prod.fst) xs) := Lib.hid (HIP.out.low (Low.of_below hb (by omega)))
    replace HX9 : Hid (PtIs B wd x9.1 kvo kvc kko kkc) := Lib.hid (HX9.out.low (Low.of_below hb (by omega)))
    replace hsW := Nat.le_trans hsW hb.size
    clear hb
    (refine wpAnyH_take (i := 0) (v := ?_) rfl (by kernel_rfl) (by kernel_rfl) (by kernel_rfl) (fun _ _ _ h => h) (Or.inl ⟨by rfl, ?_⟩) ⟨i6, i7, hB9⟩ ?_; rotate_left; (· intro w hSw; (try dsimp only at hSw); obtain ⟨hL6, hL7, hL9⟩ := hSw; have e6 := hL6.cell 0 _ rfl; have e7 := hL7.cell 0 _ rfl; have e90 := hL9.cell 0 _ rfl; have e91 := hL9.cell 1 _ rfl; have e92 := hL9.cell 2 _ rfl; have e93 := hL9.cell 3 _ rfl; clear hL6 hL7 hL9; go_simp; all_goals with_reducible rfl); (try simp only [List.getElem_toArray, List.getElem_cons_succ, List.getElem_cons_zero, Act.put, List.setIfInBounds_toArray, List.set_cons_zero, List.set_cons_succ]))
    (refine wpAnyH_take (i := 1) (v := ?_) rfl (by kernel_rfl) (by kernel_rfl) (by kernel_rfl) (fun _ _ _ h => h) (Or.inl ⟨by rfl, ?_⟩) ⟨i6, i7, hB9⟩ ?_; rotate_left; (· intro w hSw; (try dsimp only at hSw); obtain ⟨hL6, hL7, hL9⟩ := hSw; have e6 := hL6.cell 0 _ rfl; have e7 := hL7.cell 0 _ rfl; have e90 := hL9.cell 0 _ rfl; have e91 := hL9.cell 1 _ rfl; have e92 := hL9.cell 2 _ rfl; have e93 := hL9.cell 3 _ rfl; clear hL6 hL7 hL9; go_simp; all_goals with_reducible rfl); (try simp only [List.getElem_toArray, List.getElem_cons_succ, List.getElem_cons_zero, Act.put, List.setIfInBounds_toArray, List.set_cons_zero, List.set_cons_succ]))
    (refine wpAnyH_take (i := 4) (v := ?_) rfl (by kernel_rfl) (by kernel_rfl) (by kernel_rfl) (fun _ _ _ h => h) (Or.inl ⟨by rfl, ?_⟩) ⟨i6, i7, hB9⟩ ?_; rotate_left; (· intro w hSw; (try dsimp only at hSw); obtain ⟨hL6, hL7, hL9⟩ := hSw; have e6 := hL6.cell 0 _ rfl; have e7 := hL7.cell 0 _ rfl; have e90 := hL9.cell 0 _ rfl; have e91 := hL9.cell 1 _ rfl; have e92 := hL9.cell 2 _ rfl; have e93 := hL9.cell 3 _ rfl; clear hL6 hL7 hL9; go_simp; all_goals with_reducible rfl); (try simp only [List.getElem_toArray, List.getElem_cons_succ, List.getElem_cons_zero, Act.put, List.setIfInBounds_toArray, List.set_cons_zero, List.set_cons_succ]))
    (refine wpAnyH_take (i := 5) (v := ?_) rfl (by kernel_rfl) (by kernel_rfl) (by kernel_rfl) (fun _ _ _ h => h) (Or.inl ⟨by rfl, ?_⟩) ⟨i6, i7, hB9⟩ ?_; rotate_left; (· intro w hSw; (try dsimp only at hSw); obtain ⟨hL6, hL7, hL9⟩ := hSw; have e6 := hL6.cell 0 _ rfl; have e7 := hL7.cell 0 _ rfl; have e90 := hL9.cell 0 _ rfl; have e91 := hL9.cell 1 _ rfl; have e92 := hL9.cell 2 _ rfl; have e93 := hL9.cell 3 _ rfl; clear hL6 hL7 hL9; go_simp; all_goals with_reducible rfl); (try simp only [List.getElem_toArray, List.getElem_cons_succ, List.getElem_cons_zero, Act.put, List.setIfInBounds_toArray, List.set_cons_zero, List.set_cons_succ]))
    refine wpAnyH_ready (rs := [2, 6]) (by kernel_rfl) (by simp) (AllReadyH.cons rfl (fun K hK => ?_) (AllReadyH.cons rfl (fun K hK => ?_) AllReadyH.nil))
    · skip
      go_simp
      obtain ⟨wq1, hwE⟩ : ∃ W, W = wd.alloc (.cells #[.int .i64 x9.1.op, .int .i64 x9.1.fld, .slice kvo x9.1.vals.length kvc, .slice kko x9.1.kids.length kkc] 25) := ⟨_, rfl⟩
      have hb : Below wd.heap.size wd wq1 := by rw [hwE]; exact (Below.refl _ _).alloc (Nat.le_refl _) _
      obtain ⟨pnA, hpE⟩ : ∃ p, p = wd.heap.size := ⟨_, rfl⟩
      have hNA : BoxL wq1 pnA [.int .i64 x9.1.op, .int .i64 x9.1.fld, .slice kvo x9.1.vals.length kvc, .slice kko x9.1.kids.length kkc] := by rw [hwE, hpE]; exact BoxL.new wd _ _
      rw [← hwE, ← hpE]
      have hqA : W.heap.size ≤ pnA := by have := HF.out.size; omega
      clear hwE hpE
      replace i3 := i3.kept hb
      replace i6 := i6.kept hb
      replace i7 := i7.kept hb
      replace hB9 := hB9.kept hb
      replace iA := iA.kept hb
      replace iB := iB.kept hb
      replace HIP : Hid (RowP B _ (pre.map Prod.fst) xs) := Lib.hid (HIP.out.low (Low.of_below hb (by omega)))
      replace HX9 : Hid (PtIs B _ x9.1 kvo kvc kko kkc) := Lib.hid (HX9.out.low (Low.of_below hb (by omega)))
      replace HF : Hid (Keep (fun k => (k = p6 ∨ k = p7) ∨ (Value.slice ao an ac).ownBlock = some k ∨ (Value.slice bo bn bc).ownBlock = some k) W _) := Lib.hid (HF.out.then_below hb)
      replace hsW := Nat.le_trans hsW hb.size
      clear hb
      first | refine hK.out _ _ ⟨i6, i7, hB9⟩ (fun _ => ?_) | (go_wp2_with fail; refine hK.out _ _ ⟨i6, i7, hB9⟩ (fun _ => ?_))
      clear hK K
      (try simp only [List.getElem_toArray, List.getElem_cons_succ, List.getElem_cons_zero, Act.put, List.setIfInBounds_toArray, List.set_cons_zero, List.set_cons_succ])
      refine wpAnyH_ready (rs := [3, 6]) (by kernel_rfl) (by simp) (AllReadyH.cons rfl (fun K hK => ?_) (AllReadyH.cons rfl (fun K hK => ?_) AllReadyH.nil))
      · skip
        rw [if_pos (by rfl)]
        refine step_appendKs (us := [.int .i64 x9.1.op, .int .i64 x9.1.fld, .slice kvo x9.1.vals.length kvc, .slice kko x9.1.kids.length kkc]) E_pred iA rfl rfl rfl rfl (fun j u hj => by rw [Addr.add_lit, Nat.zero_add]; exact hNA.cell j u hj) (by simp [Value.oneCell']) (by omega) (by unfold maxLen; omega) hsW ?_
        intro vA wq2 hOA hgA hnA
        obtain ⟨Ao9, Ac9, rfl, -, -, -⟩ := hOA.slice
        have HSA : Hid (W.heap.size ≤ wq1.heap.size) := Lib.hid HF.out.size
        replace i3 := i3.block (hgA.block p3 i3.lt (fun e9 => by have := HOA.out p3 e9.symm; omega))
        replace i6 := i6.block (hgA.block p6 i6.lt (fun e9 => by have := HOA.out p6 e9.symm; omega))
        replace i7 := i7.block (hgA.block p7 i7.lt (fun e9 => by have := HOA.out p7 e9.symm; omega))
        replace hB9 := hB9.block (hgA.block b9 hB9.lt (fun e9 => H9A.out e9.symm))
        have hlow9 : Low B wq1 wq2 := fun k hk => hgA.block k (by omega) (fun e9 => by have := HOA.out k e9.symm; omega)
        replace HIP : Hid (RowP B wq2 (pre.map Prod.fst) xs) := Lib.hid (HIP.out.low hlow9)
        replace HX9 : Hid (PtIs B wq2 x9.1 kvo kvc kko kkc) := Lib.hid (HX9.out.low hlow9)
        replace HF : Hid (Keep (fun k => (k = p6 ∨ k = p7) ∨ (Value.slice ao an ac).ownBlock = some k ∨ (Value.slice bo bn bc).ownBlock = some k) W wq2) := Lib.hid ⟨hgA.os.trans HF.out.os, hgA.tape.trans HF.out.tape, hgA.output.trans HF.out.output, Nat.le_trans HF.out.size hgA.size, fun k hk hs => (hgA.block k (Nat.lt_of_lt_of_le hk HF.out.size) (fun e9 => hs (.inr (.inl e9.symm)))).trans (HF.out.same k hk hs)⟩
        replace iB := iB.block (fun k hk => hgA.block k (iB.lt k hk).2 (fun e9 => HNE.out k e9.symm hk))
        replace hsW := Nat.le_trans hsW hgA.size
        have HNA := Lib.hid hnA
        clear hlow9 hgA hnA iA
        first | refine hK.out _ _ ⟨i6, i7, hB9⟩ (fun _ => ?_) | (go_wp2_with fail; refine hK.out _ _ ⟨i6, i7, hB9⟩ (fun _ => ?_))
        clear hK K
        (try simp only [List.getElem_toArray, List.getElem_cons_succ, List.getElem_cons_zero, Act.put, List.setIfInBounds_toArray, List.set_cons_zero, List.set_cons_succ])
        refine wpAnyH_ready (rs := [6]) (by kernel_rfl) (by simp) (AllReadyH.cons rfl (fun K hK => ?_) AllReadyH.nil)
        go_simp
        obtain ⟨wq3, hwE⟩ : ∃ W, W = wq2.alloc (.cells #[.int .i64 (x9.2 : Int)] 3) := ⟨_, rfl⟩
        have hb : Below wq2.heap.size wq2 wq3 := by rw [hwE]; exact (Below.refl _ _).alloc (Nat.le_refl _) _
        obtain ⟨pnB, hpE⟩ : ∃ p, p = wq2.heap.size := ⟨_, rfl⟩
        have hNB : BoxL wq3 pnB [.int .i64 (x9.2 : Int)] := by rw [hwE, hpE]; exact BoxL.new wq2 _ _
        rw [← hwE, ← hpE]
        have hqB : W.heap.size ≤ pnB := by have := HF.out.size; omega
        clear hwE hpE
        replace i3 := i3.kept hb
        replace i6 := i6.kept hb
        replace i7 := i7.kept hb
        replace hB9 := hB9.kept hb
        replace hOA := hOA.kept hb
        replace iB := iB.kept hb
        replace HIP : Hid (RowP B _ (pre.map Prod.fst) xs) := Lib.hid (HIP.out.low (Low.of_below hb (by omega)))
        replace HX9 : Hid (PtIs B _ x9.1 kvo kvc kko kkc) := Lib.hid (HX9.out.low (Low.of_below hb (by omega)))
        replace HF : Hid (Keep (fun k => (k = p6 ∨ k = p7) ∨ (Value.slice ao an ac).ownBlock = some k ∨ (Value.slice bo bn bc).ownBlock = some k) W _) := Lib.hid (HF.out.then_below hb)
        replace hsW := Nat.le_trans hsW hb.size
        clear hb
        first | refine hK.out _ _ ⟨i6, i7, hB9⟩ (fun _ => ?_) | (go_wp2_with fail; refine hK.out _ _ ⟨i6, i7, hB9⟩ (fun _ => ?_))
        clear hK K
        (try simp only [List.getElem_toArray, List.getElem_cons_succ, List.getElem_cons_zero, Act.put, List.setIfInBounds_toArray, List.set_cons_zero, List.set_cons_succ])
        refine wpAnyH_ready (rs := [7]) (by kernel_rfl) (by simp) (AllReadyH.cons rfl (fun K hK => ?_) AllReadyH.nil)
        rw [if_pos (by rfl)]
        refine step_appendKs (us := [.int .i64 (x9.2 : Int)]) E_intK iB rfl rfl rfl rfl (fun j u hj => by rw [Addr.add_lit, Nat.zero_add]; exact hNB.cell j u hj) (by simp [Value.oneCell']) (by omega) (by unfold maxLen; omega) hsW ?_
        intro vB wq4 hOB hgB hnB
        obtain ⟨Bo9, Bc9, rfl, -, -, -⟩ := hOB.slice
        have HSB : Hid (W.heap.size ≤ wq3.heap.size) := Lib.hid HF.out.size
        replace i3 := i3.block (hgB.block p3 i3.lt (fun e9 => by have := HOB.out p3 e9.symm; omega))
        replace i6 := i6.block (hgB.block p6 i6.lt (fun e9 => by have := HOB.out p6 e9.symm; omega))
        replace i7 := i7.block (hgB.block p7 i7.lt (fun e9 => by have := HOB.out p7 e9.symm; omega))
        replace hB9 := hB9.block (hgB.block b9 hB9.lt (fun e9 => H9B.out e9.symm))
        have hlow9 : Low B wq3 wq4 := fun k hk => hgB.block k (by omega) (fun e9 => by have := HOB.out k e9.symm; omega)
        replace HIP : Hid (RowP B wq4 (pre.map Prod.fst) xs) := Lib.hid (HIP.out.low hlow9)
        replace HX9 : Hid (PtIs B wq4 x9.1 kvo kvc kko kkc) := Lib.hid (HX9.out.low hlow9)
        replace HF : Hid (Keep (fun k => (k = p6 ∨ k = p7) ∨ (Value.slice ao an ac).ownBlock = some k ∨ (Value.slice bo bn bc).ownBlock = some k) W wq4) := Lib.hid ⟨hgB.os.trans HF.out.os, hgB.tape.trans HF.out.tape, hgB.output.trans HF.out.output, Nat.le_trans HF.out.size hgB.size, fun k hk hs => (hgB.block k (Nat.lt_of_lt_of_le hk HF.out.size) (fun e9 => hs (.inr (.inr e9.symm)))).trans (HF.out.same k hk hs)⟩
        have HNE2 := OwnsK.ne_block hOA iB (by decide)
        replace hOA := hOA.block (fun k hk => hgB.block k (hOA.lt k hk).2 (fun e9 => HNE2 k hk e9.symm))
        replace hsW := Nat.le_trans hsW hgB.size
        have HNB := Lib.hid hnB
        clear hlow9 hgB hnB iB HNE2
        first | refine hK.out _ _ ⟨i6, i7, hB9⟩ (fun _ => ?_) | (go_wp2_with fail; refine hK.out _ _ ⟨i6, i7, hB9⟩ (fun _ => ?_))
        clear hK K
        (try simp only [List.getElem_toArray, List.getElem_cons_succ, List.getElem_cons_zero, Act.put, List.setIfInBounds_toArray, List.set_cons_zero, List.set_cons_succ])
        refine wpAnyH_done (by kernel_rfl) ?_ _
        refine tail_end rfl rfl ?_
        have e6 := i6.cell 0 _ rfl
        have f6 := i6.free 0 (by simp)
        go_simp
        clear e6 f6
        obtain ⟨wS, hwE⟩ : ∃ W, W = wq4.setCell ⟨p6, 0, none⟩ (.slice Ao9 (pre.length + 1) Ac9) := ⟨_, rfl⟩
        have hKS : Keep (fun k => k = p6) wq4 wS := by rw [hwE]; exact (Keep.refl _ _).set p6 0 _ (.inl rfl)
        replace i6 : BoxL wS p6 [.slice Ao9 (pre.length + 1) Ac9] := by rw [hwE]; exact i6.set 0 _ (by simp)
        rw [← hwE]
        clear hwE
        replace i3 := i3.keep hKS (by omega)
        replace i7 := i7.keep hKS (by omega)
        have hOAl : ∀ k, (Value.slice Ao9 (pre.length + 1) Ac9).ownBlock = some k → p7 < k := fun k hk => by have := (hOA.lt k hk).1; omega
        have hOBl : ∀ k, (Value.slice Bo9 (pre.length + 1) Bc9).ownBlock = some k → p7 < k := fun k hk => by have := (hOB.lt k hk).1; omega
        replace hOA := hOA.keep hKS (fun k hk e => by have := hOAl k hk; omega)
        replace hOB := hOB.keep hKS (fun k hk e => by have := hOBl k hk; omega)
        replace HF : Hid (Keep (fun k => (k = p6 ∨ k = p7) ∨ (Value.slice ao an ac).ownBlock = some k ∨ (Value.slice bo bn bc).ownBlock = some k) W wS) := Lib.hid (HF.out.trans hKS (fun k _ e => .inl (.inl e)))
        have hlS : Low B wq4 wS := fun k hk => hKS.same k (by omega) (by omega)
        refine tail_end rfl rfl ?_
        have e7 := i7.cell 0 _ rfl
        have f7 := i7.free 0 (by simp)
        go_simp
        clear e7 f7
        obtain ⟨wT, hwE⟩ : ∃ W, W = wS.setCell ⟨p7, 0, none⟩ (.slice Bo9 (pre.length + 1) Bc9) := ⟨_, rfl⟩
        have hKT : Keep (fun k => k = p7) wS wT := by rw [hwE]; exact (Keep.refl _ _).set p7 0 _ (.inl rfl)
        replace i7 : BoxL wT p7 [.slice Bo9 (pre.length + 1) Bc9] := by rw [hwE]; exact i7.set 0 _ (by simp)
        rw [← hwE]
        clear hwE
        replace i3 := i3.keep hKT (by omega)
        replace i6 := i6.keep hKT (by omega)
        replace hOA := hOA.keep hKT (fun k hk e => by have := hOAl k hk; omega)
        replace hOB := hOB.keep hKT (fun k hk e => by have := hOBl k hk; omega)
        replace HF : Hid (Keep (fun k => (k = p6 ∨ k = p7) ∨ (Value.slice ao an ac).ownBlock = some k ∨ (Value.slice bo bn bc).ownBlock = some k) W wT) := Lib.hid (HF.out.trans hKT (fun k _ e => .inl (.inr e)))
        have hsT : wR.heap.size ≤ wT.heap.size := by have := hKS.size; have := hKT.size; omega
        have hlT : Low B wq4 wT := hlS.trans (fun k hk => hKT.same k (by have := hKS.size; omega) (by omega))
        have hRow : RowP B wT ((pre ++ [x9]).map Prod.fst) (xs ++ [.int .i64 x9.1.op, .int .i64 x9.1.fld, .slice kvo x9.1.vals.length kvc, .slice kko x9.1.kids.length kkc]) := by rw [List.map_append]; exact RowP.app (RowP.single (HX9.out.low hlT)) (HIP.out.low hlT)
        have hDc : dcel pre ++ [.int .i64 (x9.2 : Int)] = dcel (pre ++ [x9]) := by unfold dcel; rw [List.map_append]; rfl
        rw [hDc] at hOB
        have hl1 : (pre ++ [x9]).length = pre.length + 1 := by simp
        have hWT : Below w.heap.size w wT := HIW.out.trans (HF.out.below (fun k hk => by rcases hk with (hk | hk) | hk | hk; omega; omega; (have := HOA.out k hk; omega); (have := HOB.out k hk; omega)) (by have := HIW.out.size; omega))
        have hTl : TlI B wR.heap.size p3 p6 p7 stop w (pre ++ [x9]) (fun k => (k = p6 ∨ k = p7) ∨ (Value.slice Ao9 (pre.length + 1) Ac9).ownBlock = some k ∨ (Value.slice Bo9 (pre.length + 1) Bc9).ownBlock = some k) wT := TlI.mk rfl i3 i6 i7 (by rw [hl1]; exact hOA) hRow (by rw [hl1]; exact hOB) hWT
        have hFt : Foot (fun k => (k = p6 ∨ k = p7) ∨ (Value.slice ao an ac).ownBlock = some k ∨ (Value.slice bo bn bc).ownBlock = some k) (fun k => (k = p6 ∨ k = p7) ∨ (Value.slice Ao9 (pre.length + 1) Ac9).ownBlock = some k ∨ (Value.slice Bo9 (pre.length + 1) Bc9).ownBlock = some k) W wT := ⟨HF.out.os, HF.out.tape, HF.out.output, HF.out.size, HF.out.same, fun k hk => by
          rcases hk with hk | hk | hk
          · exact .inl (.inl hk)
          · rcases HNA.out k hk with h | h
            · exact .inl (.inr (.inl h))
            · exact .inr (Nat.le_trans HSA.out h)
          · rcases HNB.out k hk with h | h
            · exact .inl (.inr (.inr h))
            · exact .inr (Nat.le_trans HSB.out h)⟩
        have hTop : Top (fun k => (k = p6 ∨ k = p7) ∨ (Value.slice Ao9 (pre.length + 1) Ac9).ownBlock = some k ∨ (Value.slice Bo9 (pre.length + 1) Bc9).ownBlock = some k) wT := fun k hk => by
          rcases hk with (hk | hk) | hk | hk
          · omega
          · omega
          · exact (hOA.lt k hk).2
          · exact (hOB.lt k hk).2
        have HTL := Lib.hid hTl
        have HFT := Lib.hid hFt
        have HTP := Lib.hid hTop
        have HL1 := Lib.hid hl1
        have HST := Lib.hid hsT
        have e6 := i6.cell 0 _ rfl
        have e3 := i3.cell 0 _ rfl
        clear hTl hFt hTop hRow hOA hOB hlS hlT hKS hKT hDc hl1 hWT
        by_cases hst : ((pre.length + 1 : Nat) : Int) = stop
        · have hsb : (((pre.length : Nat) : Int) + 1 == stop) = true := by rw [beq_iff_eq]; omega
          have HSS := Lib.hid hst
          clear hst
          gi_wp2_with fail
          exact ⟨_, ⟨rfl, HTL.out, by rw [HL1.out]; exact HSS.out, by rw [HL1.out]; omega, HST.out⟩, HFT.out⟩
        · have hsb : (((pre.length : Nat) : Int) + 1 == stop) = false := by rw [beq_eq_false_iff_ne]; omega
          have HSS := Lib.hid hst
          clear hst
          gi_wp2_with fail
          exact ⟨_, ⟨HTL.out, by rw [HL1.out]; exact HNS.out.succ HSS.out, HST.out⟩, HFT.out, HTP.out⟩
      · skip
        go_simp
        obtain ⟨wq2, hwE⟩ : ∃ W, W = wq1.alloc (.cells #[.int .i64 (x9.2 : Int)] 3) := ⟨_, rfl⟩
        have hb : Below wq1.heap.size wq1 wq2 := by rw [hwE]; exact (Below.refl _ _).alloc (Nat.le_refl _) _
        obtain ⟨pnB, hpE⟩ : ∃ p, p = wq1.heap.size := ⟨_, rfl⟩
        have hNB : BoxL wq2 pnB [.int .i64 (x9.2 : Int)] := by rw [hwE, hpE]; exact BoxL.new wq1 _ _
        rw [← hwE, ← hpE]
        have hqB : W.heap.size ≤ pnB := by have := HF.out.size; omega
        clear hwE hpE
        replace i3 := i3.kept hb
        replace i6 := i6.kept hb
        replace i7 := i7.kept hb
        replace hB9 := hB9.kept hb
        replace iA := iA.kept hb
        replace iB := iB.kept hb
        replace HIP : Hid (RowP B _ (pre.map Prod.fst) xs) := Lib.hid (HIP.out.low (Low.of_below hb (by omega)))
        replace HX9 : Hid (PtIs B _ x9.1 kvo kvc kko kkc) := Lib.hid (HX9.out.low (Low.of_below hb (by omega)))
        replace HF : Hid (Keep (fun k => (k = p6 ∨ k = p7) ∨ (Value.slice ao an ac).ownBlock = some k ∨ (Value.slice bo bn bc).ownBlock = some k) W _) := Lib.hid (HF.out.then_below hb)
        replace hsW := Nat.le_trans hsW hb.size
        replace hNA := hNA.kept hb
        clear hb
        first | refine hK.out _ _ ⟨i6, i7, hB9⟩ (fun _ => ?_) | (go_wp2_with fail; refine hK.out _ _ ⟨i6, i7, hB9⟩ (fun _ => ?_))
        clear hK K
        (try simp only [List.getElem_toArray, List.getElem_cons_succ, List.getElem_cons_zero, Act.put, List.setIfInBounds_toArray, List.set_cons_zero, List.set_cons_succ])
        refine wpAnyH_ready (rs := [3]) (by kernel_rfl) (by simp) (AllReadyH.cons rfl (fun K hK => ?_) AllReadyH.nil)
        rw [if_pos (by rfl)]
        refine step_appendKs (us := [.int .i64 x9.1.op, .int .i64 x9.1.fld, .slice kvo x9.1.vals.length kvc, .slice kko x9.1.kids.length kkc]) E_pred iA rfl rfl rfl rfl (fun j u hj => by rw [Addr.add_lit, Nat.zero_add]; exact hNA.cell j u hj) (by simp [Value.oneCell']) (by omega) (by unfold maxLen; omega) hsW ?_
        intro vA wq3 hOA hgA hnA
        obtain ⟨Ao9, Ac9, rfl, -, -, -⟩ := hOA.slice
        have HSA : Hid (W.heap.size ≤ wq2.heap.size) := Lib.hid HF.out.size
        replace i3 := i3.block (hgA.block p3 i3.lt (fun e9 => by have := HOA.out p3 e9.symm; omega))
        replace i6 := i6.block (hgA.block p6 i6.lt (fun e9 => by have := HOA.out p6 e9.symm; omega))
        replace i7 := i7.block (hgA.block p7 i7.lt (fun e9 => by have := HOA.out p7 e9.symm; omega))
        replace hB9 := hB9.block (hgA.block b9 hB9.lt (fun e9 => H9A.out e9.symm))
        have hlow9 : Low B wq2 wq3 := fun k hk => hgA.block k (by omega) (fun e9 => by have := HOA.out k e9.symm; omega)
        replace HIP : Hid (RowP B wq3 (pre.map Prod.fst) xs) := Lib.hid (HIP.out.low hlow9)
        replace HX9 : Hid (PtIs B wq3 x9.1 kvo kvc kko kkc) := Lib.hid (HX9.out.low hlow9)
        replace HF : Hid (Keep (fun k => (k = p6 ∨ k = p7) ∨ (Value.slice ao an ac).ownBlock = some k ∨ (Value.slice bo bn bc).ownBlock = some k) W wq3) := Lib.hid ⟨hgA.os.trans HF.out.os, hgA.tape.trans HF.out.tape, hgA.output.trans HF.out.output, Nat.le_trans HF.out.size hgA.size, fun k hk hs => (hgA.block k (Nat.lt_of_lt_of_le hk HF.out.size) (fun e9 => hs (.inr (.inl e9.symm)))).trans (HF.out.same k hk hs)⟩
        replace iB := iB.block (fun k hk => hgA.block k (iB.lt k hk).2 (fun e9 => HNE.out k e9.symm hk))
        replace hNB := hNB.block (hgA.block pnB hNB.lt (fun e9 => by have := HOA.out pnB e9.symm; omega))
        replace hsW := Nat.le_trans hsW hgA.size
        have HNA := Lib.hid hnA
        clear hlow9 hgA hnA iA
        first | refine hK.out _ _ ⟨i6, i7, hB9⟩ (fun _ => ?_) | (go_wp2_with fail; refine hK.out _ _ ⟨i6, i7, hB9⟩ (fun _ => ?_))
        clear hK K
        (try simp only [List.getElem_toArray, List.getElem_cons_succ, List.getElem_cons_zero, Act.put, List.setIfInBounds_toArray, List.set_cons_zero, List.set_cons_succ])
        refine wpAnyH_ready (rs := [7]) (by kernel_rfl) (by simp) (AllReadyH.cons rfl (fun K hK => ?_) AllReadyH.nil)
        rw [if_pos (by rfl)]
        refine step_appendKs (us := [.int .i64 (x9.2 : Int)]) E_intK iB rfl rfl rfl rfl (fun j u hj => by rw [Addr.add_lit, Nat.zero_add]; exact hNB.cell j u hj) (by simp [Value.oneCell']) (by omega) (by unfold maxLen; omega) hsW ?_
        intro vB wq4 hOB hgB hnB
        obtain ⟨Bo9, Bc9, rfl, -, -, -⟩ := hOB.slice
        have HSB : Hid (W.heap.size ≤ wq3.heap.size) := Lib.hid HF.out.size
        replace i3 := i3.block (hgB.block p3 i3.lt (fun e9 => by have := HOB.out p3 e9.symm; omega))
        replace i6 := i6.block (hgB.block p6 i6.lt (fun e9 => by have := HOB.out p6 e9.symm; omega))
        replace i7 := i7.block (hgB.block p7 i7.lt (fun e9 => by have := HOB.out p7 e9.symm; omega))
        replace hB9 := hB9.block (hgB.block b9 hB9.lt (fun e9 => H9B.out e9.symm))
        have hlow9 : Low B wq3 wq4 := fun k hk => hgB.block k (by omega) (fun e9 => by have := HOB.out k e9.symm; omega)
        replace HIP : Hid (RowP B wq4 (pre.map Prod.fst) xs) := Lib.hid (HIP.out.low hlow9)
        replace HX9 : Hid (PtIs B wq4 x9.1 kvo kvc kko kkc) := Lib.hid (HX9.out.low hlow9)
        replace HF : Hid (Keep (fun k => (k = p6 ∨ k = p7) ∨ (Value.slice ao an ac).ownBlock = some k ∨ (Value.slice bo bn bc).ownBlock = some k) W wq4) := Lib.hid ⟨hgB.os.trans HF.out.os, hgB.tape.trans HF.out.tape, hgB.output.trans HF.out.output, Nat.le_trans HF.out.size hgB.size, fun k hk hs => (hgB.block k (Nat.lt_of_lt_of_le hk HF.out.size) (fun e9 => hs (.inr (.inr e9.symm)))).trans (HF.out.same k hk hs)⟩
        have HNE2 := OwnsK.ne_block hOA iB (by decide)
        replace hOA := hOA.block (fun k hk => hgB.block k (hOA.lt k hk).2 (fun e9 => HNE2 k hk e9.symm))
        replace hsW := Nat.le_trans hsW hgB.size
        have HNB := Lib.hid hnB
        clear hlow9 hgB hnB iB HNE2
        first | refine hK.out _ _ ⟨i6, i7, hB9⟩ (fun _ => ?_) | (go_wp2_with fail; refine hK.out _ _ ⟨i6, i7, hB9⟩ (fun _ => ?_))
        clear hK K
        (try simp only [List.getElem_toArray, List.getElem_cons_succ, List.getElem_cons_zero, Act.put, List.setIfInBounds_toArray, List.set_cons_zero, List.set_cons_succ])
        refine wpAnyH_done (by kernel_rfl) ?_ _
        refine tail_end rfl rfl ?_
        have e6 := i6.cell 0 _ rfl
        have f6 := i6.free 0 (by simp)
        go_simp
        clear e6 f6
        obtain ⟨wS, hwE⟩ : ∃ W, W = wq4.setCell ⟨p6, 0, none⟩ (.slice Ao9 (pre.length + 1) Ac9) := ⟨_, rfl⟩
        have hKS : Keep (fun k => k = p6) wq4 wS := by rw [hwE]; exact (Keep.refl _ _).set p6 0 _ (.inl rfl)
        replace i6 : BoxL wS p6 [.slice Ao9 (pre.length + 1) Ac9] := by rw [hwE]; exact i6.set 0 _ (by simp)
        rw [← hwE]
        clear hwE
        replace i3 := i3.keep hKS (by omega)
        replace i7 := i7.keep hKS (by omega)
        have hOAl : ∀ k, (Value.slice Ao9 (pre.length + 1) Ac9).ownBlock = some k → p7 < k := fun k hk => by have := (hOA.lt k hk).1; omega
        have hOBl : ∀ k, (Value.slice Bo9 (pre.length + 1) Bc9).ownBlock = some k → p7 < k := fun k hk => by have := (hOB.lt k hk).1; omega
        replace hOA := hOA.keep hKS (fun k hk e => by have := hOAl k hk; omega)
        replace hOB := hOB.keep hKS (fun k hk e => by have := hOBl k hk; omega)
        replace HF : Hid (Keep (fun k => (k = p6 ∨ k = p7) ∨ (Value.slice ao an ac).ownBlock = some k ∨ (Value.slice bo bn bc).ownBlock = some k) W wS) := Lib.hid (HF.out.trans hKS (fun k _ e => .inl (.inl e)))
        have hlS : Low B wq4 wS := fun k hk => hKS.same k (by omega) (by omega)
        refine tail_end rfl rfl ?_
        have e7 := i7.cell 0 _ rfl
        have f7 := i7.free 0 (by simp)
        go_simp
        clear e7 f7
        obtain ⟨wT, hwE⟩ : ∃ W, W = wS.setCell ⟨p7, 0, none⟩ (.slice Bo9 (pre.length + 1) Bc9) := ⟨_, rfl⟩
        have hKT : Keep (fun k => k = p7) wS wT := by rw [hwE]; exact (Keep.refl _ _).set p7 0 _ (.inl rfl)
        replace i7 : BoxL wT p7 [.slice Bo9 (pre.length + 1) Bc9] := by rw [hwE]; exact i7.set 0 _ (by simp)
        rw [← hwE]
        clear hwE
        replace i3 := i3.keep hKT (by omega)
        replace i6 := i6.keep hKT (by omega)
        replace hOA := hOA.keep hKT (fun k hk e => by have := hOAl k hk; omega)
        replace hOB := hOB.keep hKT (fun k hk e => by have := hOBl k hk; omega)
        replace HF : Hid (Keep (fun k => (k = p6 ∨ k = p7) ∨ (Value.slice ao an ac).ownBlock = some k ∨ (Value.slice bo bn bc).ownBlock = some k) W wT) := Lib.hid (HF.out.trans hKT (fun k _ e => .inl (.inr e)))
        have hsT : wR.heap.size ≤ wT.heap.size := by have := hKS.size; have := hKT.size; omega
        have hlT : Low B wq4 wT := hlS.trans (fun k hk => hKT.same k (by have := hKS.size; omega) (by omega))
        have hRow : RowP B wT ((pre ++ [x9]).map Prod.fst) (xs ++ [.int .i64 x9.1.op, .int .i64 x9.1.fld, .slice kvo x9.1.vals.length kvc, .slice kko x9.1.kids.length kkc]) := by rw [List.map_append]; exact RowP.app (RowP.single (HX9.out.low hlT)) (HIP.out.low hlT)
        have hDc : dcel pre ++ [.int .i64 (x9.2 : Int)] = dcel (pre ++ [x9]) := by unfold dcel; rw [List.map_append]; rfl
        rw [hDc] at hOB
        have hl1 : (pre ++ [x9]).length = pre.length + 1 := by simp
        have hWT : Below w.heap.size w wT := HIW.out.trans (HF.out.below (fun k hk => by rcases hk with (hk | hk) | hk | hk; omega; omega; (have := HOA.out k hk; omega); (have := HOB.out k hk; omega)) (by have := HIW.out.size; omega))
        have hTl : TlI B wR.heap.size p3 p6 p7 stop w (pre ++ [x9]) (fun k => (k = p6 ∨ k = p7) ∨ (Value.slice Ao9 (pre.length + 1) Ac9).ownBlock = some k ∨ (Value.slice Bo9 (pre.length + 1) Bc9).ownBlock = some k) wT := TlI.mk rfl i3 i6 i7 (by rw [hl1]; exact hOA) hRow (by rw [hl1]; exact hOB) hWT
        have hFt : Foot (fun k => (k = p6 ∨ k = p7) ∨ (Value.slice ao an ac).ownBlock = some k ∨ (Value.slice bo bn bc).ownBlock = some k) (fun k => (k = p6 ∨ k = p7) ∨ (Value.slice Ao9 (pre.length + 1) Ac9).ownBlock = some k ∨ (Value.slice Bo9 (pre.length + 1) Bc9).ownBlock = some k) W wT := ⟨HF.out.os, HF.out.tape, HF.out.output, HF.out.size, HF.out.same, fun k hk => by
          rcases hk with hk | hk | hk
          · exact .inl (.inl hk)
          · rcases HNA.out k hk with h | h
            · exact .inl (.inr (.inl h))
            · exact .inr (Nat.le_trans HSA.out h)
          · rcases HNB.out k hk with h | h
            · exact .inl (.inr (.inr h))
            · exact .inr (Nat.le_trans HSB.out h)⟩
        have hTop : Top (fun k => (k = p6 ∨ k = p7) ∨ (Value.slice Ao9 (pre.length + 1) Ac9).ownBlock = some k ∨ (Value.slice Bo9 (pre.length + 1) Bc9).ownBlock = some k) wT := fun k hk => by
          rcases hk with (hk | hk) | hk | hk
          · omega
          · omega
          · exact (hOA.lt k hk).2
          · exact (hOB.lt k hk).2
        have HTL := Lib.hid hTl
        have HFT := Lib.hid hFt
        have HTP := Lib.hid hTop
        have HL1 := Lib.hid hl1
        have HST := Lib.hid hsT
        have e6 := i6.cell 0 _ rfl
        have e3 := i3.cell 0 _ rfl
        clear hTl hFt hTop hRow hOA hOB hlS hlT hKS hKT hDc hl1 hWT
        by_cases hst : ((pre.length + 1 : Nat) : Int) = stop
        · have hsb : (((pre.length : Nat) : Int) + 1 == stop) = true := by rw [beq_iff_eq]; omega
          have HSS := Lib.hid hst
          clear hst
          gi_wp2_with fail
          exact ⟨_, ⟨rfl, HTL.out, by rw [HL1.out]; exact HSS.out, by rw [HL1.out]; omega, HST.out⟩, HFT.out⟩
        · have hsb : (((pre.length : Nat) : Int) + 1 == stop) = false := by rw [beq_eq_false_iff_ne]; omega
          have HSS := Lib.hid hst
          clear hst
          gi_wp2_with fail
          exact ⟨_, ⟨HTL.out, by rw [HL1.out]; exact HNS.out.succ HSS.out, HST.out⟩, HFT.out, HTP.out⟩
    · skip
      go_simp
      obtain ⟨wq1, hwE⟩ : ∃ W, W = wd.alloc (.cells #[.int .i64 (x9.2 : Int)] 3) := ⟨_, rfl⟩
      have hb : Below wd.heap.size wd wq1 := by rw [hwE]; exact (Below.refl _ _).alloc (Nat.le_refl _) _
      obtain ⟨pnB, hpE⟩ : ∃ p, p = wd.heap.size := ⟨_, rfl⟩
      have hNB : BoxL wq1 pnB [.int .i64 (x9.2 : Int)] := by rw [hwE, hpE]; exact BoxL.new wd _ _
      rw [← hwE, ← hpE]
      have hqB : W.heap.size ≤ pnB := by have := HF.out.size; omega
      clear hwE hpE
      replace i3 := i3.kept hb
      replace i6 := i6.kept hb
      replace i7 := i7.kept hb
      replace hB9 := hB9.kept hb
      replace iA := iA.kept hb
      replace iB := iB.kept hb
      replace HIP : Hid (RowP B _ (pre.map Prod.fst) xs) := Lib.hid (HIP.out.low (Low.of_below hb (by omega)))
      replace HX9 : Hid (PtIs B _ x9.1 kvo kvc kko kkc) := Lib.hid (HX9.out.low (Low.of_below hb (by omega)))
      replace HF : Hid (Keep (fun k => (k = p6 ∨ k = p7) ∨ (Value.slice ao an ac).ownBlock = some k ∨ (Value.slice bo bn bc).ownBlock = some k) W _) := Lib.hid (HF.out.then_below hb)
      replace hsW := Nat.le_trans hsW hb.size
      clear hb
      first | refine hK.out _ _ ⟨i6, i7, hB9⟩ (fun _ => ?_) | (go_wp2_with fail; refine hK.out _ _ ⟨i6, i7, hB9⟩ (fun _ => ?_))
      clear hK K
      (try simp only [List.getElem_toArray, List.getElem_cons_succ, List.getElem_cons_zero, Act.put, List.setIfInBounds_toArray, List.set_cons_zero, List.set_cons_succ])
      refine wpAnyH_ready (rs := [2]) (by kernel_rfl) (by simp) (AllReadyH.cons rfl (fun K hK => ?_) AllReadyH.nil)
      go_simp
      obtain ⟨wq2, hwE⟩ : ∃ W, W = wq1.alloc (.cells #[.int .i64 x9.1.op, .int .i64 x9.1.fld, .slice kvo x9.1.vals.length kvc, .slice kko x9.1.kids.length kkc] 25) := ⟨_, rfl⟩
      have hb : Below wq1.heap.size wq1 wq2 := by rw [hwE]; exact (Below.refl _ _).alloc (Nat.le_refl _) _
      obtain ⟨pnA, hpE⟩ : ∃ p, p = wq1.heap.size := ⟨_, rfl⟩
      have hNA : BoxL wq2 pnA [.int .i64 x9.1.op, .int .i64 x9.1.fld, .slice kvo x9.1.vals.length kvc, .slice kko x9.1.kids.length kkc] := by rw [hwE, hpE]; exact BoxL.new wq1 _ _
      rw [← hwE, ← hpE]
      have hqA : W.heap.size ≤ pnA := by have := HF.out.size; omega
      clear hwE hpE
      replace i3 := i3.kept hb
      replace i6 := i6.kept hb
      replace i7 := i7.kept hb
      replace hB9 := hB9.kept hb
      replace iA := iA.kept hb
      replace iB := iB.kept hb
      replace HIP : Hid (RowP B _ (pre.map Prod.fst) xs) := Lib.hid (HIP.out.low (Low.of_below hb (by omega)))
      replace HX9 : Hid (PtIs B _ x9.1 kvo kvc kko kkc) := Lib.hid (HX9.out.low (Low.of_below hb (by omega)))
      replace HF : Hid (Keep (fun k => (k = p6 ∨ k = p7) ∨ (Value.slice ao an ac).ownBlock = some k ∨ (Value.slice bo bn bc).ownBlock = some k) W _) := Lib.hid (HF.out.then_below hb)
      replace hsW := Nat.le_trans hsW hb.size
      replace hNB := hNB.kept hb
      clear hb
      first | refine hK.out _ _ ⟨i6, i7, hB9⟩ (fun _ => ?_) | (go_wp2_with fail; refine hK.out _ _ ⟨i6, i7, hB9⟩ (fun _ => ?_))
      clear hK K
      (try simp only [List.getElem_toArray, List.getElem_cons_succ, List.getElem_cons_zero, Act.put, List.setIfInBounds_toArray, List.set_cons_zero, List.set_cons_succ])
      refine wpAnyH_ready (rs := [3]) (by kernel_rfl) (by simp) (AllReadyH.cons rfl (fun K hK => ?_) AllReadyH.nil)
      rw [if_pos (by rfl)]
      refine step_appendKs (us := [.int .i64 x9.1.op, .int .i64 x9.1.fld, .slice kvo x9.1.vals.length kvc, .slice kko x9.1.kids.length kkc]) E_pred iA rfl rfl rfl rfl (fun j u hj => by rw [Addr.add_lit, Nat.zero_add]; exact hNA.cell j u hj) (by simp [Value.oneCell']) (by omega) (by unfold maxLen; omega) hsW ?_
      intro vA wq3 hOA hgA hnA
      obtain ⟨Ao9, Ac9, rfl, -, -, -⟩ := hOA.slice
      have HSA : Hid (W.heap.size ≤ wq2.heap.size) := Lib.hid HF.out.size
      replace i3 := i3.block (hgA.block p3 i3.lt (fun e9 => by have := HOA.out p3 e9.symm; omega))
      replace i6 := i6.block (hgA.block p6 i6.lt (fun e9 => by have := HOA.out p6 e9.symm; omega))
      replace i7 := i7.block (hgA.block p7 i7.lt (fun e9 => by have := HOA.out p7 e9.symm; omega))
      replace hB9 := hB9.block (hgA.block b9 hB9.lt (fun e9 => H9A.out e9.symm))
      have hlow9 : Low B wq2 wq3 := fun k hk => hgA.block k (by omega) (fun e9 => by have := HOA.out k e9.symm; omega)
      replace HIP : Hid (RowP B wq3 (pre.map Prod.fst) xs) := Lib.hid (HIP.out.low hlow9)
      replace HX9 : Hid (PtIs B wq3 x9.1 kvo kvc kko kkc) := Lib.hid (HX9.out.low hlow9)
      replace HF : Hid (Keep (fun k => (k = p6 ∨ k = p7) ∨ (Value.slice ao an ac).ownBlock = some k ∨ (Value.slice bo bn bc).ownBlock = some k) W wq3) := Lib.hid ⟨hgA.os.trans HF.out.os, hgA.tape.trans HF.out.tape, hgA.output.trans HF.out.output, Nat.le_trans HF.out.size hgA.size, fun k hk hs => (hgA.block k (Nat.lt_of_lt_of_le hk HF.out.size) (fun e9 => hs (.inr (.inl e9.symm)))).trans (HF.out.same k hk hs)⟩
      replace iB := iB.block (fun k hk => hgA.block k (iB.lt k hk).2 (fun e9 => HNE.out k e9.symm hk))
      replace hNB := hNB.block (hgA.block pnB hNB.lt (fun e9 => by have := HOA.out pnB e9.symm; omega))
      replace hsW := Nat.le_trans hsW hgA.size
      have HNA := Lib.hid hnA
      clear hlow9 hgA hnA iA
      first | refine hK.out _ _ ⟨i6, i7, hB9⟩ (fun _ => ?_) | (go_wp2_with fail; refine hK.out _ _ ⟨i6, i7, hB9⟩ (fun _ => ?_))
      clear hK K
      (try simp only [List.getElem_toArray, List.getElem_cons_succ, List.getElem_cons_zero, Act.put, List.setIfInBounds_toArray, List.set_cons_zero, List.set_cons_succ])
      refine wpAnyH_ready (rs := [7]) (by kernel_rfl) (by simp) (AllReadyH.cons rfl (fun K hK => ?_) AllReadyH.nil)
      rw [if_pos (by rfl)]
      refine step_appendKs (us := [.int .i64 (x9.2 : Int)]) E_intK iB rfl rfl rfl rfl (fun j u hj => by rw [Addr.add_lit, Nat.zero_add]; exact hNB.cell j u hj) (by simp [Value.oneCell']) (by omega) (by unfold maxLen; omega) hsW ?_
      intro vB wq4 hOB hgB hnB
      obtain ⟨Bo9, Bc9, rfl, -, -, -⟩ := hOB.slice
      have HSB : Hid (W.heap.size ≤ wq3.heap.size) := Lib.hid HF.out.size
      replace i3 := i3.block (hgB.block p3 i3.lt (fun e9 => by have := HOB.out p3 e9.symm; omega))
      replace i6 := i6.block (hgB.block p6 i6.lt (fun e9 => by have := HOB.out p6 e9.symm; omega))
      replace i7 := i7.block (hgB.block p7 i7.lt (fun e9 => by have := HOB.out p7 e9.symm; omega))
      replace hB9 := hB9.block (hgB.block b9 hB9.lt (fun e9 => H9B.out e9.symm))
      have hlow9 : Low B wq3 wq4 := fun k hk => hgB.block k (by omega) (fun e9 => by have := HOB.out k e9.symm; omega)
      replace HIP : Hid (RowP B wq4 (pre.map Prod.fst) xs) := Lib.hid (HIP.out.low hlow9)
      replace HX9 : Hid (PtIs B wq4 x9.1 kvo kvc kko kkc) := Lib.hid (HX9.out.low hlow9)
      replace HF : Hid (Keep (fun k => (k = p6 ∨ k = p7) ∨ (Value.slice ao an ac).ownBlock = some k ∨ (Value.slice bo bn bc).ownBlock = some k) W wq4) := Lib.hid ⟨hgB.os.trans HF.out.os, hgB.tape.trans HF.out.tape, hgB.output.trans HF.out.output, Nat.le_trans HF.out.size hgB.size, fun k hk hs => (hgB.block k (Nat.lt_of_lt_of_le hk HF.out.size) (fun e9 => hs (.inr (.inr e9.symm)))).trans (HF.out.same k hk hs)⟩
      have HNE2 := OwnsK.ne_block hOA iB (by decide)
      replace hOA := hOA.block (fun k hk => hgB.block k (hOA.lt k hk).2 (fun e9 => HNE2 k hk e9.symm))
      replace hsW := Nat.le_trans hsW hgB.size
      have HNB := Lib.hid hnB
      clear hlow9 hgB hnB iB HNE2
      first | refine hK.out _ _ ⟨i6, i7, hB9⟩ (fun _ => ?_) | (go_wp2_with fail; refine hK.out _ _ ⟨i6, i7, hB9⟩ (fun _ => ?_))
      clear hK K
      (try simp only [List.getElem_toArray, List.getElem_cons_succ, List.getElem_cons_zero, Act.put, List.setIfInBounds_toArray, List.set_cons_zero, List.set_cons_succ])
      refine wpAnyH_done (by kernel_rfl) ?_ _
      refine tail_end rfl rfl ?_
      have e6 := i6.cell 0 _ rfl
      have f6 := i6.free 0 (by simp)
      go_simp
      clear e6 f6
      obtain ⟨wS, hwE⟩ : ∃ W, W = wq4.setCell ⟨p6, 0, none⟩ (.slice Ao9 (pre.length + 1) Ac9) := ⟨_, rfl⟩
      have hKS : Keep (fun k => k = p6) wq4 wS := by rw [hwE]; exact (Keep.refl _ _).set p6 0 _ (.inl rfl)
      replace i6 : BoxL wS p6 [.slice Ao9 (pre.length + 1) Ac9] := by rw [hwE]; exact i6.set 0 _ (by simp)
      rw [← hwE]
      clear hwE
      replace i3 := i3.keep hKS (by omega)
      replace i7 := i7.keep hKS (by omega)
      have hOAl : ∀ k, (Value.slice Ao9 (pre.length + 1) Ac9).ownBlock = some k → p7 < k := fun k hk => by have := (hOA.lt k hk).1; omega
      have hOBl : ∀ k, (Value.slice Bo9 (pre.length + 1) Bc9).ownBlock = some k → p7 < k := fun k hk => by have := (hOB.lt k hk).1; omega
      replace hOA := hOA.keep hKS (fun k hk e => by have := hOAl k hk; omega)
      replace hOB := hOB.keep hKS (fun k hk e => by have := hOBl k hk; omega)
      replace HF : Hid (Keep (fun k => (k = p6 ∨ k = p7) ∨ (Value.slice ao an ac).ownBlock = some k ∨ (Value.slice bo bn bc).ownBlock = some k) W wS) := Lib.hid (HF.out.trans hKS (fun k _ e => .inl (.inl e)))
      have hlS : Low B wq4 wS := fun k hk => hKS.same k (by omega) (by omega)
      refine tail_end rfl rfl ?_
      have e7 := i7.cell 0 _ rfl
      have f7 := i7.free 0 (by simp)
      go_simp
      clear e7 f7
      obtain ⟨wT, hwE⟩ : ∃ W, W = wS.setCell ⟨p7, 0, none⟩ (.slice Bo9 (pre.length + 1) Bc9) := ⟨_, rfl⟩
      have hKT : Keep (fun k => k = p7) wS wT := by rw [hwE]; exact (Keep.refl _ _).set p7 0 _ (.inl rfl)
      replace i7 : BoxL wT p7 [.slice Bo9 (pre.length + 1) Bc9] := by rw [hwE]; exact i7.set 0 _ (by simp)
      rw [← hwE]
      clear hwE
      replace i3 := i3.keep hKT (by omega)
      replace i6 := i6.keep hKT (by omega)
      replace hOA := hOA.keep hKT (fun k hk e => by have := hOAl k hk; omega)
      replace hOB := hOB.keep hKT (fun k hk e => by have := hOBl k hk; omega)
      replace HF : Hid (Keep (fun k => (k = p6 ∨ k = p7) ∨ (Value.slice ao an ac).ownBlock = some k ∨ (Value.slice bo bn bc).ownBlock = some k) W wT) := Lib.hid (HF.out.trans hKT (fun k _ e => .inl (.inr e)))
      have hsT : wR.heap.size ≤ wT.heap.size := by have := hKS.size; have := hKT.size; omega
      have hlT : Low B wq4 wT := hlS.trans (fun k hk => hKT.same k (by have := hKS.size; omega) (by omega))
      have hRow : RowP B wT ((pre ++ [x9]).map Prod.fst) (xs ++ [.int .i64 x9.1.op, .int .i64 x9.1.fld, .slice kvo x9.1.vals.length kvc, .slice kko x9.1.kids.length kkc]) := by rw [List.map_append]; exact RowP.app (RowP.single (HX9.out.low hlT)) (HIP.out.low hlT)
      have hDc : dcel pre ++ [.int .i64 (x9.2 : Int)] = dcel (pre ++ [x9]) := by unfold dcel; rw [List.map_append]; rfl
      rw [hDc] at hOB
      have hl1 : (pre ++ [x9]).length = pre.length + 1 := by simp
      have hWT : Below w.heap.size w wT := HIW.out.trans (HF.out.below (fun k hk => by rcases hk with (hk | hk) | hk | hk; omega; omega; (have := HOA.out k hk; omega); (have := HOB.out k hk; omega)) (by have := HIW.out.size; omega))
      have hTl : TlI B wR.heap.size p3 p6 p7 stop w (pre ++ [x9]) (fun k => (k = p6 ∨ k = p7) ∨ (Value.slice Ao9 (pre.length + 1) Ac9).ownBlock = some k ∨ (Value.slice Bo9 (pre.length + 1) Bc9).ownBlock = some k) wT := TlI.mk rfl i3 i6 i7 (by rw [hl1]; exact hOA) hRow (by rw [hl1]; exact hOB) hWT
      have hFt : Foot (fun k => (k = p6 ∨ k = p7) ∨ (Value.slice ao an ac).ownBlock = some k ∨ (Value.slice bo bn bc).ownBlock = some k) (fun k => (k = p6 ∨ k = p7) ∨ (Value.slice Ao9 (pre.length + 1) Ac9).ownBlock = some k ∨ (Value.slice Bo9 (pre.length + 1) Bc9).ownBlock = some k) W wT := ⟨HF.out.os, HF.out.tape, HF.out.output, HF.out.size, HF.out.same, fun k hk => by
        rcases hk with hk | hk | hk
        · exact .inl (.inl hk)
        · rcases HNA.out k hk with h | h
          · exact .inl (.inr (.inl h))
          · exact .inr (Nat.le_trans HSA.out h)
        · rcases HNB.out k hk with h | h
          · exact .inl (.inr (.inr h))
          · exact .inr (Nat.le_trans HSB.out h)⟩
      have hTop : Top (fun k => (k = p6 ∨ k = p7) ∨ (Value.slice Ao9 (pre.length + 1) Ac9).ownBlock = some k ∨ (Value.slice Bo9 (pre.length + 1) Bc9).ownBlock = some k) wT := fun k hk => by
        rcases hk with (hk | hk) | hk | hk
        · omega
        · omega
        · exact (hOA.lt k hk).2
        · exact (hOB.lt k hk).2
      have HTL := Lib.hid hTl
      have HFT := Lib.hid hFt
      have HTP := Lib.hid hTop
      have HL1 := Lib.hid hl1
      have HST := Lib.hid hsT
      have e6 := i6.cell 0 _ rfl
      have e3 := i3.cell 0 _ rfl
      clear hTl hFt hTop hRow hOA hOB hlS hlT hKS hKT hDc hl1 hWT
      by_cases hst : ((pre.length + 1 : Nat) : Int) = stop
      · have hsb : (((pre.length : Nat) : Int) + 1 == stop) = true := by rw [beq_iff_eq]; omega
        have HSS := Lib.hid hst
        clear hst
        gi_wp2_with fail
        exact ⟨_, ⟨rfl, HTL.out, by rw [HL1.out]; exact HSS.out, by rw [HL1.out]; omega, HST.out⟩, HFT.out⟩
      · have hsb : (((pre.length : Nat) : Int) + 1 == stop) = false := by rw [beq_eq_false_iff_ne]; omega
        have HSS := Lib.hid hst
        clear hst
        gi_wp2_with fail
        exact ⟨_, ⟨HTL.out, by rw [HL1.out]; exact HNS.out.succ HSS.out, HST.out⟩, HFT.out, HTP.out⟩
  case done =>
    rintro D S W hD ⟨hI, hN, hsW⟩ hK
    have hRL : R = L := HR.out.trans (cutL_all hN).symm
    subst hRL
    obtain ⟨ao, an, ac, bo, bn, bc, xs, rfl, i3, i6, i7, iA, iP, iB, iW⟩ := hI
    obtain ⟨ao1, cap1, hva, -, -, -⟩ := iA.slice
    obtain ⟨bo1, cap2, hvb, -, -, -⟩ := iB.slice
    obtain rfl : an = R.length := by cases hva; rfl
    obtain rfl : bn = R.length := by cases hvb; rfl
    have HL : Hid (R.length = R.length) := Lib.hid rfl
    clear hva hvb HR hN
    have e6 := i6.cell 0 _ rfl
    have e7 := i7.cell 0 _ rfl
    have HOA := Lib.hid iA
    have HOB := Lib.hid iB
    have HP := Lib.hid iP
    have HB := Lib.hid iW
    have HK := Lib.hid hK
    clear iA iB iP iW hK i3
    gi_wp2_with fail
    refine wpIn_wide.2 ?_
    go_region
    clear e6 e7
    have hd : Below W.heap.size W W.drew := (Below.refl _ _).drew
    have hKD : W.drew.heap[D]? = some (.deferred (some [])) := (hd.block D (Array.getElem?_eq_some_iff.1 HK.out).1).trans HK.out
    have hO2 := HOA.out.kept hd
    have hO3 := HOB.out.kept hd
    have hP2 := HP.out.low (Low.of_below hd (by omega))
    have hB2 := HB.out.trans (hd.mono HB.out.size)
    have hDw : w.heap.size ≤ W.drew.heap.size := hB2.size
    clear hd HK HOA HOB HP HB
    generalize W.drew = W2 at *
    gi_wp2_with fail
    have hx9 : Ext D W2 (W2.putObj D (.deferred none)) := Ext.put (Nat.le_refl _) hKD rfl
    refine ⟨by simp, .inl ⟨_, _, rfl, run_takeDeferred hKD, ?_⟩⟩
    refine ⟨_, results_tmp2 rfl _ _ _, ?_⟩
    exact TdPost.mk rfl (Lib.hid rfl) ((hO2.ext hx9).mono (by omega)) (Lib.hid (hP2.low (fun k hk => hx9.low k (by omega) (by have := Array.getElem?_eq_some_iff.1 hKD; omega)))) ((hO3.ext hx9).mono (by omega)) (below_extT hB2 hx9 (by omega) hDw)
  case stop =>
    rintro D c pre S W hD hp ⟨rfl, hI, hst, hp0, hsW⟩ hK
    have hRL : pre = R := (cutL_stop hp hst hp0).trans HR.out.symm
    subst hRL
    obtain ⟨ao, an, ac, bo, bn, bc, xs, rfl, i3, i6, i7, iA, iP, iB, iW⟩ := hI
    obtain ⟨ao1, cap1, hva, -, -, -⟩ := iA.slice
    obtain ⟨bo1, cap2, hvb, -, -, -⟩ := iB.slice
    obtain rfl : an = pre.length := by cases hva; rfl
    obtain rfl : bn = pre.length := by cases hvb; rfl
    have HL : Hid (pre.length = pre.length) := Lib.hid rfl
    clear hva hvb HR hp hst hp0
    have e6 := i6.cell 0 _ rfl
    have e7 := i7.cell 0 _ rfl
    have HOA := Lib.hid iA
    have HOB := Lib.hid iB
    have HP := Lib.hid iP
    have HB := Lib.hid iW
    have HK := Lib.hid hK
    clear iA iB iP iW hK i3
    gi_wp2_with fail
    refine wpIn_wide.2 ?_
    go_region
    clear e6 e7
    have hd : Below W.heap.size W W.drew := (Below.refl _ _).drew
    have hKD : W.drew.heap[D]? = some (.deferred (some [])) := (hd.block D (Array.getElem?_eq_some_iff.1 HK.out).1).trans HK.out
    have hO2 := HOA.out.kept hd
    have hO3 := HOB.out.kept hd
    have hP2 := HP.out.low (Low.of_below hd (by omega))
    have hB2 := HB.out.trans (hd.mono HB.out.size)
    have hDw : w.heap.size ≤ W.drew.heap.size := hB2.size
    clear hd HK HOA HOB HP HB
    generalize W.drew = W2 at *
    gi_wp2_with fail
    have hx9 : Ext D W2 (W2.putObj D (.deferred none)) := Ext.put (Nat.le_refl _) hKD rfl
    refine ⟨by simp, .inl ⟨_, _, rfl, run_takeDeferred hKD, ?_⟩⟩
    refine ⟨_, results_tmp2 rfl _ _ _, ?_⟩
    exact TdPost.mk rfl (Lib.hid rfl) ((hO2.ext hx9).mono (by omega)) (Lib.hid (hP2.low (fun k hk => hx9.low k (by omega) (by have := Array.getElem?_eq_some_iff.1 hKD; omega)))) ((hO3.ext hx9).mono (by omega)) (below_extT hB2 hx9 (by omega) hDw)
  · rintro pre S W W' ⟨hI, hN, hsW⟩ ho
    exact ⟨hI.oth ho hBR (by omega) (by omega) (by omega), hN, Nat.le_trans hsW ho.size⟩
  · rintro c pre S W W' ⟨rfl, hI, hst, hp0, hsW⟩ ho
    exact ⟨rfl, hI.oth ho hBR (by omega) (by omega) (by omega), hst, hp0, Nat.le_trans hsW ho.size⟩
  · rintro k (hk | hk | hk)
    · omega
    · simp [Value.ownBlock] at hk
    · simp [Value.ownBlock] at hk
  · exact ⟨TlI.mk rfl hb3 hb6 hb7 (OwnsK.nil _ _ _ _) rfl (OwnsK.nil _ _ _ _) hbR, NoStop.zero _, Nat.le_refl _⟩
  · rintro x9 a' W W' ⟨b9, kvo, kvc, kko, kkc, hq9, hB9, hX9, h96, h97, rfl⟩ hx
    refine ⟨b9, kvo, kvc, kko, kkc, hq9, hB9.ext hx (by simp), hX9.low (fun k hk => hx.low k (by omega) (by have := hB9.lt; omega)), fun v hv => h96 v ?_, fun v hv => h97 v ?_, rfl⟩
    · rw [← hv]; exact (World.cell?_of_block (a := ⟨p6, 0, none⟩) (hx.low p6 (by omega) (by have := hB9.lt; omega))).symm
    · rw [← hv]; exact (World.cell?_of_block (a := ⟨p7, 0, none⟩) (hx.low p7 (by omega) (by have := hB9.lt; omega))).symm
end Go.Proofs.YtlmjkbdodecbmaaDoor
