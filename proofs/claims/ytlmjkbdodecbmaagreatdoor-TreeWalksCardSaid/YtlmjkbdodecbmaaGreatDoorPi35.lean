/-
  Pi35: LawTk (what is needed of them).
-/
import Derived.Test.YtlmjkbdodecbmaaGreatDoorPi29
import Derived.Test.YtlmjkbdodecbmaaGreatDoorPi32
import Derived.Test.YtlmjkbdodecbmaaGreatDoorPi33
import Derived.Test.YtlmjkbdodecbmaaGreatDoorPi34

namespace Go.Proofs.YtlmjkbdodecbmaaGreatDoor
open Go.RowKit Go.Shelf
set_option linter.unusedVariables false
set_option linter.unusedSimpArgs false
attribute [local go_sem] field_nat
theorem eq_seqnil2 (w : World) (b : Nat) : (binOp .eql 45 (.func (.func twalkF) #[] #[.pointer (some ⟨b, 0, none⟩)]) .nilFunc).run Tryz.prog w = .ok (.bool false) w := by kernel_rfl
theorem eq_seqnil3 (w : World) (b : Nat) : (binOp .eql 47 (.func (.func pathsF) #[] #[.pointer (some ⟨b, 0, none⟩)]) .nilFunc).run Tryz.prog w = .ok (.bool false) w := by kernel_rfl
theorem rshape_h (t : TR) (b : Bool) (no : Option Addr) (nc : Nat) (B : Nat) (w : World) (HT : Hid (TrIs B w t no nc)) (HB : Hid (B ≤ w.heap.size)) (HSZ : Hid (t.nodes.length + (t.nodes.map fun x => x.kids.length).sum ≤ 1500)) (hs : Hid (b = shapeB t)) :
    Calls Tryz.prog 8 #[.agg #[.slice no t.nodes.length nc, .int .i64 t.ms, .int .i64 t.nt]] w fun e w' => e = .returned (.bool b) ∧ Below w.heap.size w w' := rshape_any t b no nc B w HT HB.out HSZ hs
/-- What the document's Walk answers of a tree that may be. -/
theorem rwalk_h (t : TR) (N : Nat) (no : Option Addr) (nc : Nat) (B : Nat) (w : World) (HT : Hid (TrIs B w t no nc)) (HB : Hid (B ≤ w.heap.size)) (HN : Hid (N = t.nodes.length)) (HSZ : Hid (t.nodes.length + (t.nodes.map fun x => x.kids.length).sum ≤ 1500)) (hs : Hid (shapeB t = true)) :
    Calls Tryz.prog 9 #[.agg #[.slice no N nc, .int .i64 t.ms, .int .i64 t.nt]] w fun e w' => (∃ (ao : Option Addr) (ac : Nat) (bo : Option Addr) (bc : Nat), e = .returned (.tuple #[.slice ao N ac, .slice bo N bc]) ∧ Hid (IntsB w'.heap.size w' ao ac (fstI (walkT t))) ∧ Hid (IntsB w'.heap.size w' bo bc (dpI (walkT t)))) ∧ Below w.heap.size w w' := by
  obtain ⟨up, h1, h2, h3, h4, h5, h6⟩ := shapeB_true hs.out
  have h5' : (walkT t).length = N := by rw [h5, HN.out]; rfl
  have hL : walkT t = dfsAll (kidsT t) N := by unfold walkT; rw [if_pos hs.out, HN.out]; rfl
  have h9 := rwalk_any t N (walkT t) no nc B w HT HB.out HN (by rw [HN.out]; have := HSZ.out; omega) (by rw [HN.out]; exact h3) (Lib.hid ⟨up, h2⟩) HSZ (Lib.hid hL) (Lib.hid ⟨by rw [h5', HN.out]; exact h3, by rw [h5']; exact Nat.le_refl _⟩)
  refine h9.mono ?_
  rintro e w' ⟨⟨ao, ac, bo, bc, rfl, a1, a2⟩, hb⟩
  rw [h5']
  exact ⟨⟨ao, ac, bo, bc, rfl, Lib.hid a1.out.toB, Lib.hid a2.out.toB⟩, hb⟩
theorem walk_in {t : TR} {x : Nat × Nat} (h : x ∈ walkT t) : shapeB t = true ∧ x.1 < t.nodes.length := by
  by_cases hs : shapeB t = true
  · obtain ⟨up, h1, h2, h3, h4, h5, h6⟩ := shapeB_true hs
    exact ⟨hs, h4.lt x (by simpa using h)⟩
  · rw [no_walk (by simpa using hs)] at h
    simp at h
theorem walk_len (t : TR) : (walkT t).length ≤ t.nodes.length := by
  by_cases hs : shapeB t = true
  · rw [walkT_len hs]; exact Nat.le_refl _
  · rw [no_walk (by simpa using hs)]; exact Nat.zero_le _
theorem cutL_len {α : Type} (stop : Int) (L : List α) : (cutL stop L).length = cutN stop L.length := by
  unfold cutL cutN
  split
  · rw [List.length_take]; omega
  · rfl
theorem cutL_pre {α : Type} (stop : Int) (L : List α) : cutL stop L <+: L := by
  unfold cutL
  split
  · exact List.take_prefix _ _
  · exact List.prefix_rfl
theorem ints_owns {D : Nat} {e : TypeId} {w : World} {v : Value} {n : Nat} {ns : List Int} (h : OwnsK 1 D e w v n (icel ns)) (hn : ns.length = n) : IntsI .i64 w v ns := by
  subst hn
  exact (ints_of_owns (owns_icel h)).1
theorem ints_cut {B : Nat} {w : World} {io : Option Addr} {ic n : Nat} {ms ns : List Int} (h : IntsB B w io ic ns) (hB : B ≤ w.heap.size) (hp : ms <+: ns) (hn : ms.length = n) : IntsI .i64 w (.slice io n ic) ms := by
  subst hn
  refine ⟨io, ic, rfl, Nat.le_trans hp.length_le h.cap.1, h.cap.2, ?_⟩
  by_cases h0 : ms = []
  · exact .inl h0
  · have hpos : 0 < ms.length := List.length_pos_iff.2 h0
    have get : ∀ i, i < ms.length → ns[i]? = some (ms[i]?.getD 0) := fun i hi => by
      obtain ⟨r, rfl⟩ := hp
      rw [List.getElem?_append_left hi, List.getElem?_eq_getElem hi]
      rfl
    obtain ⟨b, off, e, hb, hc⟩ := h.at_ 0 _ (get 0 hpos)
    refine .inr ⟨b, off, e, by omega, fun i hi => ?_⟩
    obtain ⟨b2, off2, e2, _, hc2⟩ := h.at_ i _ (get i hi)
    rw [e] at e2
    cases e2
    exact hc2
theorem low_keep {kb : Nat} {w w' : World} (h : Keep (fun k => k = kb) w w') (hk : kb ≤ w.heap.size) : Low kb w w' := fun k h1 => h.same k (by omega) (fun e => by omega)
/-- What is left of a row of lists of which some have been given away: S: the new owner's blocks. -/
structure ZLeft (Dx : Nat) (S : Nat → Prop) (w : World) (z : Value) (zs : List Value) (Z : List (List Int)) (q : Nat) : Prop where
  a : ∀ k, z.ownBlock = some k → ¬ S k
  b : ∀ (j : Nat) (v : Value) (k : Nat), q ≤ j → zs[j]? = some v → v.ownBlock = some k → ¬ S k
  o : OwnsK 1 Dx 27 w z Z.length zs
  r : ∀ (j : Nat) (v : Value) (ns : List Int), q ≤ j → zs[j]? = some v → Z[j]? = some ns → OwnsK 1 Dx 3 w v ns.length (icel ns)
  ap : ∀ (i j : Nat) (v u : Value) (g : Nat), zs[i]? = some v → zs[j]? = some u → v.ownBlock = some g → u.ownBlock = some g → i = j
  ne : ∀ k, OfL zs k → z.ownBlock ≠ some k
theorem ZLeft.len {Dx : Nat} {S : Nat → Prop} {w : World} {z : Value} {zs : List Value} {Z : List (List Int)} {q : Nat} (h : ZLeft Dx S w z zs Z q) : zs.length = Z.length := by have := h.o.len; rw [Nat.mul_one] at this; exact this
theorem ZLeft.start {Dx : Nat} {S : Nat → Prop} {w : World} {z : Value} {zs : List Value} {Z : List (List Int)} (h : RowsL Dx w z zs Z) (hS : ∀ k, S k → k < Dx) : ZLeft Dx S w z zs Z 0 :=
  ⟨fun k hk hs => by have := (h.lt (.inl hk)).1; have := hS k hs; omega, fun j v k _ h1 hk hs => by have := (h.lt (.inr ⟨j, v, h1, hk⟩)).1; have := hS k hs; omega, h.own, fun j v ns _ h1 h2 => h.row j v ns h1 h2, h.ap, h.ne⟩
theorem ZLeft.kept {Dx : Nat} {S : Nat → Prop} {w w' : World} {z : Value} {zs : List Value} {Z : List (List Int)} {q : Nat} (h : ZLeft Dx S w z zs Z q) (hb : Below w.heap.size w w') : ZLeft Dx S w' z zs Z q :=
  ⟨h.a, h.b, h.o.kept hb, fun j v ns h0 h1 h2 => (h.r j v ns h0 h1 h2).kept hb, h.ap, h.ne⟩
theorem ZLeft.step {Dx kb : Nat} {S S' : Nat → Prop} {w w' : World} {z v : Value} {zs : List Value} {Z : List (List Int)} {q : Nat} (h : ZLeft Dx S w z zs Z q) (hv : zs[q]? = some v) (hk : Keep (fun k => k = kb ∨ S k) w w') (hkb : kb < Dx) (hS : ∀ k, S' k → S k ∨ v.ownBlock = some k ∨ w.heap.size ≤ k) : ZLeft Dx S' w' z zs Z (q + 1) := by
  have hl := h.len
  have rlt : ∀ (j : Nat) (u : Value) (k : Nat), q ≤ j → zs[j]? = some u → u.ownBlock = some k → Dx ≤ k ∧ k < w.heap.size := fun j u k h0 h1 hk9 => by
    have hj := (List.getElem?_eq_some_iff.1 h1).1
    exact (h.r j u _ h0 h1 (List.getElem?_eq_getElem (by omega))).lt k hk9
  refine ⟨fun k hz hs => ?_, fun j u k h0 h1 hu hs => ?_, h.o.keep hk fun k hz e => ?_, fun j u ns h0 h1 h2 => (h.r j u ns (by omega) h1 h2).keep hk fun k hu e => ?_, h.ap, h.ne⟩
  · rcases hS k hs with h3 | h3 | h3
    · exact h.a k hz h3
    · exact h.ne k ⟨q, v, hv, h3⟩ hz
    · have := (h.o.lt k hz).2; omega
  · rcases hS k hs with h3 | h3 | h3
    · exact h.b j u k (by omega) h1 hu h3
    · have := h.ap q j v u k hv h1 h3 hu; omega
    · have := (rlt j u k (by omega) h1 hu).2; omega
  · rcases e with e | e
    · have := (h.o.lt k hz).1; omega
    · exact h.a k hz e
  · rcases e with e | e
    · have := (rlt j u k (by omega) h1 hu).1; omega
    · exact h.b j u k (by omega) h1 hu e
theorem BkIs.trim {D kb : Nat} {S : Nat → Prop} {w : World} (h : BkIs D kb S w) : BkIs D kb (fun k => S k ∧ k < w.heap.size) w := by
  obtain ⟨bi, bw, vs, us, ls, a1, a2, a3, a4, a5, a6, a7, a8, a9⟩ := h
  exact ⟨bi, bw, vs, us, ls, a1, a2, a3, a4, a5, fun h => a6 h.1, fun k hk => ⟨a7 k hk, (a2.lt hk).2⟩, fun k hk => ⟨a8 k hk, (a3.lt hk).2⟩, a9⟩
theorem fold_all (t : TR) (K : Nat) : ∀ (r : List (Nat × Nat)) (way : List Int) (tl : List (List Int)), way.length + r.length ≤ K → (∀ ns ∈ tl, ns.length ≤ K) → ∀ ns ∈ (r.foldl (ptStep t) (way, tl)).2, ns.length ≤ K := by
  intro r
  induction r with
  | nil => intro way tl _ h; exact h
  | cons x r ih =>
    intro way tl hl h
    rw [List.foldl_cons]
    have h1 : ((way.take (x.2 - 1)) ++ [(x.1 : Int)]).length + r.length ≤ K := by
      rw [List.length_append, List.length_take]
      simp only [List.length_cons, List.length_nil] at hl ⊢
      omega
    refine ih _ _ h1 ?_
    show ∀ ns ∈ (if kidsT t x.1 = [] then tl ++ [way.take (x.2 - 1) ++ [(x.1 : Int)]] else tl), ns.length ≤ K
    split
    · intro ns hn
      rcases List.mem_append.1 hn with h2 | h2
      · exact h ns h2
      · simp at h2
        subst h2
        have := Nat.le_trans (Nat.le_add_right _ _) h1
        simpa using this
    · exact h
theorem paths_short (t : TR) : ∀ ns ∈ pathsT t, ns.length ≤ (walkT t).length := by
  unfold pathsT toldP ptS
  exact fold_all t _ (walkT t) [] [] (by simp) (by simp)
theorem owns_one (w : World) (n : Int) (base : Nat) (hb : base ≤ w.heap.size) : Owns base 3 (w.alloc (.cells #[.int .i64 n] 3)) (.slice (some ⟨w.heap.size, 0, none⟩) 1 1) [.int .i64 n] :=
  ⟨rfl, .inr ⟨w.heap.size, 1, #[.int .i64 n], rfl, hb, heap_alloc_new w _, Nat.le_refl _, by decide, rfl, rfl⟩⟩
theorem way_cells {D : Nat} {w : World} {g c n : Nat} {way : List Int} (h : OwnsK 1 D 3 w (.slice (some ⟨g, 0, none⟩) n c) n (icel way)) (o : Obj) : ∀ j u', (icel way)[j]? = some u' → (w.alloc o).cell? ((⟨g, 0, none⟩ : Addr).add j) = some u' := fun j u' hj => by
  rw [Addr.add_lit, Nat.zero_add]; exact (h.alloc o).cellAt hj
theorem below_grownA {w w' : World} {o : Obj} (hg : (w.alloc o).grownBy w' (some w.heap.size)) : Below w.heap.size w w' :=
  ((Below.refl _ w).alloc (Nat.le_refl _) o).trans ⟨hg.os, hg.tape, hg.output, hg.size, fun k hk => hg.block k (by simp; omega) (fun e => by injection e with e; omega)⟩
set_option maxRecDepth 100000 in
set_option maxHeartbeats 8000000 in
/-- TreeWalks. -/
theorem treeWalks_main (t : TR) (stop : Int) (no : Option Addr) (nc : Nat) (w : World) (hT0 : TrIs w.heap.size w t no nc) :
    Calls Tryz.prog 3 #[.agg #[.slice no t.nodes.length nc, .int .i64 t.ms, .int .i64 t.nt], .int .i64 stop] w fun e w' => e = .returned (.bool true) ∧ Below w.heap.size w w' := by
  obtain ⟨B, hB⟩ : ∃ B, B = w.heap.size := ⟨_, rfl⟩
  rw [← hB] at hT0
  obtain ⟨tb, htb⟩ : ∃ b, b = treeB t := ⟨_, rfl⟩
  obtain ⟨sb, hsb⟩ : ∃ b, b = shapeB t := ⟨_, rfl⟩
  have HTB := Lib.hid htb
  have HSB := Lib.hid hsb
  obtain ⟨w0, hw0, hbf, hz0, pt, hpt, hbt⟩ := boxT w no t.nodes.length nc t.ms t.nt
  have hT := hT0.low (Low.of_below hbf (by omega))
  have hBw : B ≤ w0.heap.size := by omega
  have HW := Lib.hid hw0
  have HPT : Hid (w.heap.size ≤ pt) := Lib.hid (by omega)
  have HBE : Hid (B = w.heap.size) := Lib.hid hB
  clear hw0 hz0 htb hsb hT0 hB
  go_enter Tryz.func3, Tryz.ntmps3
  go_upto_region 1 with fail
  rw [← HW.out, ← hpt]
  clear hpt HW
  have e0 := hbt.cell 0 _ rfl
  have e1 := hbt.cell 1 _ rfl
  have e2 := hbt.cell 2 _ rfl
  go_wp2_with fail
  (with_reducible refine (bTree_any t tb no nc B _ hT hBw HTB).mono ?_)
  rintro e w1 ⟨rfl, hb⟩
  try clear e0 e1 e2
  replace hbt := hbt.kept hb
  replace hT := hT.low (Low.of_below hb hBw)
  replace hBw := Nat.le_trans hBw hb.size
  replace hbf := hbf.trans (hb.mono hbf.size)
  clear hb
  cases tb
  case false =>
    go_wp2_with fail
    refine (alive14_any _).mono ?_
    rintro e w9 ⟨rfl, hb⟩
    go_wp2_with fail
    go_ret
    exact ⟨ret_one rfl, hbf.trans (hb.mono hbf.size)⟩
  case true =>
  have HSZ := Lib.hid (treeB_le HTB.out.symm).1
  clear HTB
  go_wp2_with fail
  refine (alive14_any _).mono ?_
  rintro e w3 ⟨rfl, hb⟩
  try clear e0 e1 e2
  replace hbt := hbt.kept hb
  replace hT := hT.low (Low.of_below hb hBw)
  replace hBw := Nat.le_trans hBw hb.size
  replace hbf := hbf.trans (hb.mono hbf.size)
  clear hb
  have HT := Lib.hid hT
  have HBw := Lib.hid hBw
  have HPW : Hid (pt < w3.heap.size) := Lib.hid hbt.lt
  clear hT hBw
  have e0 := hbt.cell 0 _ rfl
  have e1 := hbt.cell 1 _ rfl
  have e2 := hbt.cell 2 _ rfl
  go_upto_if 32 with (go_at_call 8; (with_reducible refine (rshape_h t sb no nc B _ HT HBw HSZ HSB).mono ?_); rintro e w4 ⟨rfl, hb4⟩)
  clear e0 e1 e2
  replace hbt := hbt.kept hb4
  replace HT : Hid (TrIs B w4 t no nc) := Lib.hid (HT.out.low (Low.of_below hb4 HBw.out))
  replace HBw : Hid (B ≤ w4.heap.size) := Lib.hid (Nat.le_trans HBw.out hb4.size)
  replace hbf := hbf.trans (hb4.mono hbf.size)
  replace HPW : Hid (pt < w4.heap.size) := Lib.hid hbt.lt
  clear hb4
  have e0 := hbt.cell 0 _ rfl
  have e1 := hbt.cell 1 _ rfl
  have e2 := hbt.cell 2 _ rfl
  go_cut [5, 6] from 33 to 37 (fun lv dv wx => ∃ (L : List (Nat × Nat)) (N : Nat) (lo : Option Addr) (lc : Nat) (bo : Option Addr) (bc : Nat), lv = .slice lo N lc ∧ dv = .slice bo N bc ∧ Hid (L = walkT t) ∧ Hid (N = L.length) ∧ Hid (IntsB wx.heap.size wx lo lc (fstI L)) ∧ Hid (IntsB wx.heap.size wx bo bc (dpI L)) ∧ Hid ((lo = none ∧ bo = none ∧ N = 0) ∨ 0 < N) ∧ Below w4.heap.size w4 wx)
  case first =>
    cases sb
    case false =>
      go_wp2_with fail
      go_meet
      case rel => exact ⟨[], 0, none, 0, none, 0, rfl, rfl, Lib.hid (no_walk HSB.out.symm).symm, Lib.hid rfl, Lib.hid ⟨by simp [fstI, maxLen], fun _ => rfl, fun i n h => by simp [fstI] at h⟩, Lib.hid ⟨by simp [dpI, maxLen], fun _ => rfl, fun i n h => by simp [dpI] at h⟩, Lib.hid (.inl ⟨rfl, rfl, rfl⟩), Below.refl _ _⟩
    case true =>
      go_wp2_with fail
      (with_reducible refine (rwalk_h t t.nodes.length no nc B _ HT HBw (Lib.hid rfl) HSZ (Lib.hid HSB.out.symm)).mono ?_)
      rintro e w5 ⟨⟨lo, lc, bo, bc, rfl, HL, HD⟩, hb5⟩
      go_wp2_with fail
      go_meet
      case rel =>
        have hlen : (walkT t).length = t.nodes.length := walkT_len HSB.out.symm
        have hpos : 0 < t.nodes.length := by obtain ⟨_, _, _, h, _⟩ := shapeB_true HSB.out.symm; exact h
        exact ⟨walkT t, _, lo, lc, bo, bc, rfl, rfl, Lib.hid rfl, Lib.hid hlen.symm, HL, HD, Lib.hid (.inr hpos), hb5⟩
  case rest =>
  obtain ⟨L, N, lo, lc, bo, bc, rfl, rfl, HL, HN, HLL, HDD, HLO, hb⟩ := hcut
  obtain ⟨w5, hwE⟩ : ∃ W, W = wc := ⟨_, rfl⟩
  subst hwE
  try clear e0 e1 e2
  replace hbt := hbt.kept hb
  replace HT : Hid (TrIs B w5 t no nc) := Lib.hid (HT.out.low (Low.of_below hb HBw.out))
  replace HBw : Hid (B ≤ w5.heap.size) := Lib.hid (Nat.le_trans HBw.out hb.size)
  replace hbf := hbf.trans (hb.mono hbf.size)
  clear hb
  obtain ⟨D1, hD1⟩ : ∃ d, d = w5.heap.size := ⟨_, rfl⟩
  rw [← hD1] at HLL HDD
  have HP : Hid (B ≤ D1 ∧ pt < D1 ∧ D1 = w5.heap.size) := Lib.hid ⟨by rw [hD1]; exact HBw.out, by rw [hD1]; exact hbt.lt, hD1⟩
  have hN15 : N ≤ 1500 := by rw [HN.out, HL.out]; have := walk_len t; have := HSZ.out; omega
  clear hD1
  go_wp2_with fail
  go_loopg [7, 8] N (fun gg av iv wr => ∃ (i : Nat) (ao : Option Addr) (ac : Nat) (xs : List Value) (R : List (List Int)), i + gg = N ∧ av = .slice ao R.length ac ∧ iv = .int .i64 (i : Int) ∧ Hid (R = toldP t (L.take i)) ∧ R.length ≤ i ∧ Hid (RowsL D1 wr (.slice ao R.length ac) xs R) ∧ Below D1 w5 wr)
  case atStart => exact ⟨0, none, 0, [], [], by omega, rfl, rfl, Lib.hid rfl, by simp, Lib.hid (RowsL.nil _ _), Below.refl _ _⟩
  case round =>
    obtain ⟨i, ao, ac, xs, R, hi, rfl, rfl, HR, hRl, HRow, hb1⟩ := hrel
    by_cases hil : i < N
    case pos =>
      have hii : ((i : Nat) : Int) < ((N : Nat) : Int) := by omega
      have hi0 : (0 : Int) ≤ ((i : Nat) : Int) := by omega
      obtain ⟨x, hx9⟩ : ∃ x, L[i]? = some x := ⟨_, List.getElem?_eq_getElem (by rw [← HN.out]; exact hil)⟩
      have HX := Lib.hid hx9
      have hxw := walk_in (t := t) (x := x) (by rw [← HL.out]; exact List.mem_of_getElem? hx9)
      obtain ⟨y, hy9⟩ : ∃ y, t.nodes[x.1]? = some y := ⟨_, List.getElem?_eq_getElem hxw.2⟩
      have hxn1 : ((x.1 : Nat) : Int) < ((t.nodes.length : Nat) : Int) := by have := hxw.2; omega
      have hxn0 : (0 : Int) ≤ ((x.1 : Nat) : Int) := by omega
      obtain ⟨nb, noff, l, hno, hbB9, -, hnd⟩ := (HT.out.low (Low.of_below hb1 HP.out.1)).at_ x.1 y hy9
      obtain ⟨lb, loff, hlo, hlB, cl⟩ := (HLL.out.low (Low.of_below hb1 (Nat.le_refl _))).at_ i (x.1 : Int) (by unfold fstI; rw [List.getElem?_map, hx9]; rfl)
      have hbt1 := hbt.below hb1 HP.out.2.1
      have HLO9 := Lib.hid hlo
      have HKL : Hid (kidsT t x.1 = y.kids.map Int.toNat) := Lib.hid (by unfold kidsT; rw [hy9])
      have hlW : lb < wr.heap.size := Nat.lt_of_lt_of_le hlB (by have := hb1.size; have := HP.out.2.2; omega)
      rw [hno] at hbt1
      rw [hlo]
      have c6 := hnd.c6
      clear hlo hno hx9 hy9 hnd hxw hbB9
      go_upto_region 10 with fail
      refine wp_region_seq (S := fun w' => BoxL w' pt [.slice (some ⟨nb, noff, none⟩) t.nodes.length nc, .int .i64 t.ms, .int .i64 t.nt] ∧ w'.cell? ⟨lb, loff + i, none⟩ = some (.int .i64 (x.1 : Int)) ∧ w'.cell? ⟨nb, noff + x.1 * 8 + 6, none⟩ = some (.slice l.io y.kids.length l.ic)) [(true, 0), (true, 1), (true, 2), (true, 3), (true, 4), (true, 5), (true, 6), (true, 7), (true, 8), (true, 9), (true, 10)] (by kernel_rfl) (by kernel_rfl) (by kernel_rfl) (by kernel_rfl) (by kernel_rfl) (fun d _ _ _ _ h => by cases d <;> exact h) ⟨hbt1.drew, cl, c6⟩ (fun _ => ?_)
      simp only [pickOps, List.append_eq, List.cons_append, List.nil_append, List.getElem?_toArray, List.getElem?_cons_succ, List.getElem?_cons_zero]
      have hb : Below wr.heap.size wr wr.drew := (Below.refl _ _).drew
      generalize wr.drew = wd at hb ⊢
      replace HRow : Hid (RowsL D1 wd (.slice ao R.length ac) xs R) := Lib.hid (HRow.out.kept hb)
      replace hb1 := hb1.trans (hb.mono (by have := hb1.size; have := HP.out.2.2; omega))
      replace cl := (hb.cell (p := ⟨lb, loff + i, none⟩) hlW).trans cl
      replace hlW := Nat.lt_of_lt_of_le hlW hb.size
      clear hb hbt1 c6
      repeat (first | (refine seq_take (v := ?_) (by rfl) ?_ ?_; rotate_left; (· intro w hSw; (try dsimp only at hSw); obtain ⟨hLt, hLl, hLk⟩ := hSw; have e0 := hLt.cell 0 _ rfl; clear hLt; go_simp; all_goals with_reducible rfl); (try simp only [Act.put, List.setIfInBounds_toArray, List.set_cons_zero, List.set_cons_succ])) | (refine seq_leave (by rfl) ?_; (try simp only [Act.put, List.setIfInBounds_toArray, List.set_cons_zero, List.set_cons_succ])))
      refine seq_end ?_
      by_cases hk0 : 0 < y.kids.length
      case pos =>
        have hkk : (0 : Int) < ((y.kids.length : Nat) : Int) := by omega
        go_wp2_with fail
        rw [← HLO9.out]
        go_roundg (gk - 1)
        case measure => omega
        case rel => exact ⟨i + 1, ao, ac, xs, R, by omega, rfl, by go_num, Lib.hid (by rw [told_step HX.out, if_neg (by rw [HKL.out]; intro h; have := congrArg List.length h; simp at this; rw [this] at hk0; simp at hk0), HR.out]), by omega, HRow, hb1⟩
      case neg =>
        have hkk : ¬ (0 : Int) < ((y.kids.length : Nat) : Int) := by omega
        have HLF : Hid (kidsT t x.1 = []) := Lib.hid (by rw [HKL.out]; have : y.kids = [] := List.eq_nil_of_length_eq_zero (by omega); rw [this]; rfl)
        obtain ⟨w7, hw7⟩ : ∃ W, W = wd.alloc (.cells #[.int .i64 (x.1 : Int)] 3) := ⟨_, rfl⟩
        obtain ⟨D2, hD2⟩ : ∃ d, d = wd.heap.size := ⟨_, rfl⟩
        have hO7 : OwnsK 1 D2 3 w7 (.slice (some ⟨D2, 0, none⟩) [(x.1 : Int)].length 1) [(x.1 : Int)].length (icel [(x.1 : Int)]) := by rw [hw7, hD2]; exact owns_one wd _ _ (Nat.le_refl _)
        have hb7 : Below D2 wd w7 := by rw [hw7, hD2]; exact (Below.refl _ wd).alloc (Nat.le_refl _) _
        have HBK : Hid (BackW t L i i x [(x.1 : Int)]) := Lib.hid (BackW.start HL.out HX.out)
        have HW := Lib.hid hw7
        have HD2 := Lib.hid hD2
        have HDX : Hid (1 ≤ x.2 ∧ x.2 ≤ i + 1) := Lib.hid (way_depth HL.out HX.out)
        clear hw7
        go_upto_region 12 with fail
        rw [← HW.out, ← hD2]
        clear hD2 HW cl
        go_wp2_with fail
        obtain ⟨go, hgo⟩ : ∃ go, go = gk := ⟨_, rfl⟩
        subst hgo
        go_loopg [9, 10] i (fun gg wv kv wr => ∃ (way : List Int) (wo : Option Addr) (wc : Nat) (z : Int), kv = .int .i64 z ∧ z = (gg : Int) ∧ wv = .slice wo way.length wc ∧ OwnsK 1 D2 3 wr (.slice wo way.length wc) way.length (icel way) ∧ Hid (BackW t L i gg x way) ∧ way.length + gg ≤ i + 1 ∧ Below D2 wd wr)
        case atStart => exact ⟨[(x.1 : Int)], some ⟨D2, 0, none⟩, 1, _, rfl, rfl, rfl, hO7, HBK, by simp; omega, hb7⟩
        clear hO7 hb7 HBK
        case round =>
          obtain ⟨way, wo, wc, z, rfl, hz, rfl, hOw, HBK, hwl, hb2⟩ := hrel
          have hwpos := HBK.out.pos
          obtain ⟨g, wc9, hv9, hg1, hg2, hc1, hc2⟩ := hOw.some98 hwpos
          obtain ⟨rfl, rfl⟩ : wo = some ⟨g, 0, none⟩ ∧ wc = wc9 := by cases hv9; exact ⟨rfl, rfl⟩
          clear hv9
          rcases Nat.eq_zero_or_pos gk with h0 | h0
          · subst h0
            obtain rfl : z = 0 := by omega
            have hn0 : ¬ (0 : Int) < 0 := by omega
            have HWY : Hid (way = wayP t (L.take (i + 1))) := Lib.hid HBK.out.done
            have hRow2 := HRow.out.keep (Keep.of_below (S := fun _ => False) (by rw [← HD2.out]; exact hb2)) (fun _ _ h => h)
            have hown := hRow2.own
            have HRow2 := Lib.hid hRow2
            have hDw : D1 ≤ wr.heap.size := by have := hb1.size; have := hb2.size; have := HP.out.2.2; omega
            clear hz hRow2
            go_upto_region 9 with (at_builtin; refine append1KO E_rowsI hown rfl rfl rfl rfl rfl (by simp [Value.oneCell']) (by omega) (by unfold maxLen; omega) hDw ?_; intro v9 w9 hO9 hb9 hg9 hn9; obtain ⟨ao9, cap9, rfl, -, -, -⟩ := hO9.slice)
            have hRow9 := HRow2.out.snoc (ns := way) hO9 hg9 hn9 (hOw.mono (by have := hb1.size; have := HP.out.2.2; have := HD2.out; omega)) (fun k hk => by
              have h1 := (hOw.lt k hk).1
              have h2 := HD2.out
              exact ⟨fun e => by have := (HRow.out.lt (.inl e)).2; omega, fun e => by have := (HRow.out.lt (.inr e)).2; omega⟩)
            have hb12 : Below D1 w5 w9 := hb1.trans ((hb2.mono (by have := hb1.size; have := HP.out.2.2; have := HD2.out; omega)).trans hb9)
            have HRow9 := Lib.hid hRow9
            clear hRow9 hO9 hg9 hn9 hb9 hown HRow2
            go_wp2_with fail
            rw [← HLO9.out]
            go_roundg (go - 1)
            case measure => omega
            case rel =>
              have hlen : (R ++ [way]).length = R.length + 1 := by simp
              refine ⟨i + 1, ao9, cap9, _, R ++ [way], by omega, by rw [hlen], by go_num, Lib.hid (by rw [told_step HX.out, if_pos HLF.out, HR.out, HWY.out]), by omega, Lib.hid (by rw [hlen]; exact HRow9.out), hb12⟩
          · obtain ⟨j, rfl⟩ : ∃ j, gk = j + 1 := ⟨gk - 1, by omega⟩
            obtain rfl : z = (j : Int) + 1 := by omega
            have hji : j < i := by omega
            obtain ⟨y2, hy2⟩ : ∃ y, L[j]? = some y := ⟨_, List.getElem?_eq_getElem (by rw [← HN.out]; omega)⟩
            have HBS := Lib.hid (BackW.step HL.out HBK.out hy2)
            have hwd := way_depth HL.out hy2
            have hxd := HDX.out
            have hlow : Low D1 w5 wr := (Low.of_below hb1 (Nat.le_refl _)).trans (Low.of_below hb2 (by have := hb1.size; have := HP.out.2.2; have := HD2.out; omega))
            obtain ⟨dk, hdk⟩ : ∃ d : Int, d = (y2.2 : Int) - 1 := ⟨_, rfl⟩
            obtain ⟨di, hdi⟩ : ∃ d : Int, d = (x.2 : Int) - 1 := ⟨_, rfl⟩
            obtain ⟨db, doff, hdo, hdB, dk0⟩ := (HDD.out.low hlow).at_ j dk (by unfold dpI; rw [List.getElem?_map, hy2, hdk]; rfl)
            obtain ⟨db2, doff2, hdo2, -, di0⟩ := (HDD.out.low hlow).at_ i di (by unfold dpI; rw [List.getElem?_map, HX.out, hdi]; rfl)
            obtain ⟨rfl, rfl⟩ : db = db2 ∧ doff = doff2 := by rw [hdo] at hdo2; cases hdo2; exact ⟨rfl, rfl⟩
            obtain ⟨lb2, loff2, hlo2, -, cl2⟩ := (HLL.out.low hlow).at_ j (y2.1 : Int) (by unfold fstI; rw [List.getElem?_map, hy2]; rfl)
            obtain ⟨rfl, rfl⟩ : lb = lb2 ∧ loff = loff2 := by have h9 := HLO9.out; rw [hlo2] at h9; cases h9; exact ⟨rfl, rfl⟩
            have HDO := Lib.hid hdo
            have hj0 : (0 : Int) ≤ ((j : Nat) : Int) := by omega
            have hj1 : (0 : Int) < ((j : Nat) : Int) + 1 := by omega
            have hjN : ((j : Nat) : Int) < ((N : Nat) : Int) := by omega
            have hwr : IntKind.i64.wrap ((j : Nat) : Int) = ((j : Nat) : Int) := by rw [IntKind.wrap_i64]; omega
            have hwL : way.length ≤ 1501 := by omega
            have hw2 : IntKind.i64.wrap (di - ((way.length : Nat) : Int)) = di - ((way.length : Nat) : Int) := by rw [IntKind.wrap_i64]; omega
            have hw3 : IntKind.i64.wrap (di - ((way.length : Nat) : Int) + 1) = di - ((way.length : Nat) : Int) + 1 := by rw [IntKind.wrap_i64]; omega
            have HC : Hid (wr.cell? ⟨db, doff + j, none⟩ = some (.int .i64 dk) ∧ wr.cell? ⟨db, doff + i, none⟩ = some (.int .i64 di) ∧ wr.cell? ⟨lb, loff + j, none⟩ = some (.int .i64 (y2.1 : Int))) := Lib.hid ⟨dk0, di0, cl2⟩
            have HDE : Hid (dk = (y2.2 : Int) - 1 ∧ di = (x.2 : Int) - 1) := Lib.hid ⟨hdk, hdi⟩
            have hlW2 : lb < wr.heap.size := by have := hb2.size; have := HD2.out; omega
            rw [hdo]
            clear hz hwd hxd hdo hdo2 hlo2 dk0 di0 cl2 hy2 hdk hdi hlow HBK
            go_upto_region 15 with fail
            refine wp_region_seq (S := fun w' => w'.cell? ⟨db, doff + j, none⟩ = some (.int .i64 dk) ∧ w'.cell? ⟨db, doff + i, none⟩ = some (.int .i64 di)) [(true, 0), (true, 1), (true, 2), (true, 3), (true, 4), (true, 5), (true, 6), (true, 7), (true, 8), (true, 9), (true, 10), (true, 11), (true, 12), (true, 13)] (by kernel_rfl) (by kernel_rfl) (by kernel_rfl) (by kernel_rfl) (by kernel_rfl) (fun d _ _ _ _ h => by cases d <;> exact h) ⟨HC.out.1, HC.out.2.1⟩ (fun _ => ?_)
            simp only [pickOps, List.append_eq, List.cons_append, List.nil_append, List.getElem?_toArray, List.getElem?_cons_succ, List.getElem?_cons_zero]
            have hb : Below wr.heap.size wr wr.drew := (Below.refl _ _).drew
            generalize wr.drew = we at hb ⊢
            replace hOw := hOw.kept hb
            have cl2 := (hb.cell (p := ⟨lb, loff + j, none⟩) hlW2).trans HC.out.2.2
            replace hb2 := hb2.trans (hb.mono (by have := hb2.size; have := HD2.out; omega))
            clear hb HC
            repeat (first | (refine seq_take (v := ?_) (by rfl) ?_ ?_; rotate_left; (· intro w hSw; (try dsimp only at hSw); obtain ⟨dk0, di0⟩ := hSw; go_simp; all_goals with_reducible rfl); (try simp only [Act.put, List.setIfInBounds_toArray, List.set_cons_zero, List.set_cons_succ])) | (refine seq_leave (by rfl) ?_; (try simp only [Act.put, List.setIfInBounds_toArray, List.set_cons_zero, List.set_cons_succ])))
            refine seq_end ?_
            by_cases hc : dk < di - ((way.length : Nat) : Int) + 1
            case pos =>
              have HB2 : Hid (BackW t L i j x ((y2.1 : Int) :: way)) := Lib.hid (by have h9 := HBS.out; rw [if_pos (by rw [← HDE.out.1, ← HDE.out.2]; exact hc)] at h9; exact h9)
              have hO1 := owns_one we (y2.1 : Int) D2 (by have := hb2.size; have := HD2.out; omega)
              have HCW := way_cells hOw (.cells #[.int .i64 (y2.1 : Int)] 3)
              have HDE2 : Hid (D2 ≤ (we.alloc (.cells #[.int .i64 (y2.1 : Int)] 3)).heap.size) := Lib.hid (by have := hb2.size; have := HD2.out; simp; omega)
              clear HBS HDE
              go_upto_region 14 with (at_builtin; refine appX E_ints (us := icel way) hO1 rfl rfl rfl rfl (icel_len way).symm HCW (icel_one _) (by rw [icel_len]; simp; omega) (by rw [icel_len]; unfold maxLen; simp; omega) HDE2.out ?_; intro v9 w9 hO9 hg9 hl9 hk9)
              have hO10 : OwnsK 1 D2 3 w9 v9 ((y2.1 : Int) :: way).length (icel ((y2.1 : Int) :: way)) := by
                have h9 : OwnsK 1 D2 3 w9 v9 ([Value.int .i64 (y2.1 : Int)] ++ icel way).length ([Value.int .i64 (y2.1 : Int)] ++ icel way) := hO9
                have h8 : ([Value.int .i64 (y2.1 : Int)] ++ icel way) = icel ((y2.1 : Int) :: way) := rfl
                rw [h8, icel_len] at h9
                exact h9
              obtain ⟨ao9, cap9, rfl, -, -, -⟩ := hO10.slice
              have hb9 := hb2.trans ((below_grownA hg9).mono (by have := hb2.size; have := HD2.out; omega))
              clear hO9 hg9 hl9 hk9 cl2 hO1 HCW
              go_wp2_with fail
              rw [← HDO.out]
              go_roundg j
              case measure => omega
              case rel => exact ⟨(y2.1 : Int) :: way, ao9, cap9, _, by first | rfl | go_num, rfl, rfl, hO10, HB2, by simp; omega, hb9⟩
            case neg =>
              have HB2 : Hid (BackW t L i j x way) := Lib.hid (by have h9 := HBS.out; rw [if_neg (by rw [← HDE.out.1, ← HDE.out.2]; exact hc)] at h9; exact h9)
              clear HBS HDE cl2
              go_wp2_with fail
              rw [← HDO.out]
              go_roundg j
              case measure => omega
              case rel => exact ⟨way, _, _, _, by first | rfl | go_num, rfl, rfl, hOw, HB2, by omega, hb2⟩
    case neg =>
      have hii : ¬ ((i : Nat) : Int) < ((N : Nat) : Int) := by omega
      have HRP : Hid (R = pathsT t) := Lib.hid (by rw [HR.out, List.take_of_length_le (by rw [← HN.out]; omega), HL.out]; rfl)
      have hR15 : R.length ≤ 1500 := by omega
      obtain ⟨w6, hwE⟩ : ∃ W, W = wr := ⟨_, rfl⟩
      subst hwE
      replace hbt := hbt.below hb1 HP.out.2.1
      replace HT : Hid (TrIs B w6 t no nc) := Lib.hid (HT.out.low (Low.of_below hb1 HP.out.1))
      replace HBw : Hid (B ≤ w6.heap.size) := Lib.hid (by have := hb1.size; have := HP.out; omega)
      replace hbf := hbf.trans (hb1.mono (by have := hbf.size; have := HP.out; omega))
      replace HLL : Hid (IntsB D1 w6 lo lc (fstI L)) := Lib.hid (HLL.out.low (Low.of_below hb1 (Nat.le_refl _)))
      replace HDD : Hid (IntsB D1 w6 bo bc (dpI L)) := Lib.hid (HDD.out.low (Low.of_below hb1 (Nat.le_refl _)))
      obtain ⟨kb, hkb⟩ : ∃ k, k = w6.heap.size := ⟨_, rfl⟩
      have HD1 : Hid (D1 ≤ kb ∧ B ≤ kb ∧ w.heap.size ≤ kb ∧ pt < kb) := Lib.hid (by have := hb1.size; have := HP.out; have := HBE.out; omega)
      obtain ⟨w7, hw7⟩ : ∃ W, W = w6.alloc (.cells #[.slice none 0 0, .slice none 0 0, .slice none 0 0, .slice none 0 0, .slice none 0 0, .slice none 0 0, .slice none 0 0, .slice none 0 0, .slice none 0 0, .slice none 0 0, .slice none 0 0, .slice none 0 0] 44) := ⟨_, rfl⟩
      have hb67 : Below w6.heap.size w6 w7 := by rw [hw7]; exact (Below.refl _ w6).alloc (Nat.le_refl _) _
      have HBK : Hid (BkIs kb kb (fun _ => False) w7) := Lib.hid (by rw [hw7, hkb]; exact BkIs.new w6 _)
      have HKW : Hid (kb < w7.heap.size) := Lib.hid (by rw [hw7, hkb]; simp)
      have HAK : Hid (∀ k, (Value.slice ao R.length ac).ownBlock = some k ∨ OfL xs k → k < kb) := Lib.hid (fun k hk => by rw [hkb]; exact (HRow.out.lt hk).2)
      have HW := Lib.hid hw7
      clear hw7
      go_upto_region 19 with fail
      rw [← HW.out, ← hkb]
      clear HW
      replace hbt := hbt.kept hb67
      replace HT : Hid (TrIs B w7 t no nc) := Lib.hid (HT.out.low (Low.of_below hb67 HBw.out))
      replace hbf := hbf.trans (hb67.mono hbf.size)
      replace HLL : Hid (IntsB D1 w7 lo lc (fstI L)) := Lib.hid (HLL.out.low (Low.of_below hb67 (by rw [← hkb]; exact HD1.out.1)))
      replace HDD : Hid (IntsB D1 w7 bo bc (dpI L)) := Lib.hid (HDD.out.low (Low.of_below hb67 (by rw [← hkb]; exact HD1.out.1)))
      replace HRow : Hid (RowsL D1 w7 (.slice ao R.length ac) xs R) := Lib.hid (HRow.out.kept hb67)
      clear hb67 hkb hb1 HBw HP HR
      refine wp_region_seq (S := fun w' => BoxL w' pt [.slice no t.nodes.length nc, .int .i64 t.ms, .int .i64 t.nt]) [(true, 0), (true, 2), (false, 1), (false, 3), (true, 4), (true, 5)] (by kernel_rfl) (by kernel_rfl) (by kernel_rfl) (by kernel_rfl) (by kernel_rfl) (fun d _ _ _ _ h => by cases d <;> exact h) hbt.drew (fun _ => ?_)
      simp only [pickOps, List.append_eq, List.cons_append, List.nil_append, List.getElem?_toArray, List.getElem?_cons_succ, List.getElem?_cons_zero]
      have hb : Below w7.heap.size w7 w7.drew := (Below.refl _ _).drew
      generalize w7.drew = wd at hb ⊢
      have hbtd := hbt.kept hb
      repeat (first | (refine seq_take (v := ?_) (by rfl) ?_ ?_; rotate_left; (· intro w hSw; (try dsimp only at hSw); have e0 := hSw.cell 0 _ rfl; have e1 := hSw.cell 1 _ rfl; have e2 := hSw.cell 2 _ rfl; clear hSw; go_simp; all_goals with_reducible rfl); (try simp only [Act.put, List.setIfInBounds_toArray, List.set_cons_zero, List.set_cons_succ])) | (refine seq_leave (by rfl) ?_; (try simp only [Act.put, List.setIfInBounds_toArray, List.set_cons_zero, List.set_cons_succ])))
      refine seq_step (by rfl) (fun K hK => ?_)
      go_simp
      go_at_call 10
      (with_reducible refine (treeWalk_any no t.nodes.length nc t.ms t.nt _).mono ?_)
      rintro e w11 ⟨rfl, hwp⟩
      have hb2 : Below wd.heap.size wd w11 := by rw [hwp]; exact (Below.refl _ _).alloc (Nat.le_refl _) _
      obtain ⟨pw, hpw⟩ : ∃ q, q = wd.heap.size := ⟨_, rfl⟩
      have hbw : BoxL w11 pw [.slice no t.nodes.length nc, .int .i64 t.ms, .int .i64 t.nt] := by rw [hwp, hpw]; exact BoxL.new wd _ _
      rw [← hpw]
      have HPW2 : Hid (w7.heap.size ≤ pw) := Lib.hid (by rw [hpw]; exact hb.size)
      replace hbtd := hbtd.kept hb2
      replace hb := hb.trans (hb2.mono hb.size)
      clear hwp hpw hb2
      first | refine hK.out _ _ hbtd (fun _ => ?_) | (go_wp2_with fail; refine hK.out _ _ hbtd (fun _ => ?_))
      clear hK K
      (try simp only [Act.put, List.setIfInBounds_toArray, List.set_cons_zero, List.set_cons_succ])
      repeat (first | (refine seq_take (v := ?_) (by rfl) ?_ ?_; rotate_left; (· intro w hSw; (try dsimp only at hSw); have e0 := hSw.cell 0 _ rfl; have e1 := hSw.cell 1 _ rfl; have e2 := hSw.cell 2 _ rfl; clear hSw; go_simp; all_goals with_reducible rfl); (try simp only [Act.put, List.setIfInBounds_toArray, List.set_cons_zero, List.set_cons_succ])) | (refine seq_leave (by rfl) ?_; (try simp only [Act.put, List.setIfInBounds_toArray, List.set_cons_zero, List.set_cons_succ])))
      refine seq_step (by rfl) (fun K hK => ?_)
      go_simp
      go_at_call 11
      (with_reducible refine (paths_any no t.nodes.length nc t.ms t.nt _).mono ?_)
      rintro e w8 ⟨rfl, hwp⟩
      have hb2 : Below w11.heap.size w11 w8 := by rw [hwp]; exact (Below.refl _ _).alloc (Nat.le_refl _) _
      obtain ⟨pp, hpw⟩ : ∃ q, q = w11.heap.size := ⟨_, rfl⟩
      have hbp : BoxL w8 pp [.slice no t.nodes.length nc, .int .i64 t.ms, .int .i64 t.nt] := by rw [hwp, hpw]; exact BoxL.new w11 _ _
      rw [← hpw]
      have HPP : Hid (w7.heap.size ≤ pp) := Lib.hid (by rw [hpw]; exact hb.size)
      replace hbtd := hbtd.kept hb2
      replace hbw := hbw.kept hb2
      replace hb := hb.trans (hb2.mono hb.size)
      clear hwp hpw hb2
      first | refine hK.out _ _ hbtd (fun _ => ?_) | (go_wp2_with fail; refine hK.out _ _ hbtd (fun _ => ?_))
      clear hK K
      (try simp only [Act.put, List.setIfInBounds_toArray, List.set_cons_zero, List.set_cons_succ])
      repeat (first | (refine seq_take (v := ?_) (by rfl) ?_ ?_; rotate_left; (· intro w hSw; (try dsimp only at hSw); have e0 := hSw.cell 0 _ rfl; have e1 := hSw.cell 1 _ rfl; have e2 := hSw.cell 2 _ rfl; clear hSw; go_simp; all_goals with_reducible rfl); (try simp only [Act.put, List.setIfInBounds_toArray, List.set_cons_zero, List.set_cons_succ])) | (refine seq_leave (by rfl) ?_; (try simp only [Act.put, List.setIfInBounds_toArray, List.set_cons_zero, List.set_cons_succ])))
      refine seq_end ?_
      have hsn1 := eq_seqnil2 w8 pw
      have hsn2 := eq_seqnil3 w8 pp
      go_wp2_with fail
      clear hsn1 hsn2
      replace HT : Hid (TrIs B w8 t no nc) := Lib.hid (HT.out.low (Low.of_below hb (by have := HKW.out; have := HD1.out; omega)))
      replace hbf := hbf.trans (hb.mono hbf.size)
      replace HLL : Hid (IntsB D1 w8 lo lc (fstI L)) := Lib.hid (HLL.out.low (Low.of_below hb (by have := HKW.out; have := HD1.out; omega)))
      replace HDD : Hid (IntsB D1 w8 bo bc (dpI L)) := Lib.hid (HDD.out.low (Low.of_below hb (by have := HKW.out; have := HD1.out; omega)))
      replace HRow : Hid (RowsL D1 w8 (.slice ao R.length ac) xs R) := Lib.hid (HRow.out.kept hb)
      replace HBK : Hid (BkIs kb kb (fun _ => False) w8) := Lib.hid (HBK.out.kept hb)
      obtain ⟨D8, hD8⟩ : ∃ d, d = w8.heap.size := ⟨_, rfl⟩
      have HD8 : Hid (D8 = w8.heap.size ∧ kb < pw ∧ kb < pp ∧ pw < D8 ∧ pp < D8 ∧ kb < D8) := Lib.hid (by have := hb.size; have := HKW.out; have := HPW2.out; have := HPP.out; have := hbw.lt; have := hbp.lt; omega)
      clear hb hbt hbtd HPW2 HPP HKW hD8
      go_loopg [14, 15] N (fun gg bv iv wr => ∃ (i : Nat) (uo : Option Addr) (uc : Nat), i + gg = N ∧ bv = .slice uo i uc ∧ iv = .int .i64 (i : Int) ∧ OwnsK 1 D8 3 wr (.slice uo i uc) i (icel (sndI (L.take i))) ∧ Below D8 w8 wr)
      case atStart => exact ⟨0, none, 0, by omega, rfl, rfl, OwnsK.nil _ _ _ _, Below.refl _ _⟩
      case round =>
        clear hil hii hi
        obtain ⟨i, uo, uc, hi, rfl, rfl, hOb, hb⟩ := hrel
        by_cases hil : i < N
        case pos =>
          have hii : ((i : Nat) : Int) < ((N : Nat) : Int) := by omega
          have hi0 : (0 : Int) ≤ ((i : Nat) : Int) := by omega
          obtain ⟨x, hx9⟩ : ∃ x, L[i]? = some x := ⟨_, List.getElem?_eq_getElem (by rw [← HN.out]; exact hil)⟩
          obtain ⟨dk, hdk⟩ : ∃ d : Int, d = (x.2 : Int) - 1 := ⟨_, rfl⟩
          have hwd := way_depth HL.out hx9
          have hw1 : IntKind.i64.wrap (dk + 1) = (x.2 : Int) := by rw [IntKind.wrap_i64]; omega
          obtain ⟨db, doff, hdo, hdB, dk0⟩ := (HDD.out.low (Low.of_below hb (by have := HD8.out; have := HD1.out; omega))).at_ i dk (by unfold dpI; rw [List.getElem?_map, hx9, hdk]; rfl)
          have HDO := Lib.hid hdo
          have HX := Lib.hid hx9
          have hD8w : D8 ≤ wr.heap.size := by have := hb.size; have := HD8.out; omega
          rw [hdo]
          clear hdo hx9 hdk hwd hdB
          go_upto_region 25 with (at_builtin; refine append1KO E_intT hOb rfl rfl rfl rfl rfl (by simp [Value.oneCell']) (by omega) (by unfold maxLen; omega) hD8w ?_; intro v9 w9 hO9 hb9 hg9 hn9; obtain ⟨uo9, uc9, rfl, -, -, -⟩ := hO9.slice)
          have hO10 : OwnsK 1 D8 3 w9 (.slice uo9 (i + 1) uc9) (i + 1) (icel (sndI (L.take (i + 1)))) := by
            rw [take_pre HX.out, sndI_app, icel_app]
            exact hO9
          replace hb := hb.trans hb9
          clear hO9 hg9 hn9 hb9 dk0 hw1
          go_wp2_with fail
          rw [← HDO.out]
          go_roundg (gk - 1)
          case measure => omega
          case rel => exact ⟨i + 1, uo9, uc9, by omega, rfl, by go_num, hO10, hb⟩
        case neg =>
          have hii : ¬ ((i : Nat) : Int) < ((N : Nat) : Int) := by omega
          obtain rfl : i = N := by omega
          obtain ⟨w9, hwE⟩ : ∃ W, W = wr := ⟨_, rfl⟩
          subst hwE
          have HOB : Hid (OwnsK 1 D8 3 w9 (.slice uo i uc) i (icel (sndI L))) := Lib.hid (by have h9 := hOb; rw [List.take_of_length_le (by rw [HN.out]; exact Nat.le_refl _)] at h9; exact h9)
          have hB8 := HD8.out
          have hB1 := HD1.out
          replace HT : Hid (TrIs B w9 t no nc) := Lib.hid (HT.out.low (Low.of_below hb (by omega)))
          replace hbf := hbf.trans (hb.mono (by omega))
          replace HLL : Hid (IntsB D1 w9 lo lc (fstI L)) := Lib.hid (HLL.out.low (Low.of_below hb (by omega)))
          replace HRow : Hid (RowsL D1 w9 (.slice ao R.length ac) xs R) := Lib.hid (HRow.out.keep (Keep.of_below (S := fun _ => False) (by rw [← hB8.1]; exact hb)) (fun _ _ h => h))
          replace HBK : Hid (BkIs kb kb (fun _ => False) w9) := Lib.hid (HBK.out.keep (Keep.of_below (S := fun _ => False) (by rw [← hB8.1]; exact hb)) id (fun _ h => h.elim))
          have HBP : Hid (BoxL w9 pw [.slice no t.nodes.length nc, .int .i64 t.ms, .int .i64 t.nt] ∧ BoxL w9 pp [.slice no t.nodes.length nc, .int .i64 t.ms, .int .i64 t.nt]) := Lib.hid ⟨hbw.below hb (by omega), hbp.below hb (by omega)⟩
          obtain ⟨D9, hD9⟩ : ∃ d, d = w9.heap.size := ⟨_, rfl⟩
          have HD9 : Hid (D9 = w9.heap.size ∧ D8 ≤ D9) := Lib.hid (by have := hb.size; omega)
          clear hb hOb hbw hbp hB8 hB1 hD9 HDD hil hi
          go_upto_if 122 with fail
          obtain ⟨X, hX⟩ : ∃ X, X = cutL stop L := ⟨_, rfl⟩
          obtain ⟨Z, hZ⟩ : ∃ X, X = cutL stop R := ⟨_, rfl⟩
          have HXX := Lib.hid hX
          have HZZ := Lib.hid hZ
          have HXl : Hid (X.length = cutN stop i) := Lib.hid (by rw [hX, cutL_len, HN.out])
          have HZl : Hid (Z.length = cutN stop R.length) := Lib.hid (by rw [hZ, cutL_len])
          clear hX hZ
          go_cut [16, 17] from 121 to 128 (fun nv mv wx => nv = .int .i64 (X.length : Int) ∧ mv = .int .i64 (Z.length : Int) ∧ wx = w9)
          case first =>
            by_cases hs : 0 < stop
            case pos =>
              have a1 := cutN_pos i hs
              have a2 := cutN_pos R.length hs
              have H1 : Hid (min ((i : Nat) : Int) stop = (X.length : Int)) := Lib.hid (by rw [HXl.out]; exact a1.symm)
              have H2 : Hid (min ((R.length : Nat) : Int) stop = (Z.length : Int)) := Lib.hid (by rw [HZl.out]; exact a2.symm)
              clear a1 a2
              go_wp2_with fail
              go_meet
              case rel => exact ⟨congrArg (Value.int .i64) H1.out, congrArg (Value.int .i64) H2.out, rfl⟩
            case neg =>
              have H1 : Hid (((i : Nat) : Int) = (X.length : Int)) := Lib.hid (by rw [HXl.out, cutN_neg i hs])
              have H2 : Hid (((R.length : Nat) : Int) = (Z.length : Int)) := Lib.hid (by rw [HZl.out, cutN_neg _ hs])
              go_wp2_with fail
              go_meet
              case rel => exact ⟨congrArg (Value.int .i64) H1.out, congrArg (Value.int .i64) H2.out, rfl⟩
          case rest =>
          obtain ⟨rfl, rfl, hwc⟩ := hcut
          subst hwc
          obtain ⟨w9, hwE⟩ : ∃ W, W = wc := ⟨_, rfl⟩
          subst hwE
          go_wp2_with fail
          go_loopg [18] 2 (fun gg rv wr => ∃ (r : Nat) (S : Nat → Prop), r + gg = 2 ∧ rv = .int .i64 (r : Int) ∧ Hid (BkIs kb kb S wr) ∧ Hid (∀ k, S k → D9 ≤ k ∧ k < wr.heap.size) ∧ Hid (Keep (fun k => k = kb) w9 wr))
          case atStart => exact ⟨0, fun _ => False, by omega, rfl, HBK, Lib.hid (fun k h => h.elim), Lib.hid (Keep.refl _ _)⟩
          clear HBK
          case round =>
            obtain ⟨r, S, hr, rfl, HBK, HSS, HKP⟩ := hrel
            have hB8 := HD8.out
            have hB1 := HD1.out
            have hB9 := HD9.out
            have hszr := HKP.out.size
            have HB9 : Hid (kb < D8 ∧ D8 ≤ D9 ∧ D9 = w9.heap.size ∧ D9 ≤ wr.heap.size ∧ pw < D8 ∧ pp < D8 ∧ kb < pw ∧ kb < pp ∧ D1 ≤ kb ∧ B ≤ kb) := Lib.hid (by omega)
            clear hB8 hB1 hB9 hszr
            by_cases hrl : r < 2
            case pos =>
              have hrr : ((r : Nat) : Int) < 2 := by omega
              have hlow := low_keep HKP.out (by have := HB9.out; omega)
              have hTr := HT.out.low (hlow.mono HB9.out.2.2.2.2.2.2.2.2.2)
              have hbw := HBP.out.1.keep HKP.out (by have := HB9.out; omega)
              have hbp := HBP.out.2.keep HKP.out (by have := HB9.out; omega)
              have hBr : B ≤ wr.heap.size := by have := HB9.out; omega
              have hcall := walked_any (walkT t) stop B pw wr (twalk1_iter B t no nc pw wr hTr hBr hbw.lt HSZ.out hbw) hBr hbw.lt (by have := walk_len t; have := HSZ.out; omega)
              rw [← HL.out, ← HXX.out] at hcall
              go_wp2_with fail
              refine hcall.mono ?_
              rintro e wx ⟨xo, n, xc, yo, yc, rfl, HNN, hOx, hOy, hb⟩
              obtain rfl : n = X.length := HNN.out
              have hTx := hTr.low (Low.of_below hb hBr)
              have hBx := Nat.le_trans hBr hb.size
              have hbpx := hbp.kept hb
              have hcall2 := waysS_any (pathsT t) Z stop B pp wx (paths1_iterS B t no nc pp wx hTx hBx hbpx.lt HSZ.out hbpx) hBx hbpx.lt (by rw [← HRP.out]; omega) (Lib.hid (by rw [HZZ.out, HRP.out]))
              have HOX := Lib.hid hOx
              have HOY := Lib.hid hOy
              have HBX := Lib.hid hb
              clear hcall hTr hbw hbp hlow hBr hTx hBx hbpx HNN hOx hOy hb
              go_wp2_with fail
              refine hcall2.mono ?_
              rintro e wy ⟨⟨zo, zc, zs, rfl, z1, z2, z3, z4⟩, hb2⟩
              have HZR : Hid (RowsL wx.heap.size wy (.slice zo Z.length zc) zs Z) := Lib.hid ⟨z1, z2, z3, z4⟩
              have HBY := Lib.hid hb2
              clear hcall2 z1 z2 z3 z4 hb2
              have hKy : Keep (fun k => k = kb) w9 wy := (HKP.out.then_below HBX.out).then_below HBY.out
              have hlow := low_keep hKy (by have := HB9.out; omega)
              have hszy := hKy.size
              have i1 : IntsI .i64 wy (.slice xo X.length xc) (fstI X) := ints_owns (HOX.out.kept HBY.out) (fstI_len X)
              have i2 : IntsI .i64 wy (.slice yo X.length yc) (sndI X) := ints_owns (HOY.out.kept HBY.out) (sndI_len X)
              have hXL : X <+: L := by rw [HXX.out]; exact cutL_pre _ _
              have i3 : IntsI .i64 wy (.slice lo X.length lc) (fstI X) := ints_cut (HLL.out.low (hlow.mono HB9.out.2.2.2.2.2.2.2.2.1)) (by have := HB9.out; omega) (hXL.map _) (fstI_len X)
              have hObY : OwnsK 1 D8 3 wy (.slice uo i uc) i (icel (sndI L)) := HOB.out.keep hKy (fun k hk e => by have := (HOB.out.lt k hk).1; have := HB9.out; omega)
              have i4 : IntsI .i64 wy (.slice uo X.length uc) (sndI X) := ints_cut (IntsB.of_owns hObY (by rw [sndI_len, HN.out])) (Nat.le_refl _) (hXL.map _) (sndI_len X)
              have hc1 := HLL.out.cap
              rw [fstI_len, ← HN.out] at hc1
              have hc2 : i ≤ uc ∧ uc ≤ maxLen := by obtain ⟨ao9, cap9, hv, h1, h2, -⟩ := hObY.slice; cases hv; exact ⟨h1, h2⟩
              have hXi : X.length ≤ i := by rw [HN.out]; exact hXL.length_le
              have q1 : (0 : Int) ≤ ((X.length : Nat) : Int) := by omega
              have q2 : ((X.length : Nat) : Int) ≤ ((lc : Nat) : Int) := by omega
              have q3 : ((X.length : Nat) : Int) ≤ ((uc : Nat) : Int) := by omega
              have HC1 := Lib.hid hc1
              have HC2 := Lib.hid hc2
              have HKY := Lib.hid hKy
              clear hKy hlow hszy hXL hObY hc1 hc2
              go_upto_region 35 with fail
              go_cut [161] from 142 to 161 (fun c wx9 => c = .bool false ∧ Below wy.heap.size wy wx9)
              case first =>
                go_wp2_with (first | (go_at_call 14; (with_reducible refine (same_ints _ _ (fstI X) _ i1 i3).mono ?_); rintro e wz ⟨rfl, hbz⟩; have i2z := i2.below hbz; have i4z := i4.below hbz) | (go_at_call 14; (with_reducible refine (same_ints _ _ (sndI X) _ i2z i4z).mono ?_); rintro e wz2 ⟨rfl, hbz2⟩))
                go_meet
                case rel => exact ⟨rfl, hbz.trans (hbz2.mono hbz.size)⟩
              case rest =>
                obtain ⟨rfl, hbz⟩ := hcut
                obtain ⟨wz, hwE⟩ : ∃ W, W = wc := ⟨_, rfl⟩
                subst hwE
                have HKZ : Hid (Keep (fun k => k = kb) w9 wz) := Lib.hid (HKY.out.then_below hbz)
                obtain ⟨Dx, hDx⟩ : ∃ d, d = wx.heap.size := ⟨_, rfl⟩
                have hsx : wr.heap.size ≤ Dx := by rw [hDx]; exact HBX.out.size
                have HBKz : Hid (BkIs kb kb S wz) := Lib.hid (((HBK.out.kept HBX.out).kept HBY.out).kept hbz)
                have HZL : Hid (ZLeft Dx S wz (.slice zo Z.length zc) zs Z 0) := Lib.hid (ZLeft.start (by rw [hDx]; exact HZR.out.kept hbz) (fun k hk => by have := (HSS.out k hk).2; omega))
                have HSz : Hid (∀ k, S k → D9 ≤ k ∧ k < wz.heap.size) := Lib.hid (fun k hk => by have h1 := HSS.out k hk; have h2 := HBX.out.size; have h3 := HBY.out.size; have h4 := hbz.size; omega)
                have HDX : Hid (kb < Dx ∧ D9 ≤ Dx) := Lib.hid (by have := HB9.out; omega)
                have HZP : Hid (Z <+: R) := Lib.hid (by rw [HZZ.out]; exact cutL_pre _ _)
                clear i1 i2 i3 i4 q1 q2 q3 hXi hbz HBX HBY HZR HOX HOY HKY HBK HSS HKP hDx hsx
                obtain ⟨go, hgo⟩ : ∃ go, go = gk := ⟨_, rfl⟩
                subst hgo
                go_wp2_with fail
                go_loopg [22] Z.length (fun gg iv wr => ∃ (q : Nat) (S : Nat → Prop), q + gg = Z.length ∧ iv = .int .i64 (q : Int) ∧ Hid (BkIs kb kb S wr) ∧ Hid (∀ k, S k → D9 ≤ k ∧ k < wr.heap.size) ∧ Hid (ZLeft Dx S wr (.slice zo Z.length zc) zs Z q) ∧ Hid (Keep (fun k => k = kb) w9 wr))
                case atStart => exact ⟨0, S, by omega, rfl, HBKz, HSz, HZL, HKZ⟩
                clear HBKz HSz HZL HKZ
                case round =>
                  clear S
                  obtain ⟨q, S, hq, rfl, HBK, HSS, HZL, HKP⟩ := hrel
                  by_cases hql : q < Z.length
                  case pos =>
                    have hqq : ((q : Nat) : Int) < ((Z.length : Nat) : Int) := by omega
                    have hq0 : (0 : Int) ≤ ((q : Nat) : Int) := by omega
                    obtain ⟨v, hv⟩ : ∃ v, zs[q]? = some v := ⟨_, List.getElem?_eq_getElem (by rw [HZL.out.len]; exact hql)⟩
                    obtain ⟨ns, hns⟩ : ∃ ns, Z[q]? = some ns := ⟨_, List.getElem?_eq_getElem hql⟩
                    have hOv := HZL.out.r q v ns (Nat.le_refl _) hv hns
                    obtain ⟨vo, vc, rfl, -, -, -⟩ := hOv.slice
                    obtain ⟨gz, zc9, hz9, -⟩ := HZL.out.o.some98 (by omega)
                    have hzo : zo = some ⟨gz, 0, none⟩ := by cases hz9; rfl
                    have hZRl : Z.length ≤ R.length := HZP.out.length_le
                    have hqR : ((q : Nat) : Int) < ((R.length : Nat) : Int) := by omega
                    have hRn : R[q]? = some ns := by obtain ⟨rr, hrr⟩ := HZP.out; rw [← hrr, List.getElem?_append_left hql]; exact hns
                    have hnl : ns.length ≤ 1000000 := by
                      have h1 := paths_short t ns (by rw [← HRP.out]; exact List.mem_of_getElem? hRn)
                      have h2 := walk_len t
                      have h3 := HSZ.out
                      omega
                    have ez : wr.cell? ⟨gz, q, none⟩ = some (.slice vo ns.length vc) := by have h9 := HZL.out.o; rw [hzo] at h9; exact h9.cellAt hv
                    have hBs := HB9.out
                    have hszr := HKP.out.size
                    have hKN : ∀ k, (Value.slice vo ns.length vc).ownBlock = some k → ¬ S k ∧ k ≠ kb := fun k hk => ⟨HZL.out.b q _ k (Nat.le_refl _) hv hk, fun e => by have := (hOv.lt k hk).1; have := HDX.out; omega⟩
                    have hcall := bookInts_any kb kb S (.slice vo ns.length vc) ns wr HBK.out (by omega) (hOv.mono (by have := HDX.out; omega)) hnl hKN
                    obtain ⟨u, hu⟩ : ∃ u, xs[q]? = some u := ⟨_, List.getElem?_eq_getElem (by rw [HRow.out.len]; omega)⟩
                    have hOu := HRow.out.row q u ns hu hRn
                    obtain ⟨ro, rc, rfl, -, -, -⟩ := hOu.slice
                    obtain ⟨ga, ac9, ha9, -⟩ := HRow.out.own.some98 (by omega)
                    have hao : ao = some ⟨ga, 0, none⟩ := by cases ha9; rfl
                    have HZO := Lib.hid hzo
                    have HAO := Lib.hid hao
                    have HV := Lib.hid hv
                    have HRN := Lib.hid hRn
                    have HU := Lib.hid hu
                    have HOV := Lib.hid hOv
                    have HOU := Lib.hid hOu
                    have HKN := Lib.hid hKN
                    rw [hzo, hao]
                    clear hv hns hOv hz9 hZRl hRn hnl hBs hszr hKN hu hOu ha9
                    go_upto_region 41 with (go_at_call 15; refine hcall.mono ?_; rintro e wi ⟨rfl, ⟨S2, hBK2, hS2⟩, hK2⟩)
                    clear hcall ez
                    have hKi : Keep (fun k => k = kb) w9 wi := HKP.out.trans (hK2.mono (fun k _ h => h)) (fun k hk h => by rcases h with h | h; exact h; have := (HSS.out k h).1; have := HB9.out; omega)
                    have HZL2 : Hid (ZLeft Dx (fun k => S2 k ∧ k < wi.heap.size) wi (.slice zo Z.length zc) zs Z (q + 1)) := Lib.hid (HZL.out.step HV.out hK2 HDX.out.1 (fun k hk => hS2 k hk.1))
                    have HBK2 : Hid (BkIs kb kb (fun k => S2 k ∧ k < wi.heap.size) wi) := Lib.hid hBK2.trim
                    have HSS2 : Hid (∀ k, S2 k ∧ k < wi.heap.size → D9 ≤ k ∧ k < wi.heap.size) := Lib.hid (fun k hk => ⟨by
                      rcases hS2 k hk.1 with h | h | h
                      · exact (HSS.out k h).1
                      · have h1 := (HOV.out.lt k h).1; have h2 := HDX.out; omega
                      · have h1 := HKP.out.size; have h2 := HB9.out; omega, hk.2⟩)
                    have hOvi := HOV.out.keep hK2 (fun k hk e => by
                      rcases e with e | e
                      · exact (HKN.out k hk).2 e
                      · exact (HKN.out k hk).1 e)
                    have hRi := HRow.out.keep hKi (fun k hk e => by have := HAK.out k hk; omega)
                    have hOui := hRi.row q _ ns HU.out HRN.out
                    have ez2 : wi.cell? ⟨gz, q, none⟩ = some (.slice vo ns.length vc) := by have h9 := HZL2.out.o; rw [hzo] at h9; exact h9.cellAt HV.out
                    have ea : wi.cell? ⟨ga, q, none⟩ = some (.slice ro ns.length rc) := by have h9 := hRi.own; rw [hao] at h9; exact h9.cellAt HU.out
                    have j1 : IntsI .i64 wi (.slice vo ns.length vc) ns := ints_owns hOvi rfl
                    have j2 : IntsI .i64 wi (.slice ro ns.length rc) ns := ints_owns hOui rfl
                    have HKI := Lib.hid hKi
                    clear hBK2 hS2 hK2 hOvi hRi hOui hKi HZL HSS HKP HBK HKN HOV HOU hzo hao
                    refine wp_region_seq (S := fun w' => w'.cell? ⟨gz, q, none⟩ = some (.slice vo ns.length vc) ∧ w'.cell? ⟨ga, q, none⟩ = some (.slice ro ns.length rc)) [(true, 0), (true, 1), (true, 2), (true, 3), (true, 4), (true, 5), (true, 6), (true, 7), (false, 8), (true, 9)] (by kernel_rfl) (by kernel_rfl) (by kernel_rfl) (by kernel_rfl) (by kernel_rfl) (fun d _ _ _ _ h => by cases d <;> exact h) ⟨ez2, ea⟩ (fun _ => ?_)
                    simp only [pickOps, List.append_eq, List.cons_append, List.nil_append, List.getElem?_toArray, List.getElem?_cons_succ, List.getElem?_cons_zero]
                    have hb : Below wi.heap.size wi wi.drew := (Below.refl _ _).drew
                    generalize wi.drew = wd9 at hb ⊢
                    have ez3 := ez2
                    have ea3 := ea
                    replace ez2 : wd9.cell? ⟨gz, q, none⟩ = some (.slice vo ns.length vc) := (hb.cell (p := ⟨gz, q, none⟩) (World.block_lt_of_cell? wi ⟨gz, q, none⟩ ez3)).trans ez3
                    replace ea : wd9.cell? ⟨ga, q, none⟩ = some (.slice ro ns.length rc) := (hb.cell (p := ⟨ga, q, none⟩) (World.block_lt_of_cell? wi ⟨ga, q, none⟩ ea3)).trans ea3
                    replace j1 := j1.below hb
                    replace j2 := j2.below hb
                    clear ez3 ea3
                    repeat (first | (refine seq_take (v := ?_) (by rfl) ?_ ?_; rotate_left; (· intro w hSw; (try dsimp only at hSw); obtain ⟨ez2, ea⟩ := hSw; go_simp; all_goals with_reducible rfl); (try simp only [Act.put, List.setIfInBounds_toArray, List.set_cons_zero, List.set_cons_succ])) | (refine seq_leave (by rfl) ?_; (try simp only [Act.put, List.setIfInBounds_toArray, List.set_cons_zero, List.set_cons_succ])))
                    refine seq_step (by rfl) (fun K hK => ?_)
                    go_simp
                    go_at_call 14
                    (with_reducible refine (same_ints _ _ ns _ j1 j2).mono ?_)
                    rintro e wj ⟨rfl, hbj⟩
                    have ez3 := ez2
                    have ea3 := ea
                    replace ez2 : wj.cell? ⟨gz, q, none⟩ = some (.slice vo ns.length vc) := (hbj.cell (p := ⟨gz, q, none⟩) (World.block_lt_of_cell? wd9 ⟨gz, q, none⟩ ez3)).trans ez3
                    replace ea : wj.cell? ⟨ga, q, none⟩ = some (.slice ro ns.length rc) := (hbj.cell (p := ⟨ga, q, none⟩) (World.block_lt_of_cell? wd9 ⟨ga, q, none⟩ ea3)).trans ea3
                    have HBJ : Hid (Below wi.heap.size wi wj) := Lib.hid (hb.trans (hbj.mono hb.size))
                    clear ez3 ea3 hb hbj j1 j2
                    first | refine hK.out _ _ ⟨ez2, ea⟩ (fun _ => ?_) | (go_wp2_with fail; refine hK.out _ _ ⟨ez2, ea⟩ (fun _ => ?_))
                    clear hK K
                    (try simp only [Act.put, List.setIfInBounds_toArray, List.set_cons_zero, List.set_cons_succ])
                    repeat (first | (refine seq_take (v := ?_) (by rfl) ?_ ?_; rotate_left; (· intro w hSw; (try dsimp only at hSw); obtain ⟨ez2, ea⟩ := hSw; go_simp; all_goals with_reducible rfl); (try simp only [Act.put, List.setIfInBounds_toArray, List.set_cons_zero, List.set_cons_succ])) | (refine seq_leave (by rfl) ?_; (try simp only [Act.put, List.setIfInBounds_toArray, List.set_cons_zero, List.set_cons_succ])))
                    refine seq_end ?_
                    clear ez2 ea
                    go_wp2_with fail
                    rw [← HZO.out, ← HAO.out]
                    go_roundg (gk - 1)
                    case measure => omega
                    case rel => exact ⟨q + 1, fun k => S2 k ∧ k < wi.heap.size, by omega, by go_num, Lib.hid (HBK2.out.kept HBJ.out), Lib.hid (fun k hk => by have h1 := HSS2.out k hk; have h2 := HBJ.out.size; omega), Lib.hid (HZL2.out.kept HBJ.out), Lib.hid (HKI.out.then_below HBJ.out)⟩
                  case neg =>
                    have hqq : ¬ ((q : Nat) : Int) < ((Z.length : Nat) : Int) := by omega
                    go_wp2_with fail
                    go_roundg (go - 1)
                    case measure => omega
                    case rel => exact ⟨r + 1, S, by omega, by go_num, HBK, HSS, HKP⟩
            case neg =>
              have hrr : ¬ ((r : Nat) : Int) < 2 := by omega
              have hcall := bookApart_any kb kb S wr HBK.out (by have := HB9.out; omega)
              go_wp2_with fail
              refine hcall.mono ?_
              rintro e wa ⟨rfl, hba⟩
              go_wp2_with fail
              go_ret
              exact ⟨ret_one rfl, hbf.trans ((HKP.out.below (B := w.heap.size) (fun k hk => by have := HD1.out; omega) hbf.size).trans (hba.mono HD1.out.2.2.1))⟩
theorem treeWalks_walk (v : Value) (n : Int) (w : World) (h : TreeIn w v) (_ : (Lit.int .i64 n).wf = true) :
    Calls Tryz.prog 3 #[v, .int .i64 n] w fun e w' => e = .returned (.bool true) ∧ Below w.heap.size w w' := by
  obtain ⟨t, no, nc, rfl, hT⟩ := h
  exact treeWalks_main t n no nc w hT
end Go.Proofs.YtlmjkbdodecbmaaGreatDoor
