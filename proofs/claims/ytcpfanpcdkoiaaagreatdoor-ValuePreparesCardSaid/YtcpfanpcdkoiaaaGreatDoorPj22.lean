/-
  Pj22: BookVc BookVd (what is needed of them).
-/
import Derived.Test.YtcpfanpcdkoiaaaGreatDoorPj21
set_option maxRecDepth 100000
set_option linter.unusedVariables false
set_option linter.unusedSimpArgs false

namespace Go.Proofs.YtcpfanpcdkoiaaaGreatDoor
open Go.RowKit Go.Shelf


theorem run_appXK {P : Program} {t e : TypeId} {z : Value} {K bytes : Nat} (E : ElemK P t e z K bytes) (ty : TypeId) {w : World} {base n m : Nat} {v : Value} {xs : List Value} (hown : OwnsK K base e w v n xs)
  (ad : Addr) (c : Nat) (us : List Value) (hlen : us.length = m * K) (hu : ∀ j u', us[j]? = some u' → w.cell? (ad.add j) = some u') (h1 : ∀ u ∈ us, u.oneCell' = true) (hl : (n + m) * bytes ≤ 140737488355328) (hm : n + m ≤ maxLen) (hbase : base ≤ w.heap.size) :
  ∃ v' w', (Builtin.append_ #[t, t] ty #[v, .slice (some ad) m c]).run P w = .ok v' w' ∧ OwnsK K base e w' v' (n + m) (xs ++ us) ∧ w.grownBy w' v.ownBlock ∧ (v'.ownBlock = v.ownBlock ∨ v'.ownBlock = some w.heap.size) ∧
   (∀ g, v.ownBlock = some g → ∀ j, j < n * K → w'.cell? ⟨g, j, none⟩ = w.cell? ⟨g, j, none⟩) := by
 obtain ⟨i, hi, hz, h4, h5⟩ := E.info
 obtain ⟨v', w', hrun, r1, r2, _, r5⟩ := run_append_own_at (P := P) w base t ty e i z K bytes E.und hi hz h4 h5 E.many E.pos v n xs hown ad m c us hlen hu h1 hm hl hbase
 refine ⟨v', w', hrun, r1, r2, r5, ?_⟩
 intro g hg j hj
 have hxn := hown.1
 rcases hown.shape with ⟨rfl, _⟩ | ⟨g', cap', rfl, k1, k2, k3, k4, k5, _⟩
 ·simp [Value.ownBlock] at hg
 have hgg : g' = g := by simpa [Value.ownBlock] using hg
 subst hgg
 obtain ⟨_, ⟨h0, _⟩ | ⟨g9, cap9, cur, e9, q1, q2, q3, q4, q5, q6⟩⟩ := hown
 ·cases h0
 injection e9 with e9 e10 e11
 injection e9 with e9
 injection e9 with e9
 subst e9 e11
 by_cases hroom : n + m ≤ cap'
 ·have hr := run_append_room (P := P) w t ty e i E.und hi g' n cap' cur q2 ad m c us (by rw [h4]; omega) hu h1 hroom (by rw [h4]; have h9 := Nat.mul_le_mul_right K hroom; rw [Nat.add_mul] at h9; omega)
  rw [hr] at hrun
  injection hrun with e1 e2
  subst e1
  rcases OwnsK.shape r1 with ⟨h0, _⟩ | ⟨g2, cap2, e0, m1, m2, m3, m4, m5, _⟩
  ·cases h0
  injection e0 with e0 _ _
  injection e0 with e0
  injection e0 with e0
  subst e0
  rw [m5 j (by rw [Nat.add_mul]; omega), k5 j hj, List.getElem?_append_left (by omega)]
 ·have hr := run_append_grow (P := P) w t ty e i z E.und hi hz ⟨g', 0, none⟩ n cap' xs (by rw [h4]; omega) (fun j u hj => by rw [Addr.add_lit, Nat.zero_add, k5 j (by have := (List.getElem?_eq_some_iff.1 hj).1; omega)]; exact hj) ad m c us (by rw [h4]; omega) hu (by omega) (by simp only [maxLen] at hm; omega) (growslice_fits (by omega) (by rw [h5]; exact hl))
  rw [hr] at hrun
  injection hrun with e1 e2
  subst e2
  exact World.cell?_of_block (w := w) (a := ⟨g', j, none⟩) (Below.heap_alloc _ _ _ k2)
theorem appXV {w : World} {ops : Array Oper} {rest : List Oper} {o : Oper} {a : Act} {Q : Exit → Act → World → Prop} {s x : Operand} {base : Nat} {v : Value} {xs us : List V3} {ad : Addr} {m c : Nat}
  (hown : OwV base w v xs) (hgd : o.guard = none) (ho : o.op = .call { callee := .builtin .append, args := #[s, x], argTypes := #[23, 23] }) (hs : a.eval s = v) (hx : a.eval x = .slice (some ad) m c) (hml : m = us.length) (hu : ∀ j u', (vcells us)[j]? = some u' → w.cell? (ad.add j) = some u') (hl : (xs.length + us.length) * 40 ≤ 140737488355328) (hm : xs.length + us.length ≤ maxLen) (hbase : base ≤ w.heap.size)
  (h : ∀ v' w', OwV base w' v' (xs ++ us) → w.grownBy w' v.ownBlock → (v'.ownBlock = v.ownBlock ∨ v'.ownBlock = some w.heap.size) → (∀ g, v.ownBlock = some g → ∀ j, j < xs.length * 3 → w'.cell? ⟨g, j, none⟩ = w.cell? ⟨g, j, none⟩) → wpList Tryz.prog ops Q rest (a.put o.dst v') w') : wpList Tryz.prog ops Q (o :: rest) a w := by
 subst hml
 obtain ⟨v', w', hrun, r1, r2, r3, r4⟩ := run_appXK E_val o.type hown ad c (vcells us) (vcells_len us) hu (vcells_one us) hl hm hbase
 refine wpList_plain hgd fun K' hK => ?_
 unfold Oper.wp
 simp [execOp, ho, resolve, invoke, builtin, hs, hx, hrun, Result.andThen]
 refine hK _ _ (h v' w' ?_ r2 r3 r4)
 unfold OwV
 rw [vcells_app, List.length_append]
 exact r1
structure GrowAtV (B W0 : Nat) (w : World) (i n c : Nat) (v lv : Value) : Prop where
 own : OwV B w lv (markV i 0 (n + c))
 at' : ∀ g, lv.ownBlock = some g → v.ownBlock = some g ∨ W0 ≤ g
 old : ∀ g, v.ownBlock = some g → ∀ j, j < n * 3 → w.cell? ⟨g, j, none⟩ = (vcells (markV i 0 n))[j]?
theorem GrowAtV.below {B W0 : Nat} {w w' : World} {i n c : Nat} {v lv : Value} (h : GrowAtV B W0 w i n c v lv) (hb : Below w.heap.size w w') (hv : ∀ g, v.ownBlock = some g → g < w.heap.size) : GrowAtV B W0 w' i n c v lv :=
 ⟨h.own.kept hb, h.at', fun g hg j hj => (hb.cell (p := ⟨g, j, none⟩) (hv g hg)).trans (h.old g hg j hj)⟩
theorem GrowAtV.step {B W0 : Nat} {w w' : World} {i n c m : Nat} {v lv lv' : Value} (h : GrowAtV B W0 w i n c v lv) (hW : W0 ≤ w.heap.size) (hv : ∀ g, v.ownBlock = some g → g < w.heap.size) (ho : OwV B w' lv' (markV i 0 (n + c) ++ markV i (n + c) m)) (hg : w.grownBy w' lv.ownBlock) (hl : lv'.ownBlock = lv.ownBlock ∨ lv'.ownBlock = some w.heap.size)
  (hk : ∀ g, lv.ownBlock = some g → ∀ j, j < (markV i 0 (n + c)).length * 3 → w'.cell? ⟨g, j, none⟩ = w.cell? ⟨g, j, none⟩) : GrowAtV B W0 w' i n (c + m) v lv' := by
 refine ⟨?_, fun g hg' => ?_, fun g hg' j hj => ?_⟩
 ·have e : markV i 0 (n + (c + m)) = markV i 0 (n + c) ++ markV i (n + c) m := by
   rw [← Nat.add_assoc, markV_add, Nat.zero_add]
  rw [e]; exact ho
 ·rcases hl with h1 | h1
  ·exact h.at' g (h1 ▸ hg')
  ·rw [h1] at hg'; right; have : w.heap.size = g := Option.some.inj hg'; omega
 ·rw [← h.old g hg' j hj]
  by_cases e : lv.ownBlock = some g
  ·exact hk g e j (by rw [markV_len]; omega)
  ·exact World.cell?_of_block (w := w) (a := ⟨g, j, none⟩) (hg.block g (hv g hg') (fun h9 => e h9.symm))
theorem E_outV : ElemK Tryz.prog 39 23 (.slice none 0 0) 1 24 := elemK_of Tryz.underlying39 (by kernel_rfl) rfl (by decide)
theorem OwV.some {B : Nat} {w : World} {r : Value} {us : List V3} (h : OwV B w r us) (h0 : 0 < us.length) : ∃ g c, r = .slice (some ⟨g, 0, none⟩) us.length c ∧ ∀ j u, (vcells us)[j]? = some u → w.cell? ((⟨g, 0, none⟩ : Addr).add j) = some u := by
 obtain ⟨ao, cap, rfl, -⟩ := h.form
 obtain ⟨g, rfl⟩ := h.addr h0
 obtain ⟨_, ⟨h1, _⟩ | ⟨ad, h1, h2⟩⟩ := h.val.src
 ·cases h1
 ·cases h1
  exact ⟨g, cap, rfl, h2⟩
structure GrowLV (B : Nat) (w0 w : World) (vs : List Value) (ns : List Nat) (os : List Value) (i : Nat) : Prop where
 todo : ∀ (j : Nat) (v : Value) (n : Nat), vs[j]? = some v → ns[j]? = some n → i ≤ j → OwV B w v (markV j 0 n)
 done : ∀ (j : Nat) (v : Value) (n : Nat) (o : Value), vs[j]? = some v → ns[j]? = some n → os[j]? = some o → j < i → GrowAtV B w0.heap.size w j n 72 v o
theorem GrowLV.keep {B : Nat} {w0 w w' : World} {vs : List Value} {ns : List Nat} {os : List Value} {i : Nat} (h : GrowLV B w0 w vs ns os i) {S : Nat → Prop} (hk : Keep S w w')
    (ht : ∀ (j : Nat) (v : Value) g, vs[j]? = some v → i ≤ j → v.ownBlock = some g → ¬ S g) (hd : ∀ (j : Nat) (v : Value) g, vs[j]? = some v → j < i → v.ownBlock = some g → g < w.heap.size ∧ ¬ S g) (ho : ∀ (j : Nat) (o : Value) g, os[j]? = some o → o.ownBlock = some g → ¬ S g) : GrowLV B w0 w' vs ns os i :=
  ⟨fun j v n h1 h2 h3 => (h.todo j v n h1 h2 h3).keep hk (fun g hg => ht j v g h1 h3 hg),
   fun j v n o h1 h2 h3 h4 => ⟨(h.done j v n o h1 h2 h3 h4).own.keep hk (fun g hg => ho j o g h3 hg), (h.done j v n o h1 h2 h3 h4).at', fun g hg k hk9 => (World.cell?_of_block (w := w) (a := ⟨g, k, none⟩) (hk.same g (hd j v g h1 h4 hg).1 (hd j v g h1 h4 hg).2)).trans ((h.done j v n o h1 h2 h3 h4).old g hg k hk9)⟩⟩
theorem grow_closeV {B i n : Nat} {t : TypeId} {w0 w1 w6 w7 : World} {vs os : List Value} {ns : List Nat} {va ov o6 v7 : Value} (hO : Owns w0.heap.size t w1 ov os) (hGL : GrowLV B w0 w1 vs ns os i) (hsep : ∀ (j : Nat) (o : Value) g, os[j]? = some o → o.ownBlock = some g → g < w1.heap.size ∧ ov.ownBlock ≠ some g) (hKs : Keep (OfL vs) w0 w1) (hva : vs[i]? = some va) (hns : ns[i]? = some n) (hol : os.length = i)
  (hvl : ∀ (j : Nat) (v : Value) g, vs[j]? = some v → v.ownBlock = some g → g < w0.heap.size) (hap : ∀ (i j : Nat) (v u : Value) (g : Nat), vs[i]? = some v → vs[j]? = some u → v.ownBlock = some g → u.ownBlock = some g → i = j)
  (hG6 : GrowAtV B w1.heap.size w6 i n 72 va o6) (hK6 : Keep (fun k => va.ownBlock = some k) w1 w6) (hg7 : w6.grownBy w7 ov.ownBlock) (ho7 : OwnsK 1 w0.heap.size t w7 v7 (os.length + 1) (os ++ [o6])) (hl7 : ∀ g, v7.ownBlock = some g → ov.ownBlock = some g ∨ w6.heap.size ≤ g) :
  Owns w0.heap.size t w7 v7 (os ++ [o6]) ∧ (os ++ [o6]).length = i + 1 ∧ Keep (OfL vs) w0 w7 ∧ GrowLV B w0 w7 vs ns (os ++ [o6]) (i + 1) ∧ ∀ (j : Nat) (o : Value) g, (os ++ [o6])[j]? = some o → o.ownBlock = some g → g < w7.heap.size ∧ v7.ownBlock ≠ some g := by
 have hK67 : Keep (fun k => ov.ownBlock = some k) w6 w7 := ⟨hg7.os, hg7.tape, hg7.output, hg7.size, fun k hk hn => hg7.block k hk (fun h9 => hn h9.symm)⟩
 have hK7 : Keep (fun k => va.ownBlock = some k ∨ ov.ownBlock = some k) w1 w7 := (hK6.mono (fun k _ h => .inl h)).trans hK67 (fun k _ h => .inr h)
 have ovlt := fun g hg => OwnsK.lt (K := 1) hO g hg
 have valt := fun g hg => hvl i va g hva hg
 have h01 := hKs.size
 have h16 := hK6.size
 have h67 := hK67.size
 have o6lt := fun g hg => (hG6.own.lt g hg).2
 have o6ov : ∀ g, o6.ownBlock = some g → ov.ownBlock = some g → False := fun g h1 h2 => by
  have h3 := ovlt g h2
  rcases hG6.at' g h1 with h4 | h4
  ·have := valt g h4; omega
  ·omega
 refine ⟨by unfold Owns; unfold OwnsK at ho7; simpa using ho7, by simp [hol], hKs.trans hK7 (fun k hk h => ?_), ⟨fun j v m h1 h2 h3 => ?_, fun j v m o h1 h2 h3 h4 => ?_⟩, fun j o g h1 h2 => ?_⟩
 ·rcases h with h | h
  ·exact ⟨i, va, hva, h⟩
  ·have := (ovlt k h).1; omega
 ·refine (hGL.todo j v m h1 h2 (by omega)).keep hK7 (fun g hg h9 => ?_)
  rcases h9 with h9 | h9
  ·have := hap j i v va g h1 hva hg h9; omega
  ·have a1 := (ovlt g h9).1; have a2 := hvl j v g h1 hg; omega
 ·rcases app_at h3 with ⟨hj, h5⟩ | ⟨hj, rfl⟩
  ·have hd := hGL.done j v m o h1 h2 h5 (by omega)
   have key : ∀ g, v.ownBlock = some g → ¬ (va.ownBlock = some g ∨ ov.ownBlock = some g) := fun g hg h9 => by
    rcases h9 with h9 | h9
    ·have := hap j i v va g h1 hva hg h9; omega
    ·have a1 := (ovlt g h9).1; have a2 := hvl j v g h1 hg; omega
   refine ⟨hd.own.keep hK7 (fun g hg h9 => ?_), hd.at', fun g hg k hk => (World.cell?_of_block (w := w1) (a := ⟨g, k, none⟩) (hK7.same g (by have := hvl j v g h1 hg; omega) (key g hg))).trans (hd.old g hg k hk)⟩
   rcases h9 with h9 | h9
   ·rcases hd.at' g hg with h10 | h10
    ·exact key g h10 (.inl h9)
    ·have := valt g h9; omega
   ·exact (hsep j o g h5 hg).2 h9
  ·have hji : j = i := by omega
   subst hji
   have e1 := h1.symm.trans hva
   have e2 := h2.symm.trans hns
   injection e1 with e1
   injection e2 with e2
   subst e1 e2
   exact ⟨hG6.own.keep hK67 (fun g hg h9 => o6ov g hg h9), fun g hg => (hG6.at' g hg).imp id (fun h => by omega), fun g hg k hk => (World.cell?_of_block (w := w6) (a := ⟨g, k, none⟩) (hK67.same g (by have := valt g hg; omega) (fun h9 => by have a1 := (ovlt g h9).1; have a2 := valt g hg; omega))).trans (hG6.old g hg k hk)⟩
 ·rcases app_at h1 with ⟨hj, h5⟩ | ⟨hj, rfl⟩
  ·have a := hsep j o g h5 h2
   refine ⟨by omega, fun h9 => ?_⟩
   rcases hl7 g h9 with h10 | h10
   ·exact a.2 h10
   ·omega
  ·have a := o6lt g h2
   refine ⟨by omega, fun h9 => ?_⟩
   rcases hl7 g h9 with h10 | h10
   ·exact o6ov g h2 h10
   ·omega
set_option maxHeartbeats 2000000 in
theorem growValues_any (B p : Nat) (bi : Value) (vs : List Value) (ns : List Nat) (w : World) (h2 : w.cell? ⟨p, 8, none⟩ = some bi) (hv : VView w bi vs) (hlv : vs.length = ns.length) (hm : vs.length ≤ 1000) (hB : B ≤ w.heap.size)
  (hr : ∀ (i : Nat) (v : Value) (n : Nat), vs[i]? = some v → ns[i]? = some n → OwV B w v (markV i 0 n) ∧ n ≤ 1000000)
  (hap : ∀ (i j : Nat) (v u : Value) (g : Nat), vs[i]? = some v → vs[j]? = some u → v.ownBlock = some g → u.ownBlock = some g → i = j)
  (hp : ¬ OfL vs p) (hbS : ∀ g, bi.ownBlock = some g → ¬ OfL vs g) :
  Calls Tryz.prog 58 #[.pointer (some ⟨p, 0, none⟩)] w fun e w' => ∃ r os, e = .returned r ∧ Owns w.heap.size 23 w' r os ∧ os.length = vs.length ∧ GrowLV B w w' vs ns os vs.length ∧ Keep (OfL vs) w w' := by
 obtain ⟨ao, cb9, rfl, hb1, hb2, hb3⟩ := hv
 have HLV := Lib.hid hlv
 unfold maxLen at hb2
 have hvl : ∀ (j : Nat) (v : Value) g, vs[j]? = some v → v.ownBlock = some g → g < w.heap.size := fun j v g h1 hg => by
  have hj := (List.getElem?_eq_some_iff.1 h1).1
  exact ((hr j v _ h1 (List.getElem?_eq_getElem (by omega))).1.lt g hg).2
 have HVL := Lib.hid hvl
 clear hlv hvl
 go_enter Tryz.func58, Tryz.ntmps58
 go_wp2_with fail
 go_loopg [3, 4] vs.length (fun gg ov iv wr => ∃ (i : Nat) (os : List Value), i + gg = vs.length ∧ iv = .int .i64 (i : Int) ∧ Owns w.heap.size 23 wr ov os ∧ os.length = i ∧ Keep (OfL vs) w wr ∧ Hid (GrowLV B w wr vs ns os i) ∧ Hid (∀ (j : Nat) (o : Value) g, os[j]? = some o → o.ownBlock = some g → g < wr.heap.size ∧ ov.ownBlock ≠ some g))
 case atStart => exact ⟨0, [], by omega, rfl, Owns.nil _ _ _, rfl, Keep.refl _ _, Lib.hid ⟨fun j v n h1 h2 _ => (hr j v n h1 h2).1, fun j v n o _ _ h3 => by simp at h3⟩, Lib.hid (fun j o g h1 => by simp at h1)⟩
 case round =>
  obtain ⟨i, os, hi, rfl, hO, hol, hKs, hGL, hsep⟩ := hrel
  have e2 := hKs.cell hp h2
  by_cases hil : i < vs.length
  ·have hz : (i : Int) < (vs.length : Int) := by omega
   have hz0 : (0 : Int) ≤ (i : Int) := by omega
   have hils : i < ns.length := by rw [← HLV.out]; exact hil
   obtain ⟨va, hva⟩ : ∃ v, vs[i]? = some v := ⟨_, List.getElem?_eq_getElem hil⟩
   obtain ⟨n, hns⟩ : ∃ v, ns[i]? = some v := ⟨_, List.getElem?_eq_getElem hils⟩
   have hnl := (hr i va n hva hns).2
   obtain ⟨gb, rfl, _, cb0⟩ := hb3 i va hva
   have cv := hKs.cell (hbS gb rfl) cb0
   obtain ⟨w1, hw1⟩ : ∃ x, x = wr := ⟨_, rfl⟩
   subst hw1
   have hOv := hGL.out.todo i va n hva hns (Nat.le_refl _)
   have hG0 : GrowAtV B w1.heap.size w1 i n 0 va va := ⟨by simpa using hOv, fun g hg => .inl hg, fun g hg j hj => by
    rcases OwnsK.shape hOv with ⟨rfl, _⟩ | ⟨g9, cap9, rfl, _, _, _, _, k5, _⟩
    ·simp [Value.ownBlock] at hg
    ·have : g9 = g := by simpa [Value.ownBlock] using hg
     subst this
     exact k5 j (by rw [markV_len]; exact hj)⟩
   have HVA := Lib.hid hva
   have HNS := Lib.hid hns
   have hvw : Hid (∀ g, va.ownBlock = some g → g < w1.heap.size) := Lib.hid (fun g hg => Nat.lt_of_lt_of_le (HVL.out i va g hva hg) hKs.size)
   clear hva hns hOv cb0
   have HG0 := Lib.hid hG0
   clear hG0
   obtain ⟨go1, hgo⟩ : ∃ go, go = gk := ⟨_, rfl⟩
   subst hgo
   go_wp2_with fail
   clear e2 cv
   go_loopg [5, 6] 12 (fun gg lv cvv wr => ∃ c : Nat, c + gg = 12 ∧ cvv = .int .i64 (c : Int) ∧ Hid (GrowAtV B w1.heap.size wr i n c va lv) ∧ Keep (fun k => va.ownBlock = some k) w1 wr)
   case atStart => exact ⟨0, by omega, rfl, HG0, Keep.refl _ _⟩
   case round =>
    obtain ⟨c, hc, rfl, hG, hK1⟩ := hrel
    have hOl := hG.out.own
    obtain ⟨q, hq⟩ : ∃ q, q = n + c := ⟨_, rfl⟩
    rw [← hq] at hOl
    obtain ⟨lo, lc, rfl, hl1, hl2⟩ := hOl.form
    have hql : (markV i 0 q).length = q := by rw [markV_len]
    rw [hql] at hOl hG ⊢
    have HQ := Lib.hid hq
    have hqb : q ≤ 2000000 := by omega
    clear hq hl1 hl2
    have hBs : B ≤ wr.heap.size := Nat.le_trans hB (Nat.le_trans hKs.size hK1.size)
    have hvr : ∀ g, va.ownBlock = some g → g < wr.heap.size := fun g hg => Nat.lt_of_lt_of_le (hvw.out g hg) hK1.size
    have HVR := Lib.hid hvr
    clear hvr
    by_cases hc12 : c < 12
    ·have hcz : (c : Int) < 12 := by omega
     have hM := fun W => markValues_any i q 1 W (by omega) (by omega) (by omega)
     have e1 : ((1 : Nat) : Int) = 1 := rfl
     rw [e1] at hM
     clear e1
     have hml : (markV i q 1).length = 1 := by rw [markV_len]
     go_wp2_with (first | (go_at_call 108; (with_reducible refine (hM _).mono ?_); rintro e9 w3 ⟨r9, rfl, hOm, hb⟩; obtain ⟨gm, mc, rfl, hmc⟩ := hOm.some (by rw [hml]; decide); rw [hml]; have hG3 := Lib.hid (hG.out.below hb HVR.out); have hOl3 := hOl.kept hb; have hK3 := hK1.then_below hb; have HB3 := Lib.hid hb.size; clear hOm hb hOl) | (at_builtin; refine appXV (us := markV i q 1) hOl3 rfl rfl rfl rfl hml.symm hmc (by rw [hql, hml]; omega) (by rw [hql, hml]; unfold maxLen; omega) (Nat.le_trans hBs HB3.out) ?_; intro v6 w6 ho6 hg6 hl6 hk6))
     have hG6 : Hid (GrowAtV B w1.heap.size w6 i n (c + 1) va v6) := Lib.hid (hG3.out.step (Nat.le_trans hK1.size HB3.out) (fun g hg => Nat.lt_of_lt_of_le (HVR.out g hg) HB3.out) (by rw [← HQ.out]; exact ho6) hg6 hl6 (by rw [← HQ.out]; exact hk6))
     have hK6 : Keep (fun k => va.ownBlock = some k) w1 w6 := hK3.trans (S' := fun k => Value.ownBlock (.slice lo q lc) = some k) ⟨hg6.os, hg6.tape, hg6.output, hg6.size, fun k hk hn => hg6.block k hk (fun h9 => hn h9.symm)⟩ (fun k hk h9 => by
      rcases hG3.out.at' k h9 with h10 | h10
      ·exact h10
      ·omega)
     clear hG hG3 hK1 hK3 hOl3 ho6 hg6 hl6 hk6 hmc
     go_roundg (gk - 1)
     case measure => omega
     case rel => exact ⟨c + 1, by omega, by go_num, hG6, hK6⟩
    ·obtain rfl : c = 12 := by omega
     have hM := fun W => markValues_any i q 60 W (by omega) (by omega) (by omega)
     have e1 : ((60 : Nat) : Int) = 60 := rfl
     rw [e1] at hM
     clear e1
     have hml : (markV i q 60).length = 60 := by rw [markV_len]
     have hOo : Owns w.heap.size 23 wr _ os := OwnsK.keep (K := 1) hO hK1 (fun g hg h9 => by have h10 := (OwnsK.lt (K := 1) hO g hg).1; have h11 := HVL.out i va g HVA.out h9; omega)
     have HOL := Lib.hid (OwnsK.lt (K := 1) hO)
     have HSP := Lib.hid (fun (g : Nat) (h9 : w.heap.size ≤ g ∧ g < w1.heap.size) (h10 : Value.ownBlock (.slice lo q lc) = some g) => (show False by
      rcases hG.out.at' g h10 with h11 | h11
      ·have := HVL.out i va g HVA.out h11; omega
      ·omega))
     go_wp2_with (first | (go_at_call 108; (with_reducible refine (hM _).mono ?_); rintro e9 w3 ⟨r9, rfl, hOm, hb⟩; obtain ⟨gm, mc, rfl, hmc⟩ := hOm.some (by rw [hml]; decide); rw [hml]; have hG3 := Lib.hid (hG.out.below hb HVR.out); have hOl3 := hOl.kept hb; have hOo3 := Owns.kept hOo hb; have hK3 := hK1.then_below hb; have HB3 := Lib.hid hb.size; clear hOm hb hOl hOo) | (at_builtin; refine appXV (us := markV i q 60) hOl3 rfl rfl rfl rfl hml.symm hmc (by rw [hql, hml]; omega) (by rw [hql, hml]; unfold maxLen; omega) (Nat.le_trans hBs HB3.out) ?_; intro v6 w6 ho6 hg6 hl6 hk6; obtain ⟨ao6, c6, rfl, _, _⟩ := ho6.form; have hOo6 := OwnsK.block (K := 1) hOo3 (fun g hg => hg6.block g (OwnsK.lt (K := 1) hOo3 g hg).2 (fun h9 => HSP.out g (HOL.out g hg) h9.symm))) | (at_builtin; refine append1KO E_outV hOo6 rfl rfl rfl rfl rfl (by simp [Value.oneCell']) (by omega) (by unfold maxLen; omega) (Nat.le_trans (Nat.le_trans hKs.size hK1.size) (Nat.le_trans HB3.out hg6.size)) ?_; intro v7 w7 ho7 hb7 hg7 hl7))
     have h60 : (markV i 0 q ++ markV i q 60).length = q + 60 := by rw [List.length_append, hql, hml]
     rw [h60] at ho6 hl6
     have hG6 : GrowAtV B w1.heap.size w6 i n (12 + 60) va _ := hG3.out.step (Nat.le_trans hK1.size HB3.out) (fun g hg => Nat.lt_of_lt_of_le (HVR.out g hg) HB3.out) (by rw [← HQ.out]; exact ho6) hg6 hl6 (by rw [← HQ.out]; exact hk6)
     have hK6 : Keep (fun k => va.ownBlock = some k) w1 w6 := hK3.trans (S' := fun k => Value.ownBlock (.slice lo q lc) = some k) ⟨hg6.os, hg6.tape, hg6.output, hg6.size, fun k hk hn => hg6.block k hk (fun h9 => hn h9.symm)⟩ (fun k hk h9 => by
      rcases hG3.out.at' k h9 with h10 | h10
      ·exact h10
      ·omega)
     obtain ⟨z1, z2, z3, z4, z5⟩ := grow_closeV hO hGL.out hsep.out hKs HVA.out HNS.out hol HVL.out hap hG6 hK6 hg7 ho7 hl7
     have Z4 := Lib.hid z4
     have Z5 := Lib.hid z5
     clear z4 z5 hG hG3 hG6 hK6 hK3 hK1 hOl3 hOo3 hOo6 ho6 hg6 hl6 hk6 ho7 hb7 hg7 hl7 hGL hsep hO hKs hmc
     go_roundg (go1 - 1)
     case measure => omega
     case rel => exact ⟨i + 1, _, by omega, by go_num, z1, z2, z3, Z4, Z5⟩
  ·have hz : ¬ (i : Int) < (vs.length : Int) := by omega
   obtain rfl : i = vs.length := by omega
   go_wp2_with fail
   go_ret
   exact ⟨_, rfl, os, hO, hol, hGL.out, hKs⟩
end Go.Proofs.YtcpfanpcdkoiaaaGreatDoor

namespace Go.Proofs.YtcpfanpcdkoiaaaGreatDoor
open Go.RowKit Go.Shelf


theorem GrowAtV.val {Bs W0 : Nat} {w0 w : World} {i n c : Nat} {v lv : Value} (h : GrowAtV Bs W0 w i n c v lv) (hv : OwV Bs w0 v (markV i 0 n)) : ValI w v (markV i 0 n) := by
 obtain ⟨ao, cap, rfl, h1, h2, h3, h4⟩ := hv.val
 refine ⟨ao, cap, rfl, h1, h2, h3, fun j u hu => ?_⟩
 have hj := (List.getElem?_eq_some_iff.1 hu).1
 obtain ⟨g, rfl⟩ := hv.addr (by omega)
 obtain ⟨g0, g1, g2⟩ := vcells_get _ _ _ hu
 rw [markV_len] at hj
 exact ⟨g, 0, rfl, ⟨by rw [Nat.zero_add, h.old g rfl _ (by omega)]; exact g0⟩, ⟨by rw [Nat.zero_add, h.old g rfl _ (by omega)]; exact g1⟩, ⟨by rw [Nat.zero_add, h.old g rfl _ (by omega)]; exact g2⟩⟩
set_option maxHeartbeats 4000000 in
theorem apart_vals (Bs p : Nat) (bi bw : Value) (vs us : List Value) (ls : List (List V3)) (w : World) (hbx : BoxL w p [.slice none 0 0, .slice none 0 0, .slice none 0 0, .slice none 0 0, .slice none 0 0, .slice none 0 0, .slice none 0 0, .slice none 0 0, bi, bw, .slice none 0 0, .slice none 0 0]) (hV : VView w bi vs) (hU : VView w bw us) (hlv : vs.length = ls.length) (hlu : us.length = ls.length) (hm : vs.length ≤ 250) (hB : Bs ≤ w.heap.size)
  (hr : ∀ (i : Nat) (v : Value) (ns : List V3), vs[i]? = some v → ls[i]? = some ns → OwV Bs w v ns ∧ ns.length ≤ 1000000) (hs : ∀ (i : Nat) (v : Value) (ns : List V3), us[i]? = some v → ls[i]? = some ns → OwV Bs w v ns)
  (hap : ∀ (i j : Nat) (v u : Value) (g : Nat), vs[i]? = some v → vs[j]? = some u → v.ownBlock = some g → u.ownBlock = some g → i = j) (hp : ¬ OfL vs p) (hbS : ∀ g, bi.ownBlock = some g → ¬ OfL vs g) :
  Calls Tryz.prog 18 #[.pointer (some ⟨p, 0, none⟩)] w fun e w' => e = .returned (.bool true) ∧ Below Bs w w' := by
 have hSB : ∀ k, OfL vs k → Bs ≤ k := fun k ⟨i, v, h1, h2⟩ => by
  have hi := (List.getElem?_eq_some_iff.1 h1).1
  exact ((hr i v _ h1 (List.getElem?_eq_getElem (by omega))).1.lt k h2).1
 have HR := Lib.hid hr
 have HS := Lib.hid hs
 clear hr hs
 have hbf : Below w.heap.size w w := Below.refl _ _
 obtain ⟨w0, hw0⟩ : ∃ x, x = w := ⟨_, rfl⟩
 skip
 go_enter Tryz.func18, Tryz.ntmps18
 go_upto_region 1 with fail
 go_upto_region 3 with (go_at_call 42; (with_reducible refine (stillTexts_no p w (hbx.cell 0 _ rfl)).mono ?_); rintro e9 v1 ⟨rfl, hb⟩)
 replace hbx := hbx.kept hb
 replace hV := hV.below hb
 replace hbf := hbf.trans (hb.mono hbf.size)
 clear hb
 go_upto_region 5 with (go_at_call 43; (with_reducible refine (stillInts_no p v1 (hbx.cell 2 _ rfl)).mono ?_); rintro e9 v2 ⟨rfl, hb⟩)
 replace hbx := hbx.kept hb
 replace hV := hV.below hb
 replace hbf := hbf.trans (hb.mono hbf.size)
 clear hb
 go_upto_region 7 with (go_at_call 44; (with_reducible refine (stillPats_no p v2 (hbx.cell 4 _ rfl)).mono ?_); rintro e9 v3 ⟨rfl, hb⟩)
 replace hbx := hbx.kept hb
 replace hV := hV.below hb
 replace hbf := hbf.trans (hb.mono hbf.size)
 clear hb
 go_upto_region 9 with (go_at_call 45; (with_reducible refine (stillDiags_no p v3 (hbx.cell 6 _ rfl)).mono ?_); rintro e9 v4 ⟨rfl, hb⟩)
 replace hbx := hbx.kept hb
 replace hV := hV.below hb
 replace hbf := hbf.trans (hb.mono hbf.size)
 clear hb
 have hst := stillValues_any p bi bw vs us ls v4 (hbx.cell 8 _ rfl) (hbx.cell 9 _ rfl) hV (hU.below hbf) hlv hlu (fun i v ns h1 h2 => ((HR.out i v ns h1 h2).1.val).below hbf) (fun i v ns h1 h2 => ((HS.out i v ns h1 h2).val).below hbf)
 go_upto_region 11 with (go_at_call 46; (with_reducible refine (hst).mono ?_); rintro e9 v5 ⟨rfl, hb⟩)
 replace hbx := hbx.kept hb
 replace hV := hV.below hb
 replace hbf := hbf.trans (hb.mono hbf.size)
 clear hb
 clear hst hU HS
 go_upto_region 13 with (go_at_call 47; (with_reducible refine (stillSteps_no p v5 (hbx.cell 10 _ rfl)).mono ?_); rintro e9 v6 ⟨rfl, hb⟩)
 replace hbx := hbx.kept hb
 replace hV := hV.below hb
 replace hbf := hbf.trans (hb.mono hbf.size)
 clear hb
 go_upto_region 14 with (go_at_call 48; (with_reducible refine (putSteps_no p v6 (hbx.cell 10 _ rfl)).mono ?_); rintro e9 v7 ⟨rfl, hb⟩)
 replace hbx := hbx.kept hb
 replace hV := hV.below hb
 replace hbf := hbf.trans (hb.mono hbf.size)
 clear hb
 go_upto_region 15 with (go_at_call 49; (with_reducible refine (putTexts_no p v7 (hbx.cell 0 _ rfl)).mono ?_); rintro e9 v8 ⟨rfl, hb⟩)
 replace hbx := hbx.kept hb
 replace hV := hV.below hb
 replace hbf := hbf.trans (hb.mono hbf.size)
 clear hb
 go_upto_region 16 with (go_at_call 50; (with_reducible refine (putInts_no p v8 (hbx.cell 2 _ rfl)).mono ?_); rintro e9 v9 ⟨rfl, hb⟩)
 replace hbx := hbx.kept hb
 replace hV := hV.below hb
 replace hbf := hbf.trans (hb.mono hbf.size)
 clear hb
 go_upto_region 17 with (go_at_call 51; (with_reducible refine (putPats_no p v9 (hbx.cell 4 _ rfl)).mono ?_); rintro e9 v10 ⟨rfl, hb⟩)
 replace hbx := hbx.kept hb
 replace hV := hV.below hb
 replace hbf := hbf.trans (hb.mono hbf.size)
 clear hb
 go_upto_region 18 with (go_at_call 52; (with_reducible refine (putDiags_no p v10 (hbx.cell 6 _ rfl)).mono ?_); rintro e9 v11 ⟨rfl, hb⟩)
 replace hbx := hbx.kept hb
 replace hV := hV.below hb
 replace hbf := hbf.trans (hb.mono hbf.size)
 clear hb
 have hpt := putValues_any Bs p bi vs ls v11 (hbx.cell 8 _ rfl) hV hlv (by omega) (Nat.le_trans hB hbf.size) (fun i v ns h1 h2 => ⟨(HR.out i v ns h1 h2).1.kept hbf, (HR.out i v ns h1 h2).2⟩) hap hp hbS
 go_upto_region 19 with (go_at_call 53; (with_reducible refine (hpt).mono ?_); rintro e9 v12 ⟨rfl, hM, hK⟩)
 clear hpt
 have hPW : Below Bs v11 v12 := hK.below hSB (Nat.le_trans hB hbf.size)
 have hB2 : Below Bs w v12 := ((⟨hbf.os, hbf.tape, hbf.output, hbf.size, fun k hk => hbf.block k (by omega)⟩ : Below Bs w v11)).trans hPW
 replace hV := hV.keep hK hbS
 replace hbx := hbx.keep hK hp
 have hszB : Bs ≤ v12.heap.size := Nat.le_trans (Nat.le_trans hB hbf.size) hK.size
 have HM := Lib.hid hM
 clear hbf hM hK hPW
 have hbf : Below v12.heap.size v12 v12 := Below.refl _ _
 obtain ⟨wp, hwp⟩ : ∃ x, x = v12 := ⟨_, rfl⟩
 subst hwp
 go_upto_region 20 with (go_at_call 54; (with_reducible refine (growTexts_no p wp (hbx.cell 0 _ rfl)).mono ?_); rintro e9 v13 ⟨rfl, hb⟩)
 replace hbx := hbx.kept hb
 replace hV := hV.below hb
 replace hbf := hbf.trans (hb.mono hbf.size)
 clear hb
 go_upto_region 21 with (go_at_call 55; (with_reducible refine (growInts_no p v13 (hbx.cell 2 _ rfl)).mono ?_); rintro e9 v14 ⟨rfl, hb⟩)
 replace hbx := hbx.kept hb
 replace hV := hV.below hb
 replace hbf := hbf.trans (hb.mono hbf.size)
 clear hb
 go_upto_region 22 with (go_at_call 56; (with_reducible refine (growPats_no p v14 (hbx.cell 4 _ rfl)).mono ?_); rintro e9 v15 ⟨rfl, hb⟩)
 replace hbx := hbx.kept hb
 replace hV := hV.below hb
 replace hbf := hbf.trans (hb.mono hbf.size)
 clear hb
 go_upto_region 23 with (go_at_call 57; (with_reducible refine (growDiags_no p v15 (hbx.cell 6 _ rfl)).mono ?_); rintro e9 v16 ⟨rfl, hb⟩)
 replace hbx := hbx.kept hb
 replace hV := hV.below hb
 replace hbf := hbf.trans (hb.mono hbf.size)
 clear hb
 have hgw := growValues_any Bs p bi vs (ls.map List.length) v16 (hbx.cell 8 _ rfl) hV (by rw [List.length_map]; exact hlv) (by omega) (Nat.le_trans hszB hbf.size) (fun i v n h1 h2 => by
  rw [List.getElem?_map] at h2
  cases hq : ls[i]? with
  | none => rw [hq] at h2; cases h2
  | some ns =>
   rw [hq] at h2
   have h3 : ns.length = n := Option.some.inj h2
   subst h3
   exact ⟨(HM.out i v ns h1 hq).kept hbf, (HR.out i v ns h1 hq).2⟩) hap hp hbS
 go_upto_region 24 with (go_at_call 58; (with_reducible refine (hgw).mono ?_); rintro e9 v17 ⟨gr, os, rfl, hOg, hol, hGL, hK⟩)
 clear hgw
 have hV0 := hV
 replace hV := hV.keep hK hbS
 replace hbx := hbx.keep hK hp
 have hB3 : Below Bs w v17 := (hB2.trans (⟨hbf.os, hbf.tape, hbf.output, hbf.size, fun k hk => hbf.block k (by omega)⟩ : Below Bs wp v16)).trans (hK.below hSB (Nat.le_trans hszB hbf.size))
 have hVG := hV
 have hVg := VView.of hOg
 have hwpl : wp.heap.size ≤ v17.heap.size := Nat.le_trans hbf.size hK.size
 have HGL := Lib.hid hGL
 clear hbf hK hOg hB2 hGL
 have hbf : Below v17.heap.size v17 v17 := Below.refl _ _
 obtain ⟨wg, hwg⟩ : ∃ x, x = v17 := ⟨_, rfl⟩
 subst hwg
 have HNS := Lib.hid hol
 clear hol
 have hg1 : ∀ W, Below wg.heap.size wg W → Calls Tryz.prog 64 #[gr] W fun e w9 => e = .returned (.bool true) ∧ Below W.heap.size W w9 := fun W hW => markedValues_any gr os (ls.map fun l => l.length + 72) W (hVg.below hW) (by rw [HNS.out, List.length_map]; exact hlv) (by rw [HNS.out]; omega) (fun i o n h1 h2 => by
  rw [List.getElem?_map] at h2
  cases hq : ls[i]? with
  | none => rw [hq] at h2; cases h2
  | some ns =>
   rw [hq] at h2
   have h3 : ns.length + 72 = n := Option.some.inj h2
   subst h3
   have hil : i < vs.length := by have := (List.getElem?_eq_some_iff.1 hq).1; omega
   have hvi := List.getElem?_eq_getElem hil
   have hga := HGL.out.done i _ ns.length o hvi (by rw [List.getElem?_map, hq]; rfl) h1 hil
   exact ⟨(hga.own.val).below hW, by have := (HR.out i _ ns hvi hq).2; omega⟩)
 have hg2 : ∀ W, Below wg.heap.size wg W → Calls Tryz.prog 64 #[bi] W fun e w9 => e = .returned (.bool true) ∧ Below W.heap.size W w9 := fun W hW => markedValues_any bi vs (ls.map List.length) W (hVG.below hW) (by rw [List.length_map]; exact hlv) (by omega) (fun i v n h1 h2 => by
  rw [List.getElem?_map] at h2
  cases hq : ls[i]? with
  | none => rw [hq] at h2; cases h2
  | some ns =>
   rw [hq] at h2
   have h3 : ns.length = n := Option.some.inj h2
   subst h3
   have hil : i < os.length := by rw [HNS.out]; exact (List.getElem?_eq_some_iff.1 h1).1
   have hoi := List.getElem?_eq_getElem hil
   have hga := HGL.out.done i v ns.length _ h1 (by rw [List.getElem?_map, hq]; rfl) hoi (List.getElem?_eq_some_iff.1 h1).1
   have hmo := HM.out i v ns h1 hq
   exact ⟨(hga.val hmo).below hW, by have := (HR.out i v ns h1 hq).2; omega⟩)
 have HG1 := Lib.hid hg1
 have HG2 := Lib.hid hg2
 clear hg1 hg2 HM HGL hV hVg HNS
 go_wp2_with fail
 (with_reducible refine (growSteps_no p _ (hbx.cell 10 _ rfl)).mono ?_)
 rintro e9 v19 ⟨rfl, hb⟩
 replace hbx := hbx.kept hb
 replace hbf := hbf.trans (hb.mono hbf.size)
 clear hb
 have c0 := hbx.cell 0 _ rfl
 have c2 := hbx.cell 2 _ rfl
 have c4 := hbx.cell 4 _ rfl
 have c6 := hbx.cell 6 _ rfl
 have c8 := hbx.cell 8 _ rfl
 have c10 := hbx.cell 10 _ rfl
 go_wp2_with fail
 (with_reducible refine (markedTexts_no _).mono ?_)
 rintro e9 v20 ⟨rfl, hb⟩
 clear c0 c2 c4 c6 c8 c10
 replace hbx := hbx.kept hb
 replace hbf := hbf.trans (hb.mono hbf.size)
 clear hb
 have c0 := hbx.cell 0 _ rfl
 have c2 := hbx.cell 2 _ rfl
 have c4 := hbx.cell 4 _ rfl
 have c6 := hbx.cell 6 _ rfl
 have c8 := hbx.cell 8 _ rfl
 have c10 := hbx.cell 10 _ rfl
 go_wp2_with fail
 simp only [List.append_eq, List.cons_append, List.nil_append]
 go_wp2_with fail
 (with_reducible refine (markedTexts_no _).mono ?_)
 rintro e9 v21 ⟨rfl, hb⟩
 clear c0 c2 c4 c6 c8 c10
 replace hbx := hbx.kept hb
 replace hbf := hbf.trans (hb.mono hbf.size)
 clear hb
 have c0 := hbx.cell 0 _ rfl
 have c2 := hbx.cell 2 _ rfl
 have c4 := hbx.cell 4 _ rfl
 have c6 := hbx.cell 6 _ rfl
 have c8 := hbx.cell 8 _ rfl
 have c10 := hbx.cell 10 _ rfl
 go_wp2_with fail
 (with_reducible refine (markedInts_no _).mono ?_)
 rintro e9 v22 ⟨rfl, hb⟩
 clear c0 c2 c4 c6 c8 c10
 replace hbx := hbx.kept hb
 replace hbf := hbf.trans (hb.mono hbf.size)
 clear hb
 have c0 := hbx.cell 0 _ rfl
 have c2 := hbx.cell 2 _ rfl
 have c4 := hbx.cell 4 _ rfl
 have c6 := hbx.cell 6 _ rfl
 have c8 := hbx.cell 8 _ rfl
 have c10 := hbx.cell 10 _ rfl
 go_wp2_with fail
 (with_reducible refine (markedInts_no _).mono ?_)
 rintro e9 v23 ⟨rfl, hb⟩
 clear c0 c2 c4 c6 c8 c10
 replace hbx := hbx.kept hb
 replace hbf := hbf.trans (hb.mono hbf.size)
 clear hb
 have c0 := hbx.cell 0 _ rfl
 have c2 := hbx.cell 2 _ rfl
 have c4 := hbx.cell 4 _ rfl
 have c6 := hbx.cell 6 _ rfl
 have c8 := hbx.cell 8 _ rfl
 have c10 := hbx.cell 10 _ rfl
 go_wp2_with fail
 (with_reducible refine (markedPats_no _).mono ?_)
 rintro e9 v24 ⟨rfl, hb⟩
 clear c0 c2 c4 c6 c8 c10
 replace hbx := hbx.kept hb
 replace hbf := hbf.trans (hb.mono hbf.size)
 clear hb
 have c0 := hbx.cell 0 _ rfl
 have c2 := hbx.cell 2 _ rfl
 have c4 := hbx.cell 4 _ rfl
 have c6 := hbx.cell 6 _ rfl
 have c8 := hbx.cell 8 _ rfl
 have c10 := hbx.cell 10 _ rfl
 go_wp2_with fail
 (with_reducible refine (markedPats_no _).mono ?_)
 rintro e9 v25 ⟨rfl, hb⟩
 clear c0 c2 c4 c6 c8 c10
 replace hbx := hbx.kept hb
 replace hbf := hbf.trans (hb.mono hbf.size)
 clear hb
 have c0 := hbx.cell 0 _ rfl
 have c2 := hbx.cell 2 _ rfl
 have c4 := hbx.cell 4 _ rfl
 have c6 := hbx.cell 6 _ rfl
 have c8 := hbx.cell 8 _ rfl
 have c10 := hbx.cell 10 _ rfl
 go_wp2_with fail
 (with_reducible refine (markedDiags_no _).mono ?_)
 rintro e9 v26 ⟨rfl, hb⟩
 clear c0 c2 c4 c6 c8 c10
 replace hbx := hbx.kept hb
 replace hbf := hbf.trans (hb.mono hbf.size)
 clear hb
 have c0 := hbx.cell 0 _ rfl
 have c2 := hbx.cell 2 _ rfl
 have c4 := hbx.cell 4 _ rfl
 have c6 := hbx.cell 6 _ rfl
 have c8 := hbx.cell 8 _ rfl
 have c10 := hbx.cell 10 _ rfl
 go_wp2_with fail
 (with_reducible refine (markedDiags_no _).mono ?_)
 rintro e9 v27 ⟨rfl, hb⟩
 clear c0 c2 c4 c6 c8 c10
 replace hbx := hbx.kept hb
 replace hbf := hbf.trans (hb.mono hbf.size)
 clear hb
 have c0 := hbx.cell 0 _ rfl
 have c2 := hbx.cell 2 _ rfl
 have c4 := hbx.cell 4 _ rfl
 have c6 := hbx.cell 6 _ rfl
 have c8 := hbx.cell 8 _ rfl
 have c10 := hbx.cell 10 _ rfl
 go_wp2_with fail
 (with_reducible refine (HG1.out _ hbf).mono ?_)
 rintro e9 v28 ⟨rfl, hb⟩
 clear c0 c2 c4 c6 c8 c10
 replace hbx := hbx.kept hb
 replace hbf := hbf.trans (hb.mono hbf.size)
 clear hb
 have c0 := hbx.cell 0 _ rfl
 have c2 := hbx.cell 2 _ rfl
 have c4 := hbx.cell 4 _ rfl
 have c6 := hbx.cell 6 _ rfl
 have c8 := hbx.cell 8 _ rfl
 have c10 := hbx.cell 10 _ rfl
 go_wp2_with fail
 (with_reducible refine (HG2.out _ hbf).mono ?_)
 rintro e9 v29 ⟨rfl, hb⟩
 clear c0 c2 c4 c6 c8 c10
 replace hbx := hbx.kept hb
 replace hbf := hbf.trans (hb.mono hbf.size)
 clear hb
 have c0 := hbx.cell 0 _ rfl
 have c2 := hbx.cell 2 _ rfl
 have c4 := hbx.cell 4 _ rfl
 have c6 := hbx.cell 6 _ rfl
 have c8 := hbx.cell 8 _ rfl
 have c10 := hbx.cell 10 _ rfl
 go_wp2_with fail
 (with_reducible refine (markedSteps_no _).mono ?_)
 rintro e9 v30 ⟨rfl, hb⟩
 clear c0 c2 c4 c6 c8 c10
 replace hbx := hbx.kept hb
 replace hbf := hbf.trans (hb.mono hbf.size)
 clear hb
 have c0 := hbx.cell 0 _ rfl
 have c2 := hbx.cell 2 _ rfl
 have c4 := hbx.cell 4 _ rfl
 have c6 := hbx.cell 6 _ rfl
 have c8 := hbx.cell 8 _ rfl
 have c10 := hbx.cell 10 _ rfl
 go_wp2_with fail
 (with_reducible refine (markedSteps_no _).mono ?_)
 rintro e9 v31 ⟨rfl, hb⟩
 clear c0 c2 c4 c6 c8 c10
 replace hbx := hbx.kept hb
 replace hbf := hbf.trans (hb.mono hbf.size)
 clear hb
 have c0 := hbx.cell 0 _ rfl
 have c2 := hbx.cell 2 _ rfl
 have c4 := hbx.cell 4 _ rfl
 have c6 := hbx.cell 6 _ rfl
 have c8 := hbx.cell 8 _ rfl
 have c10 := hbx.cell 10 _ rfl
 go_wp2_with fail
 go_ret
 exact ⟨rfl, hB3.trans (⟨hbf.os, hbf.tape, hbf.output, hbf.size, fun k hk => hbf.block k (Nat.lt_of_lt_of_le hk (Nat.le_trans hszB hwpl))⟩)⟩
end Go.Proofs.YtcpfanpcdkoiaaaGreatDoor
