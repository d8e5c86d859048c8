/-
  Pi08: BookG BookH MathQ (what is needed of them).
-/
import Derived.Test.YtlmjkbdodecbmaaGreatDoorPi07
import Derived.WalkKit

namespace Go.Proofs.YtlmjkbdodecbmaaGreatDoor
open Go.RowKit Go.Shelf
set_option linter.unusedVariables false
set_option linter.unusedSimpArgs false
theorem appX {P : Program} {t e : TypeId} {z : Value} {bytes : Nat} (E : Elem P t e z bytes) {w : World} {ops : Array Oper} {rest : List Oper} {o : Oper} {a : Act} {Q : Exit → Act → World → Prop} {s x : Operand} {base : Nat} {v : Value} {xs us : List Value} {ad : Addr} {m c : Nat}
    (hown : Owns base e w v xs) (hgd : o.guard = none) (ho : o.op = .call { callee := .builtin .append, args := #[s, x], argTypes := #[t, t] }) (hs : a.eval s = v) (hx : a.eval x = .slice (some ad) m c) (hml : m = us.length) (hu : ∀ j u', us[j]? = some u' → w.cell? (ad.add j) = some u') (h1 : ∀ u ∈ us, u.oneCell' = true) (hl : (xs.length + us.length) * bytes ≤ 140737488355328) (hm : xs.length + us.length ≤ maxLen) (hbase : base ≤ w.heap.size)
    (h : ∀ v' w', Owns base e w' v' (xs ++ us) → w.grownBy w' v.ownBlock → (v'.ownBlock = v.ownBlock ∨ v'.ownBlock = some w.heap.size) → (∀ g, v.ownBlock = some g → ∀ j, j < xs.length → w'.cell? ⟨g, j, none⟩ = w.cell? ⟨g, j, none⟩) → wpList P ops Q rest (a.put o.dst v') w') : wpList P ops Q (o :: rest) a w := by
  subst hml
  obtain ⟨v', w', hrun, r1, r2, r3, r4⟩ := run_appX E o.type hown ad c us hu h1 hl hm hbase
  refine wpList_plain hgd fun K' hK => ?_
  unfold Oper.wp
  simp [execOp, ho, resolve, invoke, builtin, hs, hx, hrun, Result.andThen]
  exact hK _ _ (h v' w' r1 r2 r3 r4)
/-- A list that is looked at: its cells stay. -/
theorem IntsI.cells {w w' : World} {v : Value} {ns : List Int} (h : IntsI .i64 w v ns) (hs : w.heap.size ≤ w'.heap.size) (hk : ∀ ao n c b off, v = .slice ao n c → ao = some ⟨b, off, none⟩ → ∀ j, j < ns.length → w'.cell? ⟨b, off + j, none⟩ = w.cell? ⟨b, off + j, none⟩) : IntsI .i64 w' v ns := by
  obtain ⟨ao, cap, rfl, h2, h3, h4⟩ := h
  refine ⟨ao, cap, rfl, h2, h3, ?_⟩
  rcases h4 with h4 | ⟨b, off, e1, e2, e3⟩
  · exact .inl h4
  · exact .inr ⟨b, off, e1, Nat.lt_of_lt_of_le e2 hs, fun j hj => (hk _ _ _ b off rfl e1 j hj).trans (e3 j hj)⟩
/-- One round of growing: lv is what the list v has come to. -/
structure GrowAt (B W0 : Nat) (w : World) (i n c : Nat) (v lv : Value) : Prop where
  own : Owns B 3 w lv (ivals .i64 (markI i 0 (n + c)))
  at' : ∀ g, lv.ownBlock = some g → v.ownBlock = some g ∨ W0 ≤ g
  old : ∀ g, v.ownBlock = some g → ∀ j, j < n → w.cell? ⟨g, j, none⟩ = (ivals .i64 (markI i 0 n))[j]?
theorem GrowAt.below {B W0 : Nat} {w w' : World} {i n c : Nat} {v lv : Value} (h : GrowAt B W0 w i n c v lv) (hb : Below w.heap.size w w') (hv : ∀ g, v.ownBlock = some g → g < w.heap.size) : GrowAt B W0 w' i n c v lv :=
  ⟨Owns.kept h.own hb, h.at', fun g hg j hj => (hb.cell (p := ⟨g, j, none⟩) (hv g hg)).trans (h.old g hg j hj)⟩
theorem GrowAt.step {B W0 : Nat} {w w' : World} {i n c m : Nat} {v lv lv' : Value} (h : GrowAt B W0 w i n c v lv) (hW : W0 ≤ w.heap.size) (hv : ∀ g, v.ownBlock = some g → g < w.heap.size) (ho : Owns B 3 w' lv' (ivals .i64 (markI i 0 (n + c)) ++ ivals .i64 (markI i (n + c) m))) (hg : w.grownBy w' lv.ownBlock) (hl : lv'.ownBlock = lv.ownBlock ∨ lv'.ownBlock = some w.heap.size)
    (hk : ∀ g, lv.ownBlock = some g → ∀ j, j < (ivals .i64 (markI i 0 (n + c))).length → w'.cell? ⟨g, j, none⟩ = w.cell? ⟨g, j, none⟩) : GrowAt B W0 w' i n (c + m) v lv' := by
  refine ⟨?_, fun g hg' => ?_, fun g hg' j hj => ?_⟩
  · have e : ivals .i64 (markI i 0 (n + (c + m))) = ivals .i64 (markI i 0 (n + c)) ++ ivals .i64 (markI i (n + c) m) := by
      rw [← Nat.add_assoc, markI_add, Nat.zero_add]; unfold ivals; rw [List.map_append]
    rw [e]; exact ho
  · rcases hl with h1 | h1
    · exact h.at' g (h1 ▸ hg')
    · rw [h1] at hg'; right; have : w.heap.size = g := Option.some.inj hg'; omega
  · rw [← h.old g hg' j hj]
    by_cases e : lv.ownBlock = some g
    · exact hk g e j (by rw [ivals_length, markI_len]; omega)
    · exact World.cell?_of_block (w := w) (a := ⟨g, j, none⟩) (hg.block g (hv g hg') (fun h9 => e h9.symm))
structure GrowL (B : Nat) (w0 w : World) (vs : List Value) (ns : List Nat) (os : List Value) (i : Nat) : Prop where
  todo : ∀ (j : Nat) (v : Value) (n : Nat), vs[j]? = some v → ns[j]? = some n → i ≤ j → Owns B 3 w v (ivals .i64 (markI j 0 n))
  done : ∀ (j : Nat) (v : Value) (n : Nat) (o : Value), vs[j]? = some v → ns[j]? = some n → os[j]? = some o → j < i → GrowAt B w0.heap.size w j n 72 v o
theorem GrowL.keep {B : Nat} {w0 w w' : World} {vs : List Value} {ns : List Nat} {os : List Value} {i : Nat} (h : GrowL B w0 w vs ns os i) {S : Nat → Prop} (hk : Keep S w w')
    (ht : ∀ (j : Nat) (v : Value) g, vs[j]? = some v → i ≤ j → v.ownBlock = some g → ¬ S g) (hd : ∀ (j : Nat) (v : Value) g, vs[j]? = some v → j < i → v.ownBlock = some g → g < w.heap.size ∧ ¬ S g) (ho : ∀ (j : Nat) (o : Value) g, os[j]? = some o → o.ownBlock = some g → ¬ S g) : GrowL B w0 w' vs ns os i :=
  ⟨fun j v n h1 h2 h3 => OwnsK.keep (K := 1) (h.todo j v n h1 h2 h3) hk (fun g hg => ht j v g h1 h3 hg),
   fun j v n o h1 h2 h3 h4 => ⟨OwnsK.keep (K := 1) (h.done j v n o h1 h2 h3 h4).own hk (fun g hg => ho j o g h3 hg), (h.done j v n o h1 h2 h3 h4).at', fun g hg k hk9 => (World.cell?_of_block (w := w) (a := ⟨g, k, none⟩) (hk.same g (hd j v g h1 h4 hg).1 (hd j v g h1 h4 hg).2)).trans ((h.done j v n o h1 h2 h3 h4).old g hg k hk9)⟩⟩
theorem app_at {α : Type} {l : List α} {x y : α} {j : Nat} (h : (l ++ [x])[j]? = some y) : (j < l.length ∧ l[j]? = some y) ∨ (j = l.length ∧ y = x) := by
  by_cases hj : j < l.length
  · rw [List.getElem?_append_left hj] at h; exact .inl ⟨hj, h⟩
  · rw [List.getElem?_append_right (by omega)] at h
    have h0 : j - l.length = 0 := by
      have := (List.getElem?_eq_some_iff.1 h).1
      simp at this; omega
    rw [h0] at h
    exact .inr ⟨by omega, (Option.some.inj h).symm⟩
theorem grow_close {B i n : Nat} {t : TypeId} {w0 w1 w6 w7 : World} {vs os : List Value} {ns : List Nat} {va ov o6 v7 : Value} (hO : Owns w0.heap.size t w1 ov os) (hGL : GrowL B w0 w1 vs ns os i) (hsep : ∀ (j : Nat) (o : Value) g, os[j]? = some o → o.ownBlock = some g → g < w1.heap.size ∧ ov.ownBlock ≠ some g) (hKs : Keep (OfL vs) w0 w1) (hva : vs[i]? = some va) (hns : ns[i]? = some n) (hol : os.length = i)
    (hvl : ∀ (j : Nat) (v : Value) g, vs[j]? = some v → v.ownBlock = some g → g < w0.heap.size) (hap : ∀ (i j : Nat) (v u : Value) (g : Nat), vs[i]? = some v → vs[j]? = some u → v.ownBlock = some g → u.ownBlock = some g → i = j)
    (hG6 : GrowAt B w1.heap.size w6 i n 72 va o6) (hK6 : Keep (fun k => va.ownBlock = some k) w1 w6) (hg7 : w6.grownBy w7 ov.ownBlock) (ho7 : OwnsK 1 w0.heap.size t w7 v7 (os.length + 1) (os ++ [o6])) (hl7 : ∀ g, v7.ownBlock = some g → ov.ownBlock = some g ∨ w6.heap.size ≤ g) :
    Owns w0.heap.size t w7 v7 (os ++ [o6]) ∧ (os ++ [o6]).length = i + 1 ∧ Keep (OfL vs) w0 w7 ∧ GrowL B w0 w7 vs ns (os ++ [o6]) (i + 1) ∧ ∀ (j : Nat) (o : Value) g, (os ++ [o6])[j]? = some o → o.ownBlock = some g → g < w7.heap.size ∧ v7.ownBlock ≠ some g := by
  have hK67 : Keep (fun k => ov.ownBlock = some k) w6 w7 := ⟨hg7.os, hg7.tape, hg7.output, hg7.size, fun k hk hn => hg7.block k hk (fun h9 => hn h9.symm)⟩
  have hK7 : Keep (fun k => va.ownBlock = some k ∨ ov.ownBlock = some k) w1 w7 := (hK6.mono (fun k _ h => .inl h)).trans hK67 (fun k _ h => .inr h)
  have ovlt := fun g hg => OwnsK.lt (K := 1) hO g hg
  have valt := fun g hg => hvl i va g hva hg
  have h01 := hKs.size
  have h16 := hK6.size
  have h67 := hK67.size
  have o6lt := fun g hg => (OwnsK.lt (K := 1) hG6.own g hg).2
  have o6ov : ∀ g, o6.ownBlock = some g → ov.ownBlock = some g → False := fun g h1 h2 => by
    have h3 := ovlt g h2
    rcases hG6.at' g h1 with h4 | h4
    · have := valt g h4; omega
    · omega
  refine ⟨by unfold Owns; unfold OwnsK at ho7; simpa using ho7, by simp [hol], hKs.trans hK7 (fun k hk h => ?_), ⟨fun j v m h1 h2 h3 => ?_, fun j v m o h1 h2 h3 h4 => ?_⟩, fun j o g h1 h2 => ?_⟩
  · rcases h with h | h
    · exact ⟨i, va, hva, h⟩
    · have := (ovlt k h).1; omega
  · refine OwnsK.keep (K := 1) (hGL.todo j v m h1 h2 (by omega)) hK7 (fun g hg h9 => ?_)
    rcases h9 with h9 | h9
    · have := hap j i v va g h1 hva hg h9; omega
    · have a1 := (ovlt g h9).1; have a2 := hvl j v g h1 hg; omega
  · rcases app_at h3 with ⟨hj, h5⟩ | ⟨hj, rfl⟩
    · have hd := hGL.done j v m o h1 h2 h5 (by omega)
      have key : ∀ g, v.ownBlock = some g → ¬ (va.ownBlock = some g ∨ ov.ownBlock = some g) := fun g hg h9 => by
        rcases h9 with h9 | h9
        · have := hap j i v va g h1 hva hg h9; omega
        · have a1 := (ovlt g h9).1; have a2 := hvl j v g h1 hg; omega
      refine ⟨OwnsK.keep (K := 1) hd.own hK7 (fun g hg h9 => ?_), hd.at', fun g hg k hk => (World.cell?_of_block (w := w1) (a := ⟨g, k, none⟩) (hK7.same g (by have := hvl j v g h1 hg; omega) (key g hg))).trans (hd.old g hg k hk)⟩
      rcases h9 with h9 | h9
      · rcases hd.at' g hg with h10 | h10
        · exact key g h10 (.inl h9)
        · have := valt g h9; omega
      · exact (hsep j o g h5 hg).2 h9
    · have hji : j = i := by omega
      subst hji
      have e1 := h1.symm.trans hva
      have e2 := h2.symm.trans hns
      injection e1 with e1
      injection e2 with e2
      subst e1 e2
      exact ⟨OwnsK.keep (K := 1) hG6.own hK67 (fun g hg h9 => o6ov g hg h9), fun g hg => (hG6.at' g hg).imp id (fun h => by omega), fun g hg k hk => (World.cell?_of_block (w := w6) (a := ⟨g, k, none⟩) (hK67.same g (by have := valt g hg; omega) (fun h9 => by have a1 := (ovlt g h9).1; have a2 := valt g hg; omega))).trans (hG6.old g hg k hk)⟩
  · rcases app_at h1 with ⟨hj, h5⟩ | ⟨hj, rfl⟩
    · have a := hsep j o g h5 h2
      refine ⟨by omega, fun h9 => ?_⟩
      rcases hl7 g h9 with h10 | h10
      · exact a.2 h10
      · omega
    · have a := o6lt g h2
      refine ⟨by omega, fun h9 => ?_⟩
      rcases hl7 g h9 with h10 | h10
      · exact o6ov g h2 h10
      · omega
theorem E_outK : ElemK Tryz.prog 28 27 (.slice none 0 0) 1 24 := elemK_of Tryz.underlying28 (by kernel_rfl) rfl (by decide)
theorem slice_some {B : Nat} {e : TypeId} {w : World} {r : Value} {xs : List Value} (h : Owns B e w r xs) (h0 : 0 < xs.length) : ∃ g c, r = .slice (some ⟨g, 0, none⟩) xs.length c ∧ ∀ j u, xs[j]? = some u → w.cell? ((⟨g, 0, none⟩ : Addr).add j) = some u := by
  rcases h.shape with ⟨_, h1⟩ | ⟨g, cap, rfl, k1, k2, k3, k4, k5, _⟩
  · rw [h1] at h0; exact absurd h0 (Nat.lt_irrefl 0)
  · exact ⟨g, cap, rfl, fun j u hj => by rw [Addr.add_lit, Nat.zero_add, k5 j (List.getElem?_eq_some_iff.1 hj).1]; exact hj⟩
set_option maxRecDepth 100000 in
set_option maxHeartbeats 2000000 in
/-- growInts: each list grows by twelve and by sixty marks; what stood there stays. -/
theorem growInts_any (B p : Nat) (bi : Value) (vs : List Value) (ns : List Nat) (w : World) (h2 : w.cell? ⟨p, 2, none⟩ = some bi) (hv : VView w bi vs) (hlv : vs.length = ns.length) (hm : vs.length ≤ 1000) (hB : B ≤ w.heap.size)
    (hr : ∀ (i : Nat) (v : Value) (n : Nat), vs[i]? = some v → ns[i]? = some n → Owns B 3 w v (ivals .i64 (markI i 0 n)) ∧ n ≤ 1000000)
    (hap : ∀ (i j : Nat) (v u : Value) (g : Nat), vs[i]? = some v → vs[j]? = some u → v.ownBlock = some g → u.ownBlock = some g → i = j)
    (hp : ¬ OfL vs p) (hbS : ∀ g, bi.ownBlock = some g → ¬ OfL vs g) :
    Calls Tryz.prog 57 #[.pointer (some ⟨p, 0, none⟩)] w fun e w' => ∃ r os, e = .returned r ∧ Owns w.heap.size 27 w' r os ∧ os.length = vs.length ∧ GrowL B w w' vs ns os vs.length ∧ Keep (OfL vs) w w' := by
  obtain ⟨ao, cb9, rfl, hb1, hb2, hb3⟩ := hv
  have HLV := Lib.hid hlv
  unfold maxLen at hb2
  have hvl : ∀ (j : Nat) (v : Value) g, vs[j]? = some v → v.ownBlock = some g → g < w.heap.size := fun j v g h1 hg => by
    have hj := (List.getElem?_eq_some_iff.1 h1).1
    exact (OwnsK.lt (K := 1) (hr j v _ h1 (List.getElem?_eq_getElem (by omega))).1 g hg).2
  have HVL := Lib.hid hvl
  clear hlv hvl
  go_enter Tryz.func57, Tryz.ntmps57
  go_wp2_with fail
  go_loopg [3, 4] vs.length (fun gg ov iv wr => ∃ (i : Nat) (os : List Value), i + gg = vs.length ∧ iv = .int .i64 (i : Int) ∧ Owns w.heap.size 27 wr ov os ∧ os.length = i ∧ Keep (OfL vs) w wr ∧ Hid (GrowL B w wr vs ns os i) ∧ Hid (∀ (j : Nat) (o : Value) g, os[j]? = some o → o.ownBlock = some g → g < wr.heap.size ∧ ov.ownBlock ≠ some g))
  case atStart => exact ⟨0, [], by omega, rfl, Owns.nil _ _ _, rfl, Keep.refl _ _, Lib.hid ⟨fun j v n h1 h2 _ => (hr j v n h1 h2).1, fun j v n o _ _ h3 => by simp at h3⟩, Lib.hid (fun j o g h1 => by simp at h1)⟩
  case round =>
    obtain ⟨i, os, hi, rfl, hO, hol, hKs, hGL, hsep⟩ := hrel
    have e2 := hKs.cell hp h2
    by_cases hil : i < vs.length
    · have hz : (i : Int) < (vs.length : Int) := by omega
      have hz0 : (0 : Int) ≤ (i : Int) := by omega
      have hils : i < ns.length := by rw [← HLV.out]; exact hil
      obtain ⟨va, hva⟩ : ∃ v, vs[i]? = some v := ⟨_, List.getElem?_eq_getElem hil⟩
      obtain ⟨n, hns⟩ : ∃ v, ns[i]? = some v := ⟨_, List.getElem?_eq_getElem hils⟩
      have hnl := (hr i va n hva hns).2
      obtain ⟨gb, rfl, _, cb0⟩ := hb3 i va hva
      have cv := hKs.cell (hbS gb rfl) cb0
      obtain ⟨w1, hw1⟩ : ∃ x, x = wr := ⟨_, rfl⟩
      subst hw1
      have hOv := hGL.out.todo i va n hva hns (Nat.le_refl _)
      have hG0 : GrowAt B w1.heap.size w1 i n 0 va va := ⟨by simpa using hOv, fun g hg => .inl hg, fun g hg j hj => by
        rcases hOv.shape with ⟨rfl, _⟩ | ⟨g9, cap9, rfl, _, _, _, _, k5, _⟩
        · simp [Value.ownBlock] at hg
        · have : g9 = g := by simpa [Value.ownBlock] using hg
          subst this
          exact k5 j (by rw [ivals_length, markI_len]; exact hj)⟩
      have HVA := Lib.hid hva
      have HNS := Lib.hid hns
      have hvw : Hid (∀ g, va.ownBlock = some g → g < w1.heap.size) := Lib.hid (fun g hg => Nat.lt_of_lt_of_le (HVL.out i va g hva hg) hKs.size)
      clear hva hns hOv cb0
      have HG0 := Lib.hid hG0
      clear hG0
      obtain ⟨go1, hgo⟩ : ∃ go, go = gk := ⟨_, rfl⟩
      subst hgo
      go_wp2_with fail
      clear e2 cv
      go_loopg [5, 6] 12 (fun gg lv cvv wr => ∃ c : Nat, c + gg = 12 ∧ cvv = .int .i64 (c : Int) ∧ Hid (GrowAt B w1.heap.size wr i n c va lv) ∧ Keep (fun k => va.ownBlock = some k) w1 wr)
      case atStart => exact ⟨0, by omega, rfl, HG0, Keep.refl _ _⟩
      case round =>
        obtain ⟨c, hc, rfl, hG, hK1⟩ := hrel
        have hOl := hG.out.own
        obtain ⟨q, hq⟩ : ∃ q, q = n + c := ⟨_, rfl⟩
        rw [← hq] at hOl
        obtain ⟨lo, lc, rfl, hl1, hl2, _⟩ := OwnsK.slice (K := 1) hOl
        have hql : (ivals .i64 (markI i 0 q)).length = q := by rw [ivals_length, markI_len]
        rw [hql] at hOl hG ⊢
        have HQ := Lib.hid hq
        have hqb : q ≤ 2000000 := by omega
        clear hq hl1 hl2
        have hBs : B ≤ wr.heap.size := Nat.le_trans hB (Nat.le_trans hKs.size hK1.size)
        have hvr : ∀ g, va.ownBlock = some g → g < wr.heap.size := fun g hg => Nat.lt_of_lt_of_le (hvw.out g hg) hK1.size
        have HVR := Lib.hid hvr
        clear hvr
        by_cases hc12 : c < 12
        · have hcz : (c : Int) < 12 := by omega
          have hM := fun W => markInts_any i q 1 W (by omega) (by omega) (by omega)
          have e1 : ((1 : Nat) : Int) = 1 := rfl
          rw [e1] at hM
          clear e1
          have hml : (ivals .i64 (markI i q 1)).length = 1 := by rw [ivals_length, markI_len]
          go_wp2_with (first | (go_at_call 91; (with_reducible refine (hM _).mono ?_); rintro e9 w3 ⟨r9, rfl, hOm, hb⟩; obtain ⟨gm, mc, rfl, hmc⟩ := slice_some hOm (by rw [hml]; decide); rw [hml]; have hG3 := Lib.hid (hG.out.below hb HVR.out); have hOl3 := Owns.kept hOl hb; have hK3 := hK1.then_below hb; have HB3 := Lib.hid hb.size; clear hOm hb hOl) | (at_builtin; refine appX E_ints (us := ivals .i64 (markI i q 1)) hOl3 rfl rfl rfl rfl hml.symm hmc (ivals_oneZ _) (by rw [hql, hml]; omega) (by rw [hql, hml]; unfold maxLen; omega) (Nat.le_trans hBs HB3.out) ?_; intro v6 w6 ho6 hg6 hl6 hk6))
          have hG6 : Hid (GrowAt B w1.heap.size w6 i n (c + 1) va v6) := Lib.hid (hG3.out.step (Nat.le_trans hK1.size HB3.out) (fun g hg => Nat.lt_of_lt_of_le (HVR.out g hg) HB3.out) (by rw [← HQ.out]; exact ho6) hg6 hl6 (by rw [← HQ.out]; exact hk6))
          have hK6 : Keep (fun k => va.ownBlock = some k) w1 w6 := hK3.trans (S' := fun k => Value.ownBlock (.slice lo q lc) = some k) ⟨hg6.os, hg6.tape, hg6.output, hg6.size, fun k hk hn => hg6.block k hk (fun h9 => hn h9.symm)⟩ (fun k hk h9 => by
            rcases hG3.out.at' k h9 with h10 | h10
            · exact h10
            · omega)
          clear hG hG3 hK1 hK3 hOl3 ho6 hg6 hl6 hk6 hmc
          go_roundg (gk - 1)
          case measure => omega
          case rel => exact ⟨c + 1, by omega, by go_num, hG6, hK6⟩
        · obtain rfl : c = 12 := by omega
          have hM := fun W => markInts_any i q 60 W (by omega) (by omega) (by omega)
          have e1 : ((60 : Nat) : Int) = 60 := rfl
          rw [e1] at hM
          clear e1
          have hml : (ivals .i64 (markI i q 60)).length = 60 := by rw [ivals_length, markI_len]
          have hOo : Owns w.heap.size 27 wr _ os := OwnsK.keep (K := 1) hO hK1 (fun g hg h9 => by have h10 := (OwnsK.lt (K := 1) hO g hg).1; have h11 := HVL.out i va g HVA.out h9; omega)
          have HOL := Lib.hid (OwnsK.lt (K := 1) hO)
          have HSP := Lib.hid (fun (g : Nat) (h9 : w.heap.size ≤ g ∧ g < w1.heap.size) (h10 : Value.ownBlock (.slice lo q lc) = some g) => (show False by
            rcases hG.out.at' g h10 with h11 | h11
            · have := HVL.out i va g HVA.out h11; omega
            · omega))
          go_wp2_with (first | (go_at_call 91; (with_reducible refine (hM _).mono ?_); rintro e9 w3 ⟨r9, rfl, hOm, hb⟩; obtain ⟨gm, mc, rfl, hmc⟩ := slice_some hOm (by rw [hml]; decide); rw [hml]; have hG3 := Lib.hid (hG.out.below hb HVR.out); have hOl3 := Owns.kept hOl hb; have hOo3 := Owns.kept hOo hb; have hK3 := hK1.then_below hb; have HB3 := Lib.hid hb.size; clear hOm hb hOl hOo) | (at_builtin; refine appX E_ints (us := ivals .i64 (markI i q 60)) hOl3 rfl rfl rfl rfl hml.symm hmc (ivals_oneZ _) (by rw [hql, hml]; omega) (by rw [hql, hml]; unfold maxLen; omega) (Nat.le_trans hBs HB3.out) ?_; intro v6 w6 ho6 hg6 hl6 hk6; obtain ⟨ao6, c6, rfl, _, _, _⟩ := OwnsK.slice (K := 1) ho6; have hOo6 := OwnsK.block (K := 1) hOo3 (fun g hg => hg6.block g (OwnsK.lt (K := 1) hOo3 g hg).2 (fun h9 => HSP.out g (HOL.out g hg) h9.symm))) | (at_builtin; refine append1KO E_outK hOo6 rfl rfl rfl rfl rfl (by simp [Value.oneCell']) (by omega) (by unfold maxLen; omega) (Nat.le_trans (Nat.le_trans hKs.size hK1.size) (Nat.le_trans HB3.out hg6.size)) ?_; intro v7 w7 ho7 hb7 hg7 hl7))
          have h60 : (ivals .i64 (markI i 0 q) ++ ivals .i64 (markI i q 60)).length = q + 60 := by rw [List.length_append, hql, hml]
          rw [h60] at ho6 hl6
          have hG6 : GrowAt B w1.heap.size w6 i n (12 + 60) va _ := hG3.out.step (Nat.le_trans hK1.size HB3.out) (fun g hg => Nat.lt_of_lt_of_le (HVR.out g hg) HB3.out) (by rw [← HQ.out]; exact ho6) hg6 hl6 (by rw [← HQ.out]; exact hk6)
          have hK6 : Keep (fun k => va.ownBlock = some k) w1 w6 := hK3.trans (S' := fun k => Value.ownBlock (.slice lo q lc) = some k) ⟨hg6.os, hg6.tape, hg6.output, hg6.size, fun k hk hn => hg6.block k hk (fun h9 => hn h9.symm)⟩ (fun k hk h9 => by
            rcases hG3.out.at' k h9 with h10 | h10
            · exact h10
            · omega)
          obtain ⟨z1, z2, z3, z4, z5⟩ := grow_close hO hGL.out hsep.out hKs HVA.out HNS.out hol HVL.out hap hG6 hK6 hg7 ho7 hl7
          have Z4 := Lib.hid z4
          have Z5 := Lib.hid z5
          clear z4 z5 hG hG3 hG6 hK6 hK3 hK1 hOl3 hOo3 hOo6 ho6 hg6 hl6 hk6 ho7 hb7 hg7 hl7 hGL hsep hO hKs hmc
          go_roundg (go1 - 1)
          case measure => omega
          case rel => exact ⟨i + 1, _, by omega, by go_num, z1, z2, z3, Z4, Z5⟩
    · have hz : ¬ (i : Int) < (vs.length : Int) := by omega
      obtain rfl : i = vs.length := by omega
      go_wp2_with fail
      go_ret
      exact ⟨_, rfl, os, hO, hol, hGL.out, hKs⟩
end Go.Proofs.YtlmjkbdodecbmaaGreatDoor

namespace Go.Proofs.YtlmjkbdodecbmaaGreatDoor
open Go.RowKit Go.Shelf
set_option linter.unusedVariables false
set_option linter.unusedSimpArgs false
theorem VView.keep {S : Nat → Prop} {w W : World} {v : Value} {xs : List Value} (h : VView w v xs) (hk : Keep S w W) (hS : ∀ g, v.ownBlock = some g → ¬ S g) : VView W v xs := by
  obtain ⟨ao, cap, rfl, h2, h3, h4⟩ := h
  refine ⟨ao, cap, rfl, h2, h3, fun i x hx => ?_⟩
  obtain ⟨b, e1, e2, e3⟩ := h4 i x hx
  exact ⟨b, e1, Nat.lt_of_lt_of_le e2 hk.size, hk.cell (hS b (by rw [e1]; rfl)) e3⟩
theorem GrowAt.ints {Bs W0 : Nat} {w0 w : World} {i n c : Nat} {v lv : Value} (h : GrowAt Bs W0 w i n c v lv) (hv : Owns Bs 3 w0 v (ivals .i64 (markI i 0 n))) (hlt : ∀ g, v.ownBlock = some g → g < w.heap.size) : IntsI .i64 w v (markI i 0 n) := by
  rcases hv.shape with ⟨rfl, h0⟩ | ⟨g, cap, rfl, _, _, k3, k4, _, _⟩
  · have h1 := congrArg List.length h0
    rw [ivals_length] at h1
    have h2 : markI i 0 n = [] := List.eq_nil_of_length_eq_zero h1
    rw [h2]
    exact ⟨none, 0, rfl, Nat.le_refl _, Nat.zero_le _, .inl rfl⟩
  · rw [ivals_length] at k3 ⊢
    refine ⟨_, cap, rfl, k3, k4, .inr ⟨g, 0, rfl, hlt g rfl, fun j hj => ?_⟩⟩
    rw [Nat.zero_add, h.old g rfl j (by rw [markI_len] at hj; exact hj)]
    unfold ivals
    rw [List.getElem?_map, List.getElem?_eq_getElem hj]; rfl
set_option maxRecDepth 100000 in
set_option maxHeartbeats 4000000 in
/-- Apart: lists of their own. -/
theorem apart_ints (Bs p : Nat) (bi bw : Value) (vs us : List Value) (ls : List (List Int)) (w : World) (hbx : BoxL w p [.slice none 0 0, .slice none 0 0, bi, bw, .slice none 0 0, .slice none 0 0, .slice none 0 0, .slice none 0 0, .slice none 0 0, .slice none 0 0, .slice none 0 0, .slice none 0 0]) (hV : VView w bi vs) (hU : VView w bw us) (hlv : vs.length = ls.length) (hlu : us.length = ls.length) (hm : vs.length ≤ 250) (hB : Bs ≤ w.heap.size)
    (hr : ∀ (i : Nat) (v : Value) (ns : List Int), vs[i]? = some v → ls[i]? = some ns → Owns Bs 3 w v (ivals .i64 ns) ∧ ns.length ≤ 1000000) (hs : ∀ (i : Nat) (v : Value) (ns : List Int), us[i]? = some v → ls[i]? = some ns → Owns Bs 3 w v (ivals .i64 ns))
    (hap : ∀ (i j : Nat) (v u : Value) (g : Nat), vs[i]? = some v → vs[j]? = some u → v.ownBlock = some g → u.ownBlock = some g → i = j) (hp : ¬ OfL vs p) (hbS : ∀ g, bi.ownBlock = some g → ¬ OfL vs g) :
    Calls Tryz.prog 16 #[.pointer (some ⟨p, 0, none⟩)] w fun e w' => e = .returned (.bool true) ∧ Below Bs w w' := by
  have hSB : ∀ k, OfL vs k → Bs ≤ k := fun k ⟨i, v, h1, h2⟩ => by
    have hi := (List.getElem?_eq_some_iff.1 h1).1
    exact (OwnsK.lt (K := 1) (hr i v _ h1 (List.getElem?_eq_getElem (by omega))).1 k h2).1
  have HR := Lib.hid hr
  have HS := Lib.hid hs
  clear hr hs
  have hbf : Below w.heap.size w w := Below.refl _ _
  obtain ⟨w0, hw0⟩ : ∃ x, x = w := ⟨_, rfl⟩
  skip
  go_enter Tryz.func16, Tryz.ntmps16
  go_upto_region 1 with fail
  go_upto_region 3 with (go_at_call 44; (with_reducible refine (stillTexts_no p w (hbx.cell 0 _ rfl)).mono ?_); rintro e9 v1 ⟨rfl, hb⟩)
  replace hbx := hbx.kept hb
  replace hV := hV.below hb
  replace hbf := hbf.trans (hb.mono hbf.size)
  clear hb
  have hst := stillInts_any p bi bw vs us ls v1 (hbx.cell 2 _ rfl) (hbx.cell 3 _ rfl) hV (hU.below hbf) hlv hlu (fun i v ns h1 h2 => ((ints_of_owns (HR.out i v ns h1 h2).1).1).below hbf) (fun i v ns h1 h2 => ((ints_of_owns (HS.out i v ns h1 h2)).1).below hbf)
  go_upto_region 5 with (go_at_call 45; (with_reducible refine (hst).mono ?_); rintro e9 v2 ⟨rfl, hb⟩)
  replace hbx := hbx.kept hb
  replace hV := hV.below hb
  replace hbf := hbf.trans (hb.mono hbf.size)
  clear hb
  clear hst hU HS
  go_upto_region 7 with (go_at_call 46; (with_reducible refine (stillPats_no p v2 (hbx.cell 4 _ rfl)).mono ?_); rintro e9 v3 ⟨rfl, hb⟩)
  replace hbx := hbx.kept hb
  replace hV := hV.below hb
  replace hbf := hbf.trans (hb.mono hbf.size)
  clear hb
  go_upto_region 9 with (go_at_call 47; (with_reducible refine (stillDiags_no p v3 (hbx.cell 6 _ rfl)).mono ?_); rintro e9 v4 ⟨rfl, hb⟩)
  replace hbx := hbx.kept hb
  replace hV := hV.below hb
  replace hbf := hbf.trans (hb.mono hbf.size)
  clear hb
  go_upto_region 11 with (go_at_call 48; (with_reducible refine (stillValues_no p v4 (hbx.cell 8 _ rfl)).mono ?_); rintro e9 v5 ⟨rfl, hb⟩)
  replace hbx := hbx.kept hb
  replace hV := hV.below hb
  replace hbf := hbf.trans (hb.mono hbf.size)
  clear hb
  go_upto_region 13 with (go_at_call 49; (with_reducible refine (stillSteps_no p v5 (hbx.cell 10 _ rfl)).mono ?_); rintro e9 v6 ⟨rfl, hb⟩)
  replace hbx := hbx.kept hb
  replace hV := hV.below hb
  replace hbf := hbf.trans (hb.mono hbf.size)
  clear hb
  go_upto_region 14 with (go_at_call 50; (with_reducible refine (putSteps_no p v6 (hbx.cell 10 _ rfl)).mono ?_); rintro e9 v7 ⟨rfl, hb⟩)
  replace hbx := hbx.kept hb
  replace hV := hV.below hb
  replace hbf := hbf.trans (hb.mono hbf.size)
  clear hb
  go_upto_region 15 with (go_at_call 51; (with_reducible refine (putTexts_no p v7 (hbx.cell 0 _ rfl)).mono ?_); rintro e9 v8 ⟨rfl, hb⟩)
  replace hbx := hbx.kept hb
  replace hV := hV.below hb
  replace hbf := hbf.trans (hb.mono hbf.size)
  clear hb
  have hpt := putInts_any Bs p bi vs ls v8 (hbx.cell 2 _ rfl) hV hlv (by omega) (Nat.le_trans hB hbf.size) (fun i v ns h1 h2 => ⟨Owns.kept (HR.out i v ns h1 h2).1 hbf, (HR.out i v ns h1 h2).2⟩) hap hp hbS
  go_upto_region 16 with (go_at_call 52; (with_reducible refine (hpt).mono ?_); rintro e9 v9 ⟨rfl, hM, hK⟩)
  clear hpt
  have hPW : Below Bs v8 v9 := hK.below hSB (Nat.le_trans hB hbf.size)
  have hB2 : Below Bs w v9 := ((⟨hbf.os, hbf.tape, hbf.output, hbf.size, fun k hk => hbf.block k (by omega)⟩ : Below Bs w v8)).trans hPW
  replace hV := hV.keep hK hbS
  replace hbx := hbx.keep hK hp
  have hszB : Bs ≤ v9.heap.size := Nat.le_trans (Nat.le_trans hB hbf.size) hK.size
  have HM := Lib.hid hM
  clear hbf hM hK hPW
  have hbf : Below v9.heap.size v9 v9 := Below.refl _ _
  obtain ⟨wp, hwp⟩ : ∃ x, x = v9 := ⟨_, rfl⟩
  subst hwp
  go_upto_region 17 with (go_at_call 53; (with_reducible refine (putPats_no p wp (hbx.cell 4 _ rfl)).mono ?_); rintro e9 v10 ⟨rfl, hb⟩)
  replace hbx := hbx.kept hb
  replace hV := hV.below hb
  replace hbf := hbf.trans (hb.mono hbf.size)
  clear hb
  go_upto_region 18 with (go_at_call 54; (with_reducible refine (putDiags_no p v10 (hbx.cell 6 _ rfl)).mono ?_); rintro e9 v11 ⟨rfl, hb⟩)
  replace hbx := hbx.kept hb
  replace hV := hV.below hb
  replace hbf := hbf.trans (hb.mono hbf.size)
  clear hb
  go_upto_region 19 with (go_at_call 55; (with_reducible refine (putValues_no p v11 (hbx.cell 8 _ rfl)).mono ?_); rintro e9 v12 ⟨rfl, hb⟩)
  replace hbx := hbx.kept hb
  replace hV := hV.below hb
  replace hbf := hbf.trans (hb.mono hbf.size)
  clear hb
  go_upto_region 20 with (go_at_call 56; (with_reducible refine (growTexts_no p v12 (hbx.cell 0 _ rfl)).mono ?_); rintro e9 v13 ⟨rfl, hb⟩)
  replace hbx := hbx.kept hb
  replace hV := hV.below hb
  replace hbf := hbf.trans (hb.mono hbf.size)
  clear hb
  have hgw := growInts_any Bs p bi vs (ls.map List.length) v13 (hbx.cell 2 _ rfl) hV (by rw [List.length_map]; exact hlv) (by omega) (Nat.le_trans hszB hbf.size) (fun i v n h1 h2 => by
    rw [List.getElem?_map] at h2
    cases hq : ls[i]? with
    | none => rw [hq] at h2; cases h2
    | some ns =>
      rw [hq] at h2
      have h3 : ns.length = n := Option.some.inj h2
      subst h3
      exact ⟨Owns.kept (HM.out i v ns h1 hq) hbf, (HR.out i v ns h1 hq).2⟩) hap hp hbS
  go_upto_region 21 with (go_at_call 57; (with_reducible refine (hgw).mono ?_); rintro e9 v14 ⟨gr, os, rfl, hOg, hol, hGL, hK⟩)
  clear hgw
  have hV0 := hV
  replace hV := hV.keep hK hbS
  replace hbx := hbx.keep hK hp
  have hB3 : Below Bs w v14 := (hB2.trans (⟨hbf.os, hbf.tape, hbf.output, hbf.size, fun k hk => hbf.block k (by omega)⟩ : Below Bs wp v13)).trans (hK.below hSB (Nat.le_trans hszB hbf.size))
  have hVG := hV
  have hVg := VView.of hOg
  have hwpl : wp.heap.size ≤ v14.heap.size := Nat.le_trans hbf.size hK.size
  have HGL := Lib.hid hGL
  clear hbf hK hOg hB2 hGL
  have hbf : Below v14.heap.size v14 v14 := Below.refl _ _
  obtain ⟨wg, hwg⟩ : ∃ x, x = v14 := ⟨_, rfl⟩
  subst hwg
  go_upto_region 22 with (go_at_call 58; (with_reducible refine (growPats_no p wg (hbx.cell 4 _ rfl)).mono ?_); rintro e9 v15 ⟨rfl, hb⟩)
  replace hbx := hbx.kept hb
  replace hV := hV.below hb
  replace hbf := hbf.trans (hb.mono hbf.size)
  clear hb
  go_upto_region 23 with (go_at_call 59; (with_reducible refine (growDiags_no p v15 (hbx.cell 6 _ rfl)).mono ?_); rintro e9 v16 ⟨rfl, hb⟩)
  replace hbx := hbx.kept hb
  replace hV := hV.below hb
  replace hbf := hbf.trans (hb.mono hbf.size)
  clear hb
  go_upto_region 24 with (go_at_call 60; (with_reducible refine (growValues_no p v16 (hbx.cell 8 _ rfl)).mono ?_); rintro e9 v17 ⟨rfl, hb⟩)
  replace hbx := hbx.kept hb
  replace hV := hV.below hb
  replace hbf := hbf.trans (hb.mono hbf.size)
  clear hb
  have HNS := Lib.hid hol
  clear hol
  have hg1 : ∀ W, Below wg.heap.size wg W → Calls Tryz.prog 63 #[gr] W fun e w9 => e = .returned (.bool true) ∧ Below W.heap.size W w9 := fun W hW => markedInts_any gr os (ls.map fun l => l.length + 72) W (hVg.below hW) (by rw [HNS.out, List.length_map]; exact hlv) (by rw [HNS.out]; omega) (fun i o n h1 h2 => by
    rw [List.getElem?_map] at h2
    cases hq : ls[i]? with
    | none => rw [hq] at h2; cases h2
    | some ns =>
      rw [hq] at h2
      have h3 : ns.length + 72 = n := Option.some.inj h2
      subst h3
      have hil : i < vs.length := by have := (List.getElem?_eq_some_iff.1 hq).1; omega
      have hvi := List.getElem?_eq_getElem hil
      have hga := HGL.out.done i _ ns.length o hvi (by rw [List.getElem?_map, hq]; rfl) h1 hil
      exact ⟨((ints_of_owns hga.own).1).below hW, by have := (HR.out i _ ns hvi hq).2; omega⟩)
  have hg2 : ∀ W, Below wg.heap.size wg W → Calls Tryz.prog 63 #[bi] W fun e w9 => e = .returned (.bool true) ∧ Below W.heap.size W w9 := fun W hW => markedInts_any bi vs (ls.map List.length) W (hVG.below hW) (by rw [List.length_map]; exact hlv) (by omega) (fun i v n h1 h2 => by
    rw [List.getElem?_map] at h2
    cases hq : ls[i]? with
    | none => rw [hq] at h2; cases h2
    | some ns =>
      rw [hq] at h2
      have h3 : ns.length = n := Option.some.inj h2
      subst h3
      have hil : i < os.length := by rw [HNS.out]; exact (List.getElem?_eq_some_iff.1 h1).1
      have hoi := List.getElem?_eq_getElem hil
      have hga := HGL.out.done i v ns.length _ h1 (by rw [List.getElem?_map, hq]; rfl) hoi (List.getElem?_eq_some_iff.1 h1).1
      have hmo := HM.out i v ns h1 hq
      exact ⟨(hga.ints hmo (fun g hg => Nat.lt_of_lt_of_le (OwnsK.lt (K := 1) hmo g hg).2 hwpl)).below hW, by have := (HR.out i v ns h1 hq).2; omega⟩)
  have HG1 := Lib.hid hg1
  have HG2 := Lib.hid hg2
  clear hg1 hg2 HM HGL hV hVg HNS
  go_wp2_with fail
  (with_reducible refine (growSteps_no p _ (hbx.cell 10 _ rfl)).mono ?_)
  rintro e9 v19 ⟨rfl, hb⟩
  replace hbx := hbx.kept hb
  replace hbf := hbf.trans (hb.mono hbf.size)
  clear hb
  have c0 := hbx.cell 0 _ rfl
  have c2 := hbx.cell 2 _ rfl
  have c4 := hbx.cell 4 _ rfl
  have c6 := hbx.cell 6 _ rfl
  have c8 := hbx.cell 8 _ rfl
  have c10 := hbx.cell 10 _ rfl
  go_wp2_with fail
  (with_reducible refine (markedTexts_no _).mono ?_)
  rintro e9 v20 ⟨rfl, hb⟩
  clear c0 c2 c4 c6 c8 c10
  replace hbx := hbx.kept hb
  replace hbf := hbf.trans (hb.mono hbf.size)
  clear hb
  have c0 := hbx.cell 0 _ rfl
  have c2 := hbx.cell 2 _ rfl
  have c4 := hbx.cell 4 _ rfl
  have c6 := hbx.cell 6 _ rfl
  have c8 := hbx.cell 8 _ rfl
  have c10 := hbx.cell 10 _ rfl
  go_wp2_with fail
  simp only [List.append_eq, List.cons_append, List.nil_append]
  go_wp2_with fail
  (with_reducible refine (markedTexts_no _).mono ?_)
  rintro e9 v21 ⟨rfl, hb⟩
  clear c0 c2 c4 c6 c8 c10
  replace hbx := hbx.kept hb
  replace hbf := hbf.trans (hb.mono hbf.size)
  clear hb
  have c0 := hbx.cell 0 _ rfl
  have c2 := hbx.cell 2 _ rfl
  have c4 := hbx.cell 4 _ rfl
  have c6 := hbx.cell 6 _ rfl
  have c8 := hbx.cell 8 _ rfl
  have c10 := hbx.cell 10 _ rfl
  go_wp2_with fail
  (with_reducible refine (HG1.out _ hbf).mono ?_)
  rintro e9 v22 ⟨rfl, hb⟩
  clear c0 c2 c4 c6 c8 c10
  replace hbx := hbx.kept hb
  replace hbf := hbf.trans (hb.mono hbf.size)
  clear hb
  have c0 := hbx.cell 0 _ rfl
  have c2 := hbx.cell 2 _ rfl
  have c4 := hbx.cell 4 _ rfl
  have c6 := hbx.cell 6 _ rfl
  have c8 := hbx.cell 8 _ rfl
  have c10 := hbx.cell 10 _ rfl
  go_wp2_with fail
  (with_reducible refine (HG2.out _ hbf).mono ?_)
  rintro e9 v23 ⟨rfl, hb⟩
  clear c0 c2 c4 c6 c8 c10
  replace hbx := hbx.kept hb
  replace hbf := hbf.trans (hb.mono hbf.size)
  clear hb
  have c0 := hbx.cell 0 _ rfl
  have c2 := hbx.cell 2 _ rfl
  have c4 := hbx.cell 4 _ rfl
  have c6 := hbx.cell 6 _ rfl
  have c8 := hbx.cell 8 _ rfl
  have c10 := hbx.cell 10 _ rfl
  go_wp2_with fail
  (with_reducible refine (markedPats_no _).mono ?_)
  rintro e9 v24 ⟨rfl, hb⟩
  clear c0 c2 c4 c6 c8 c10
  replace hbx := hbx.kept hb
  replace hbf := hbf.trans (hb.mono hbf.size)
  clear hb
  have c0 := hbx.cell 0 _ rfl
  have c2 := hbx.cell 2 _ rfl
  have c4 := hbx.cell 4 _ rfl
  have c6 := hbx.cell 6 _ rfl
  have c8 := hbx.cell 8 _ rfl
  have c10 := hbx.cell 10 _ rfl
  go_wp2_with fail
  (with_reducible refine (markedPats_no _).mono ?_)
  rintro e9 v25 ⟨rfl, hb⟩
  clear c0 c2 c4 c6 c8 c10
  replace hbx := hbx.kept hb
  replace hbf := hbf.trans (hb.mono hbf.size)
  clear hb
  have c0 := hbx.cell 0 _ rfl
  have c2 := hbx.cell 2 _ rfl
  have c4 := hbx.cell 4 _ rfl
  have c6 := hbx.cell 6 _ rfl
  have c8 := hbx.cell 8 _ rfl
  have c10 := hbx.cell 10 _ rfl
  go_wp2_with fail
  (with_reducible refine (markedDiags_no _).mono ?_)
  rintro e9 v26 ⟨rfl, hb⟩
  clear c0 c2 c4 c6 c8 c10
  replace hbx := hbx.kept hb
  replace hbf := hbf.trans (hb.mono hbf.size)
  clear hb
  have c0 := hbx.cell 0 _ rfl
  have c2 := hbx.cell 2 _ rfl
  have c4 := hbx.cell 4 _ rfl
  have c6 := hbx.cell 6 _ rfl
  have c8 := hbx.cell 8 _ rfl
  have c10 := hbx.cell 10 _ rfl
  go_wp2_with fail
  (with_reducible refine (markedDiags_no _).mono ?_)
  rintro e9 v27 ⟨rfl, hb⟩
  clear c0 c2 c4 c6 c8 c10
  replace hbx := hbx.kept hb
  replace hbf := hbf.trans (hb.mono hbf.size)
  clear hb
  have c0 := hbx.cell 0 _ rfl
  have c2 := hbx.cell 2 _ rfl
  have c4 := hbx.cell 4 _ rfl
  have c6 := hbx.cell 6 _ rfl
  have c8 := hbx.cell 8 _ rfl
  have c10 := hbx.cell 10 _ rfl
  go_wp2_with fail
  (with_reducible refine (markedValues_no _).mono ?_)
  rintro e9 v28 ⟨rfl, hb⟩
  clear c0 c2 c4 c6 c8 c10
  replace hbx := hbx.kept hb
  replace hbf := hbf.trans (hb.mono hbf.size)
  clear hb
  have c0 := hbx.cell 0 _ rfl
  have c2 := hbx.cell 2 _ rfl
  have c4 := hbx.cell 4 _ rfl
  have c6 := hbx.cell 6 _ rfl
  have c8 := hbx.cell 8 _ rfl
  have c10 := hbx.cell 10 _ rfl
  go_wp2_with fail
  (with_reducible refine (markedValues_no _).mono ?_)
  rintro e9 v29 ⟨rfl, hb⟩
  clear c0 c2 c4 c6 c8 c10
  replace hbx := hbx.kept hb
  replace hbf := hbf.trans (hb.mono hbf.size)
  clear hb
  have c0 := hbx.cell 0 _ rfl
  have c2 := hbx.cell 2 _ rfl
  have c4 := hbx.cell 4 _ rfl
  have c6 := hbx.cell 6 _ rfl
  have c8 := hbx.cell 8 _ rfl
  have c10 := hbx.cell 10 _ rfl
  go_wp2_with fail
  (with_reducible refine (markedSteps_no _).mono ?_)
  rintro e9 v30 ⟨rfl, hb⟩
  clear c0 c2 c4 c6 c8 c10
  replace hbx := hbx.kept hb
  replace hbf := hbf.trans (hb.mono hbf.size)
  clear hb
  have c0 := hbx.cell 0 _ rfl
  have c2 := hbx.cell 2 _ rfl
  have c4 := hbx.cell 4 _ rfl
  have c6 := hbx.cell 6 _ rfl
  have c8 := hbx.cell 8 _ rfl
  have c10 := hbx.cell 10 _ rfl
  go_wp2_with fail
  (with_reducible refine (markedSteps_no _).mono ?_)
  rintro e9 v31 ⟨rfl, hb⟩
  clear c0 c2 c4 c6 c8 c10
  replace hbx := hbx.kept hb
  replace hbf := hbf.trans (hb.mono hbf.size)
  clear hb
  have c0 := hbx.cell 0 _ rfl
  have c2 := hbx.cell 2 _ rfl
  have c4 := hbx.cell 4 _ rfl
  have c6 := hbx.cell 6 _ rfl
  have c8 := hbx.cell 8 _ rfl
  have c10 := hbx.cell 10 _ rfl
  go_wp2_with fail
  go_ret
  exact ⟨rfl, hB3.trans (⟨hbf.os, hbf.tape, hbf.output, hbf.size, fun k hk => hbf.block k (Nat.lt_of_lt_of_le hk (Nat.le_trans hszB hwpl))⟩)⟩
end Go.Proofs.YtlmjkbdodecbmaaGreatDoor

namespace Go.Proofs.YtlmjkbdodecbmaaGreatDoor
set_option linter.unusedVariables false
set_option linter.unusedSimpArgs false
/-- A number with its sign. -/
def sg (neg : Bool) (n : Nat) : Int := if neg then -(n : Int) else n
theorem sg_natAbs (neg : Bool) (n : Nat) : (sg neg n).natAbs = n := by cases neg <;> simp [sg]
/-- The fraction of a sign and two numbers. -/
def qOf (neg : Bool) (n d : Nat) : Rat := mkRat (sg neg n) d
theorem qOf_num {neg : Bool} {n d : Nat} (hd : 0 < d) : (qOf neg n d).num = sg neg (n / Nat.gcd n d) := by
  have hd' : d ≠ 0 := by omega
  unfold qOf
  rw [Rat.mkRat_def, dif_neg hd', Rat.normalize_eq]
  simp only [sg_natAbs]
  cases neg
  · simp [sg]
  · simp only [sg, if_true]
    rw [Int.neg_ediv_of_dvd (Int.natCast_dvd_natCast.2 (Nat.gcd_dvd_left _ _))]
    simp
theorem qOf_den {neg : Bool} {n d : Nat} (hd : 0 < d) : (qOf neg n d).den = d / Nat.gcd n d := by
  have hd' : d ≠ 0 := by omega
  unfold qOf
  rw [Rat.mkRat_def, dif_neg hd', Rat.normalize_eq]
  simp only [sg_natAbs]
theorem qOf_zero (neg : Bool) (d : Nat) : qOf neg 0 d = 0 := by
  unfold qOf
  have : sg neg 0 = 0 := by cases neg <;> rfl
  rw [this, Rat.zero_mkRat]
theorem q_neg (q : Rat) : q < 0 ↔ q.num < 0 := by rw [Rat.lt_iff]; simp
theorem qOf_self (q : Rat) : qOf (decide (q < 0)) q.num.natAbs q.den = q := by
  have h : sg (decide (q < 0)) q.num.natAbs = q.num := by
    unfold sg
    by_cases h : q < 0
    · have := (q_neg q).1 h
      simp only [h, decide_true, if_true]; omega
    · have h1 : ¬ q.num < 0 := fun h2 => h ((q_neg q).2 h2)
      simp only [h, decide_false]
      simp; omega
  unfold qOf
  rw [h, Rat.mkRat_self]
theorem qOf_neg {neg : Bool} {n d : Nat} (hn : 0 < n) (hd : 0 < d) : decide (qOf neg n d < 0) = neg := by
  have hg : 0 < n / Nat.gcd n d := Nat.div_pos (Nat.gcd_le_left _ hn) (Nat.gcd_pos_of_pos_left _ hn)
  have h := q_neg (qOf neg n d)
  rw [qOf_num hd] at h
  cases neg
  · rw [decide_eq_false_iff_not, h]; simp [sg]; omega
  · rw [decide_eq_true_iff, h]; simp only [sg, if_true]; omega
theorem qOf_eq_zero {neg : Bool} {n d : Nat} (hn : 0 < n) (hd : 0 < d) : qOf neg n d ≠ 0 := by
  intro h
  have hg : 0 < n / Nat.gcd n d := Nat.div_pos (Nat.gcd_le_left _ hn) (Nat.gcd_pos_of_pos_left _ hn)
  have h1 := qOf_num (neg := neg) (n := n) hd
  rw [h] at h1
  have h2 := congrArg Int.natAbs h1
  rw [sg_natAbs] at h2
  simp at h2
  omega
/-! What is reckoned of signs, numerators and denominators is what is reckoned of the fractions. -/
theorem qOf_frac (neg : Bool) (n : Nat) {d : Nat} (hd : 0 < d) : qOf neg n d = (sg neg n : Rat) / (d : Rat) := by
  unfold qOf
  rw [Rat.mkRat_eq_div]
theorem q_add_eq (a b : Rat) : a + b = mkRat (a.num * b.den + b.num * a.den) (a.den * b.den) := by
  rw [Rat.add_def, Rat.mkRat_def, dif_neg (Nat.ne_of_gt (Nat.mul_pos a.den_pos b.den_pos))]
theorem qneg_num (a : Rat) : (-a).num.natAbs = a.num.natAbs ∧ (-a).den = a.den := by
  simp
end Go.Proofs.YtlmjkbdodecbmaaGreatDoor
