/-
  Pk29: BookD BookG (what is needed of them).
-/
import Derived.Test.YtcpfanpcdkoiaaaGreatPk28
set_option maxRecDepth 100000
set_option linter.unusedVariables false
set_option linter.unusedSimpArgs false

namespace Go.Proofs.YtcpfanpcdkoiaaaGreat
open Go.RowKit Go.Shelf


def OfL (vs : List Value) (k : Nat) : Prop := ∃ (i : Nat) (v : Value), vs[i]? = some v ∧ v.ownBlock = some k
theorem Keep.cell {S : Nat → Prop} {w w' : World} (h : Keep S w w') {b i : Nat} {x : Value} (hb : ¬ S b) (hc : w.cell? ⟨b, i, none⟩ = some x) : w'.cell? ⟨b, i, none⟩ = some x :=
 (World.cell?_of_block (w := w) (a := ⟨b, i, none⟩) (h.same b (World.block_lt_of_cell? w ⟨b, i, none⟩ hc) hb)).trans hc
theorem half_set {xs ys : List Int} {k : Nat} (hl : xs.length = ys.length) (hk : k < ys.length) : (ivals .i64 (ys.take k ++ xs.drop k)).set k (.int .i64 (ys[k]?.getD 0)) = ivals .i64 (ys.take (k + 1) ++ xs.drop (k + 1)) := by
 unfold ivals
 rw [← List.map_set]
 congr 1
 apply List.ext_getElem?
 intro j
 by_cases e : j = k
 ·subst e
  rw [List.getElem?_set_self (by rw [List.length_append, List.length_take, List.length_drop]; omega), List.getElem?_append_left (by rw [List.length_take]; omega), List.getElem?_take_of_lt (by omega), List.getElem?_eq_getElem hk]; rfl
 ·rw [List.getElem?_set_ne (fun h => e h.symm)]
  by_cases h : j < k
  ·rw [List.getElem?_append_left (by rw [List.length_take]; omega), List.getElem?_append_left (by rw [List.length_take]; omega), List.getElem?_take_of_lt h, List.getElem?_take_of_lt (by omega)]
  ·rw [List.getElem?_append_right (by rw [List.length_take]; omega), List.getElem?_append_right (by rw [List.length_take]; omega), List.getElem?_drop, List.getElem?_drop, List.length_take, List.length_take]
   congr 1
   omega
theorem Owns.setO {B : Nat} {e : TypeId} {w : World} {v : Value} {xs : List Value} (h : Owns B e w v xs) (p i : Nat) (u : Value) (hne : ∀ k, v.ownBlock = some k → p ≠ k) : Owns B e (w.setCell ⟨p, i, none⟩ u) v xs :=
 OwnsK.block (K := 1) h (fun g hg => (grownBy_set (grownBy_refl w (some p)) i u).block g (OwnsK.lt (K := 1) h g hg).2 (by simpa using Ne.symm (hne g hg)))
theorem OwnsK.free9 {B : Nat} {e : TypeId} {w : World} {g n cap : Nat} {xs : List Value} (h : Owns B e w (.slice (some ⟨g, 0, none⟩) n cap) xs) (j : Nat) : w.frozen? ⟨g, j, none⟩ = false := by
 rcases h.shape with ⟨h0, _⟩ | ⟨g', cap', e0, _, _, _, _, _, k6⟩
 ·cases h0
 ·injection e0 with e0 _ _; injection e0 with e0; injection e0 with e0; subst e0; exact k6 j
theorem OwnsK.at9 {B : Nat} {e : TypeId} {w : World} {g n cap : Nat} {xs : List Value} (h : Owns B e w (.slice (some ⟨g, 0, none⟩) n cap) xs) (j : Nat) : j < xs.length → w.cell? ⟨g, j, none⟩ = xs[j]? := by
 intro hj
 rcases h.shape with ⟨h0, _⟩ | ⟨g', cap', e0, _, _, _, _, k5, _⟩
 ·cases h0
 ·injection e0 with e0 _ _; injection e0 with e0; injection e0 with e0; subst e0; exact k5 j hj
set_option maxHeartbeats 2000000 in
theorem putInts_any (B p : Nat) (bi : Value) (vs : List Value) (ls : List (List Int)) (w : World) (h2 : w.cell? ⟨p, 2, none⟩ = some bi) (hv : VView w bi vs) (hlv : vs.length = ls.length) (hm : vs.length ≤ 1000) (hB : B ≤ w.heap.size)
  (hr : ∀ (i : Nat) (v : Value) (ns : List Int), vs[i]? = some v → ls[i]? = some ns → Owns B 3 w v (ivals .i64 ns) ∧ ns.length ≤ 1000000)
  (hap : ∀ (i j : Nat) (v u : Value) (g : Nat), vs[i]? = some v → vs[j]? = some u → v.ownBlock = some g → u.ownBlock = some g → i = j)
  (hp : ¬ OfL vs p) (hbS : ∀ g, bi.ownBlock = some g → ¬ OfL vs g) :
  Calls Tryz.prog 65 #[.pointer (some ⟨p, 0, none⟩)] w fun e w' => e = .returned (.tuple #[]) ∧ (∀ (i : Nat) (v : Value) (ns : List Int), vs[i]? = some v → ls[i]? = some ns → Owns B 3 w' v (ivals .i64 (markI i 0 ns.length))) ∧ Keep (OfL vs) w w' := by
 obtain ⟨ao, cb9, rfl, hb1, hb2, hb3⟩ := hv
 have HLV := Lib.hid hlv
 clear hlv
 unfold maxLen at hb2
 go_enter Tryz.func65, Tryz.ntmps65
 go_wp2_with fail
 go_loopg [2] vs.length (fun gg iv wr => ∃ i : Nat, i + gg = vs.length ∧ iv = .int .i64 (i : Int) ∧ Keep (OfL vs) w wr ∧ Hid (∀ (j : Nat) (v : Value) (ns : List Int), vs[j]? = some v → ls[j]? = some ns → Owns B 3 wr v (ivals .i64 (if j < i then markI j 0 ns.length else ns))))
 case atStart => exact ⟨0, by omega, rfl, Keep.refl _ _, Lib.hid (fun j v ns h1 h2 => by rw [if_neg (by omega)]; exact (hr j v ns h1 h2).1)⟩
 case round =>
  obtain ⟨i, hi, rfl, hKs, hR0⟩ := hrel
  have e2 := hKs.cell hp h2
  by_cases hil : i < vs.length
  ·have hz : (i : Int) < (vs.length : Int) := by omega
   have hz0 : (0 : Int) ≤ (i : Int) := by omega
   have hils : i < ls.length := by rw [← HLV.out]; exact hil
   obtain ⟨va, hva⟩ : ∃ v, vs[i]? = some v := ⟨_, List.getElem?_eq_getElem hil⟩
   obtain ⟨ns, hns⟩ : ∃ v, ls[i]? = some v := ⟨_, List.getElem?_eq_getElem hils⟩
   have hnl := (hr i va ns hva hns).2
   have hOv := hR0.out i va ns hva hns
   rw [if_neg (by omega)] at hOv
   obtain ⟨gb, rfl, lb0, cb0⟩ := hb3 i va hva
   have cv := hKs.cell (hbS gb rfl) cb0
   obtain ⟨vo, cv9, rfl, hv1, hv2, _⟩ := OwnsK.slice (K := 1) hOv
   rw [ivals_length] at hva cv cb0 hOv
   clear lb0
   have HVA := Lib.hid hva
   have HNS := Lib.hid hns
   clear hva hns
   have hM := fun W => markInts_any i 0 ns.length W (by omega) (by omega) (by omega)
   have e0 : ((0 : Nat) : Int) = 0 := rfl
   rw [e0] at hM
   clear e0
   have lw := World.block_lt_of_cell? wr ⟨p, 2, none⟩ e2
   have lb := World.block_lt_of_cell? wr ⟨gb, i, none⟩ cv
   have Hlt := Lib.hid (OwnsK.lt (K := 1) hOv)
   go_upto_region 4 with (go_at_call 121; have HWB := Lib.hid (rfl : wr.heap.size = wr.heap.size); (with_reducible refine (hM _).mono ?_); rintro e9 w1 ⟨r9, rfl, hOm, hb⟩)
   replace e2 := (hb.cell (p := ⟨p, 2, none⟩) lw).trans e2
   replace cv := (hb.cell (p := ⟨gb, i, none⟩) lb).trans cv
   replace hKs := hKs.then_below hb
   replace hOv := Owns.kept hOv hb
   have hR1 := Lib.hid (fun j v ns9 h1 h2 => Owns.kept (hR0.out j v ns9 h1 h2) hb)
   obtain ⟨mo, mc, rfl, hm1, hm2, _⟩ := OwnsK.slice (K := 1) hOm
   have hml : (ivals .i64 (markI i 0 ns.length)).length = ns.length := by rw [ivals_length, markI_len]
   rw [hml] at hOm ⊢
   obtain ⟨WB, hWB⟩ : ∃ n, wr.heap.size = n := ⟨_, rfl⟩
   rw [hWB] at hOm
   have Hmf := Lib.hid (OwnsK.lt (K := 1) hOm)
   rw [hWB] at Hlt
   clear hWB
   clear hb hM hR0 lw lb
   obtain ⟨go1, hgo⟩ : ∃ go, go = gk := ⟨_, rfl⟩
   subst hgo
   obtain ⟨w2, hw2⟩ : ∃ x, x = w1 := ⟨_, rfl⟩
   subst hw2
   have hRo : Hid (∀ (j : Nat) (v : Value) (ns9 : List Int), vs[j]? = some v → ls[j]? = some ns9 → j ≠ i → Owns B 3 w2 v (ivals .i64 (if j < i then markI j 0 ns9.length else ns9))) := Lib.hid (fun j v ns9 h1 h2 _ => hR1.out j v ns9 h1 h2)
   clear hR1 e2 cv
   go_wp2_with fail
   go_loopg [4] ns.length (fun gg kv wr => ∃ k : Nat, k + gg = ns.length ∧ kv = .int .i64 (k : Int) ∧ Keep (OfL vs) w wr ∧ Owns WB 3 wr (.slice mo ns.length mc) (ivals .i64 (markI i 0 ns.length)) ∧ Owns B 3 wr (.slice vo ns.length cv9) (ivals .i64 ((markI i 0 ns.length).take k ++ ns.drop k)) ∧ Hid (∀ (j : Nat) (v : Value) (ns9 : List Int), vs[j]? = some v → ls[j]? = some ns9 → j ≠ i → Owns B 3 wr v (ivals .i64 (if j < i then markI j 0 ns9.length else ns9))))
   case atStart => exact ⟨0, by omega, rfl, hKs, hOm, by simpa using hOv, hRo⟩
   case round =>
    clear hKs hOm hOv hRo
    obtain ⟨k, hk, rfl, hKs, hOm, hOv, hR⟩ := hrel
    by_cases hkl : k < ns.length
    ·have hkz : (k : Int) < (ns.length : Int) := by omega
     have hkz0 : (0 : Int) ≤ (k : Int) := by omega
     have hlv9 : ((markI i 0 ns.length).take k ++ ns.drop k).length = ns.length := by rw [List.length_append, List.length_take, List.length_drop, markI_len]; omega
     obtain ⟨g, rfl⟩ : ∃ g, vo = some ⟨g, 0, none⟩ := by
      rcases OwnsK.shape (K := 1) hOv with ⟨_, h0⟩ | ⟨g, cap9, h0, _⟩
      ·rw [ivals_length, hlv9] at h0; omega
      ·injection h0 with h0 _ _; exact ⟨g, h0⟩
     obtain ⟨gm, rfl⟩ : ∃ g, mo = some ⟨g, 0, none⟩ := by
      rcases OwnsK.shape (K := 1) hOm with ⟨_, h0⟩ | ⟨g, cap9, h0, _⟩
      ·rw [ivals_length, markI_len] at h0; omega
      ·injection h0 with h0 _ _; exact ⟨g, h0⟩
     have hSg : OfL vs g := ⟨i, _, HVA.out, rfl⟩
     have hpg : p ≠ g := fun h => hp (h ▸ hSg)
     have hbg : gb ≠ g := fun h => hbS gb rfl (h ▸ hSg)
     have hmg : gm ≠ g := by
      have h1 := (Hmf.out gm rfl).1
      have h2 := (Hlt.out g rfl).2
      omega
     have hlk : k < (ivals .i64 ((markI i 0 ns.length).take k ++ ns.drop k)).length := by rw [ivals_length, hlv9]; exact hkl
     obtain ⟨xk, hxk⟩ : ∃ x, (ivals .i64 ((markI i 0 ns.length).take k ++ ns.drop k))[k]? = some (.int .i64 x) := by
      unfold ivals
      rw [List.getElem?_map, List.getElem?_eq_getElem (by rw [hlv9]; exact hkl)]
      exact ⟨_, rfl⟩
     have Hxk := Lib.hid hxk
     clear hxk
     obtain ⟨mk, hmk⟩ : ∃ x, (markI i 0 ns.length)[k]?.getD 0 = x := ⟨_, rfl⟩
     have cm : wr.cell? ⟨gm, k, none⟩ = some (.int .i64 mk) := by
      rw [OwnsK.at9 hOm k (by rw [ivals_length, markI_len]; exact hkl)]
      unfold ivals
      rw [List.getElem?_map, List.getElem?_eq_getElem (by rw [markI_len]; exact hkl)]
      rw [List.getElem?_eq_getElem (by rw [markI_len]; exact hkl)] at hmk
      rw [← hmk]; rfl
     have HS := half_set (xs := ns) (ys := markI i 0 ns.length) (k := k) (by rw [markI_len]) (by rw [markI_len]; exact hkl)
     rw [hmk] at HS
     have HS9 := Lib.hid HS
     clear HS hmk
     have e2 := hKs.cell hp h2
     have cv := hKs.cell (hbS gb rfl) cb0
     have l2 := World.block_lt_of_cell? wr ⟨p, 2, none⟩ e2
     have lb := World.block_lt_of_cell? wr ⟨gb, i, none⟩ cv
     have lm := World.block_lt_of_cell? wr ⟨gm, k, none⟩ cm
     go_upto_region 7 with fail
     refine wp_region_seq (S := fun w' => w'.cell? ⟨p, 2, none⟩ = some (.slice (some ⟨gb, 0, none⟩) vs.length cb9) ∧ w'.cell? ⟨gb, i, none⟩ = some (.slice (some ⟨g, 0, none⟩) ns.length cv9) ∧ w'.cell? ⟨gm, k, none⟩ = some (.int .i64 mk)) [(true, 0), (true, 1), (true, 2), (true, 3), (true, 4), (true, 5), (true, 6), (true, 7), (true, 8), (true, 9), (true, 10), (true, 11), (true, 12), (false, 13)] (by kernel_rfl) (by kernel_rfl) (by kernel_rfl) (by kernel_rfl) (by kernel_rfl) (fun d _ _ _ _ h => by cases d <;> exact h) ⟨(by first | exact e2 | simpa using e2), (by first | exact cv | simpa using cv), (by first | exact cm | simpa using cm)⟩ (fun _ => ?_)
     simp only [pickOps, List.append_eq, List.cons_append, List.nil_append, List.getElem?_toArray, List.getElem?_cons_succ, List.getElem?_cons_zero]
     have hb : Below wr.heap.size wr wr.drew := (Below.refl _ _).drew
     generalize wr.drew = wd at hb ⊢
     replace hKs := hKs.then_below hb
     replace hOv := Owns.kept hOv hb
     replace hOm := Owns.kept hOm hb
     replace hR := Lib.hid (fun j v ns9 h1 h2 hne => Owns.kept (hR.out j v ns9 h1 h2 hne) hb)
     replace e2 := (hb.cell (p := ⟨p, 2, none⟩) l2).trans e2
     replace l2 := Nat.lt_of_lt_of_le l2 hb.size
     replace cv := (hb.cell (p := ⟨gb, i, none⟩) lb).trans cv
     replace lb := Nat.lt_of_lt_of_le lb hb.size
     replace cm := (hb.cell (p := ⟨gm, k, none⟩) lm).trans cm
     replace lm := Nat.lt_of_lt_of_le lm hb.size
     clear hb
     repeat (first | (refine seq_take (v := ?_) (by rfl) ?_ ?_; rotate_left; (· intro w hSw; (try dsimp only at hSw); obtain ⟨e2, cv, cm⟩ := hSw; go_simp; all_goals with_reducible rfl); (try simp only [Act.put, List.setIfInBounds_toArray, List.set_cons_zero, List.set_cons_succ])) | (refine seq_leave (by rfl) ?_; (try simp only [Act.put, List.setIfInBounds_toArray, List.set_cons_zero, List.set_cons_succ])))
     refine seq_step (by rfl) (fun K hK => ?_)
     have fg := OwnsK.free9 hOv k
     have cg : wd.cell? ⟨g, k, none⟩ = some (.int .i64 xk) := by
      rw [OwnsK.at9 hOv k hlk, Hxk.out]
     go_simp
     obtain ⟨wz, hwz⟩ : ∃ X, X = wd.setCell ⟨g, k, none⟩ (.int .i64 mk) := ⟨_, rfl⟩
     rw [← hwz]
     have e2z : wz.cell? ⟨p, 2, none⟩ = some (.slice (some ⟨gb, 0, none⟩) vs.length cb9) := by rw [hwz, World.cell?_setCell_other]; exact e2; exact fun h => hpg (by injection h with h _; exact h.symm)
     have cvz : wz.cell? ⟨gb, i, none⟩ = some (.slice (some ⟨g, 0, none⟩) ns.length cv9) := by rw [hwz, World.cell?_setCell_other]; exact cv; exact fun h => hbg (by injection h with h _; exact h.symm)
     have cmz : wz.cell? ⟨gm, k, none⟩ = some (.int .i64 mk) := by rw [hwz, World.cell?_setCell_other]; exact cm; exact fun h => hmg (by injection h with h _; exact h.symm)
     refine hK.out _ _ ⟨e2z, cvz, cmz⟩ (fun _ => ?_)
     clear hK K
     (try simp only [Act.put, List.setIfInBounds_toArray, List.set_cons_zero, List.set_cons_succ])
     refine seq_end ?_
     have hO1 := Owns.stored hOv (by rw [ivals_length, hlv9]) k (.int .i64 mk)
     rw [HS9.out, ← hwz] at hO1
     have hO2 := Owns.setO hOm g k (.int .i64 mk) (fun b hb => by simp [Value.ownBlock] at hb; omega)
     rw [← hwz] at hO2
     have hK2 := hKs.set g k (.int .i64 mk) (.inl hSg)
     rw [← hwz] at hK2
     have hR2 : Hid (∀ (j : Nat) (v : Value) (ns9 : List Int), vs[j]? = some v → ls[j]? = some ns9 → j ≠ i → Owns B 3 wz v (ivals .i64 (if j < i then markI j 0 ns9.length else ns9))) := Lib.hid (fun j v ns9 h1 h2 hne => by
      rw [hwz]
      exact Owns.setO (hR.out j v ns9 h1 h2 hne) g k (.int .i64 mk) (fun b hb h9 => hne (hap j i v _ b h1 HVA.out hb (by rw [h9]; rfl))))
     clear hOv hOm hKs hR e2 cv cm e2z cvz cmz fg cg hwz
     go_wp2_with fail
     go_roundg (gk - 1)
     case measure => omega
     case rel => exact ⟨k + 1, by omega, by go_num, hK2, hO2, hO1, hR2⟩
    ·obtain rfl : k = ns.length := by omega
     have hkz : ¬ (ns.length : Int) < (ns.length : Int) := by omega
     rw [List.take_of_length_le (by rw [markI_len]; exact Nat.le_refl _), List.drop_of_length_le (Nat.le_refl _), List.append_nil] at hOv
     have hR3 : Hid (∀ (j : Nat) (v : Value) (ns9 : List Int), vs[j]? = some v → ls[j]? = some ns9 → Owns B 3 wr v (ivals .i64 (if j < i + 1 then markI j 0 ns9.length else ns9))) := Lib.hid (fun j v ns9 h1 h2 => by
      by_cases e : j = i
      ·subst e
       have a1 := HVA.out.symm.trans h1
       have a2 := HNS.out.symm.trans h2
       injection a1 with a1
       injection a2 with a2
       subst a1 a2
       rw [if_pos (by omega)]; exact hOv
      ·have h9 := hR.out j v ns9 h1 h2 e
       by_cases hlt : j < i
       ·rw [if_pos hlt] at h9; rw [if_pos (by omega)]; exact h9
       ·rw [if_neg hlt] at h9; rw [if_neg (by omega)]; exact h9)
     clear hR hOv hOm
     go_wp2_with fail
     go_roundg (go1 - 1)
     case measure => omega
     case rel => exact ⟨i + 1, by omega, by go_num, hKs, hR3⟩
  ·have hz : ¬ (i : Int) < (vs.length : Int) := by omega
   go_wp2_with fail
   go_end0
   refine ⟨rfl, fun j v ns h1 h2 => ?_, hKs⟩
   have h9 := hR0.out j v ns h1 h2
   rwa [if_pos (by have := (List.getElem?_eq_some_iff.1 h1).1; omega)] at h9
end Go.Proofs.YtcpfanpcdkoiaaaGreat

namespace Go.Proofs.YtcpfanpcdkoiaaaGreat
open Go.RowKit Go.Shelf


theorem appX {P : Program} {t e : TypeId} {z : Value} {bytes : Nat} (E : Elem P t e z bytes) {w : World} {ops : Array Oper} {rest : List Oper} {o : Oper} {a : Act} {Q : Exit → Act → World → Prop} {s x : Operand} {base : Nat} {v : Value} {xs us : List Value} {ad : Addr} {m c : Nat}
  (hown : Owns base e w v xs) (hgd : o.guard = none) (ho : o.op = .call { callee := .builtin .append, args := #[s, x], argTypes := #[t, t] }) (hs : a.eval s = v) (hx : a.eval x = .slice (some ad) m c) (hml : m = us.length) (hu : ∀ j u', us[j]? = some u' → w.cell? (ad.add j) = some u') (h1 : ∀ u ∈ us, u.oneCell' = true) (hl : (xs.length + us.length) * bytes ≤ 140737488355328) (hm : xs.length + us.length ≤ maxLen) (hbase : base ≤ w.heap.size)
  (h : ∀ v' w', Owns base e w' v' (xs ++ us) → w.grownBy w' v.ownBlock → (v'.ownBlock = v.ownBlock ∨ v'.ownBlock = some w.heap.size) → (∀ g, v.ownBlock = some g → ∀ j, j < xs.length → w'.cell? ⟨g, j, none⟩ = w.cell? ⟨g, j, none⟩) → wpList P ops Q rest (a.put o.dst v') w') : wpList P ops Q (o :: rest) a w := by
 subst hml
 obtain ⟨v', w', hrun, r1, r2, r3, r4⟩ := run_appX E o.type hown ad c us hu h1 hl hm hbase
 refine wpList_plain hgd fun K' hK => ?_
 unfold Oper.wp
 simp [execOp, ho, resolve, invoke, builtin, hs, hx, hrun, Result.andThen]
 exact hK _ _ (h v' w' r1 r2 r3 r4)
theorem IntsI.cells {w w' : World} {v : Value} {ns : List Int} (h : IntsI .i64 w v ns) (hs : w.heap.size ≤ w'.heap.size) (hk : ∀ ao n c b off, v = .slice ao n c → ao = some ⟨b, off, none⟩ → ∀ j, j < ns.length → w'.cell? ⟨b, off + j, none⟩ = w.cell? ⟨b, off + j, none⟩) : IntsI .i64 w' v ns := by
 obtain ⟨ao, cap, rfl, h2, h3, h4⟩ := h
 refine ⟨ao, cap, rfl, h2, h3, ?_⟩
 rcases h4 with h4 | ⟨b, off, e1, e2, e3⟩
 ·exact .inl h4
 ·exact .inr ⟨b, off, e1, Nat.lt_of_lt_of_le e2 hs, fun j hj => (hk _ _ _ b off rfl e1 j hj).trans (e3 j hj)⟩
structure GrowAt (B W0 : Nat) (w : World) (i n c : Nat) (v lv : Value) : Prop where
 own : Owns B 3 w lv (ivals .i64 (markI i 0 (n + c)))
 at' : ∀ g, lv.ownBlock = some g → v.ownBlock = some g ∨ W0 ≤ g
 old : ∀ g, v.ownBlock = some g → ∀ j, j < n → w.cell? ⟨g, j, none⟩ = (ivals .i64 (markI i 0 n))[j]?
theorem GrowAt.below {B W0 : Nat} {w w' : World} {i n c : Nat} {v lv : Value} (h : GrowAt B W0 w i n c v lv) (hb : Below w.heap.size w w') (hv : ∀ g, v.ownBlock = some g → g < w.heap.size) : GrowAt B W0 w' i n c v lv :=
 ⟨Owns.kept h.own hb, h.at', fun g hg j hj => (hb.cell (p := ⟨g, j, none⟩) (hv g hg)).trans (h.old g hg j hj)⟩
theorem GrowAt.step {B W0 : Nat} {w w' : World} {i n c m : Nat} {v lv lv' : Value} (h : GrowAt B W0 w i n c v lv) (hW : W0 ≤ w.heap.size) (hv : ∀ g, v.ownBlock = some g → g < w.heap.size) (ho : Owns B 3 w' lv' (ivals .i64 (markI i 0 (n + c)) ++ ivals .i64 (markI i (n + c) m))) (hg : w.grownBy w' lv.ownBlock) (hl : lv'.ownBlock = lv.ownBlock ∨ lv'.ownBlock = some w.heap.size)
  (hk : ∀ g, lv.ownBlock = some g → ∀ j, j < (ivals .i64 (markI i 0 (n + c))).length → w'.cell? ⟨g, j, none⟩ = w.cell? ⟨g, j, none⟩) : GrowAt B W0 w' i n (c + m) v lv' := by
 refine ⟨?_, fun g hg' => ?_, fun g hg' j hj => ?_⟩
 ·have e : ivals .i64 (markI i 0 (n + (c + m))) = ivals .i64 (markI i 0 (n + c)) ++ ivals .i64 (markI i (n + c) m) := by
   rw [← Nat.add_assoc, markI_add, Nat.zero_add]; unfold ivals; rw [List.map_append]
  rw [e]; exact ho
 ·rcases hl with h1 | h1
  ·exact h.at' g (h1 ▸ hg')
  ·rw [h1] at hg'; right; have : w.heap.size = g := Option.some.inj hg'; omega
 ·rw [← h.old g hg' j hj]
  by_cases e : lv.ownBlock = some g
  ·exact hk g e j (by rw [ivals_length, markI_len]; omega)
  ·exact World.cell?_of_block (w := w) (a := ⟨g, j, none⟩) (hg.block g (hv g hg') (fun h9 => e h9.symm))
structure GrowL (B : Nat) (w0 w : World) (vs : List Value) (ns : List Nat) (os : List Value) (i : Nat) : Prop where
 todo : ∀ (j : Nat) (v : Value) (n : Nat), vs[j]? = some v → ns[j]? = some n → i ≤ j → Owns B 3 w v (ivals .i64 (markI j 0 n))
 done : ∀ (j : Nat) (v : Value) (n : Nat) (o : Value), vs[j]? = some v → ns[j]? = some n → os[j]? = some o → j < i → GrowAt B w0.heap.size w j n 72 v o
theorem GrowL.keep {B : Nat} {w0 w w' : World} {vs : List Value} {ns : List Nat} {os : List Value} {i : Nat} (h : GrowL B w0 w vs ns os i) {S : Nat → Prop} (hk : Keep S w w')
    (ht : ∀ (j : Nat) (v : Value) g, vs[j]? = some v → i ≤ j → v.ownBlock = some g → ¬ S g) (hd : ∀ (j : Nat) (v : Value) g, vs[j]? = some v → j < i → v.ownBlock = some g → g < w.heap.size ∧ ¬ S g) (ho : ∀ (j : Nat) (o : Value) g, os[j]? = some o → o.ownBlock = some g → ¬ S g) : GrowL B w0 w' vs ns os i :=
  ⟨fun j v n h1 h2 h3 => OwnsK.keep (K := 1) (h.todo j v n h1 h2 h3) hk (fun g hg => ht j v g h1 h3 hg),
   fun j v n o h1 h2 h3 h4 => ⟨OwnsK.keep (K := 1) (h.done j v n o h1 h2 h3 h4).own hk (fun g hg => ho j o g h3 hg), (h.done j v n o h1 h2 h3 h4).at', fun g hg k hk9 => (World.cell?_of_block (w := w) (a := ⟨g, k, none⟩) (hk.same g (hd j v g h1 h4 hg).1 (hd j v g h1 h4 hg).2)).trans ((h.done j v n o h1 h2 h3 h4).old g hg k hk9)⟩⟩
theorem app_at {α : Type} {l : List α} {x y : α} {j : Nat} (h : (l ++ [x])[j]? = some y) : (j < l.length ∧ l[j]? = some y) ∨ (j = l.length ∧ y = x) := by
 by_cases hj : j < l.length
 ·rw [List.getElem?_append_left hj] at h; exact .inl ⟨hj, h⟩
 ·rw [List.getElem?_append_right (by omega)] at h
  have h0 : j - l.length = 0 := by
   have := (List.getElem?_eq_some_iff.1 h).1
   simp at this; omega
  rw [h0] at h
  exact .inr ⟨by omega, (Option.some.inj h).symm⟩
theorem grow_close {B i n : Nat} {t : TypeId} {w0 w1 w6 w7 : World} {vs os : List Value} {ns : List Nat} {va ov o6 v7 : Value} (hO : Owns w0.heap.size t w1 ov os) (hGL : GrowL B w0 w1 vs ns os i) (hsep : ∀ (j : Nat) (o : Value) g, os[j]? = some o → o.ownBlock = some g → g < w1.heap.size ∧ ov.ownBlock ≠ some g) (hKs : Keep (OfL vs) w0 w1) (hva : vs[i]? = some va) (hns : ns[i]? = some n) (hol : os.length = i)
  (hvl : ∀ (j : Nat) (v : Value) g, vs[j]? = some v → v.ownBlock = some g → g < w0.heap.size) (hap : ∀ (i j : Nat) (v u : Value) (g : Nat), vs[i]? = some v → vs[j]? = some u → v.ownBlock = some g → u.ownBlock = some g → i = j)
  (hG6 : GrowAt B w1.heap.size w6 i n 72 va o6) (hK6 : Keep (fun k => va.ownBlock = some k) w1 w6) (hg7 : w6.grownBy w7 ov.ownBlock) (ho7 : OwnsK 1 w0.heap.size t w7 v7 (os.length + 1) (os ++ [o6])) (hl7 : ∀ g, v7.ownBlock = some g → ov.ownBlock = some g ∨ w6.heap.size ≤ g) :
  Owns w0.heap.size t w7 v7 (os ++ [o6]) ∧ (os ++ [o6]).length = i + 1 ∧ Keep (OfL vs) w0 w7 ∧ GrowL B w0 w7 vs ns (os ++ [o6]) (i + 1) ∧ ∀ (j : Nat) (o : Value) g, (os ++ [o6])[j]? = some o → o.ownBlock = some g → g < w7.heap.size ∧ v7.ownBlock ≠ some g := by
 have hK67 : Keep (fun k => ov.ownBlock = some k) w6 w7 := ⟨hg7.os, hg7.tape, hg7.output, hg7.size, fun k hk hn => hg7.block k hk (fun h9 => hn h9.symm)⟩
 have hK7 : Keep (fun k => va.ownBlock = some k ∨ ov.ownBlock = some k) w1 w7 := (hK6.mono (fun k _ h => .inl h)).trans hK67 (fun k _ h => .inr h)
 have ovlt := fun g hg => OwnsK.lt (K := 1) hO g hg
 have valt := fun g hg => hvl i va g hva hg
 have h01 := hKs.size
 have h16 := hK6.size
 have h67 := hK67.size
 have o6lt := fun g hg => (OwnsK.lt (K := 1) hG6.own g hg).2
 have o6ov : ∀ g, o6.ownBlock = some g → ov.ownBlock = some g → False := fun g h1 h2 => by
  have h3 := ovlt g h2
  rcases hG6.at' g h1 with h4 | h4
  ·have := valt g h4; omega
  ·omega
 refine ⟨by unfold Owns; unfold OwnsK at ho7; simpa using ho7, by simp [hol], hKs.trans hK7 (fun k hk h => ?_), ⟨fun j v m h1 h2 h3 => ?_, fun j v m o h1 h2 h3 h4 => ?_⟩, fun j o g h1 h2 => ?_⟩
 ·rcases h with h | h
  ·exact ⟨i, va, hva, h⟩
  ·have := (ovlt k h).1; omega
 ·refine OwnsK.keep (K := 1) (hGL.todo j v m h1 h2 (by omega)) hK7 (fun g hg h9 => ?_)
  rcases h9 with h9 | h9
  ·have := hap j i v va g h1 hva hg h9; omega
  ·have a1 := (ovlt g h9).1; have a2 := hvl j v g h1 hg; omega
 ·rcases app_at h3 with ⟨hj, h5⟩ | ⟨hj, rfl⟩
  ·have hd := hGL.done j v m o h1 h2 h5 (by omega)
   have key : ∀ g, v.ownBlock = some g → ¬ (va.ownBlock = some g ∨ ov.ownBlock = some g) := fun g hg h9 => by
    rcases h9 with h9 | h9
    ·have := hap j i v va g h1 hva hg h9; omega
    ·have a1 := (ovlt g h9).1; have a2 := hvl j v g h1 hg; omega
   refine ⟨OwnsK.keep (K := 1) hd.own hK7 (fun g hg h9 => ?_), hd.at', fun g hg k hk => (World.cell?_of_block (w := w1) (a := ⟨g, k, none⟩) (hK7.same g (by have := hvl j v g h1 hg; omega) (key g hg))).trans (hd.old g hg k hk)⟩
   rcases h9 with h9 | h9
   ·rcases hd.at' g hg with h10 | h10
    ·exact key g h10 (.inl h9)
    ·have := valt g h9; omega
   ·exact (hsep j o g h5 hg).2 h9
  ·have hji : j = i := by omega
   subst hji
   have e1 := h1.symm.trans hva
   have e2 := h2.symm.trans hns
   injection e1 with e1
   injection e2 with e2
   subst e1 e2
   exact ⟨OwnsK.keep (K := 1) hG6.own hK67 (fun g hg h9 => o6ov g hg h9), fun g hg => (hG6.at' g hg).imp id (fun h => by omega), fun g hg k hk => (World.cell?_of_block (w := w6) (a := ⟨g, k, none⟩) (hK67.same g (by have := valt g hg; omega) (fun h9 => by have a1 := (ovlt g h9).1; have a2 := valt g hg; omega))).trans (hG6.old g hg k hk)⟩
 ·rcases app_at h1 with ⟨hj, h5⟩ | ⟨hj, rfl⟩
  ·have a := hsep j o g h5 h2
   refine ⟨by omega, fun h9 => ?_⟩
   rcases hl7 g h9 with h10 | h10
   ·exact a.2 h10
   ·omega
  ·have a := o6lt g h2
   refine ⟨by omega, fun h9 => ?_⟩
   rcases hl7 g h9 with h10 | h10
   ·exact o6ov g h2 h10
   ·omega
theorem E_outK : ElemK Tryz.prog 25 53 (.slice none 0 0) 1 24 := elemK_of Tryz.underlying25 (by kernel_rfl) rfl (by decide)
theorem slice_some {B : Nat} {e : TypeId} {w : World} {r : Value} {xs : List Value} (h : Owns B e w r xs) (h0 : 0 < xs.length) : ∃ g c, r = .slice (some ⟨g, 0, none⟩) xs.length c ∧ ∀ j u, xs[j]? = some u → w.cell? ((⟨g, 0, none⟩ : Addr).add j) = some u := by
 rcases h.shape with ⟨_, h1⟩ | ⟨g, cap, rfl, k1, k2, k3, k4, k5, _⟩
 ·rw [h1] at h0; exact absurd h0 (Nat.lt_irrefl 0)
 ·exact ⟨g, cap, rfl, fun j u hj => by rw [Addr.add_lit, Nat.zero_add, k5 j (List.getElem?_eq_some_iff.1 hj).1]; exact hj⟩
set_option maxHeartbeats 2000000 in
theorem growInts_any (B p : Nat) (bi : Value) (vs : List Value) (ns : List Nat) (w : World) (h2 : w.cell? ⟨p, 2, none⟩ = some bi) (hv : VView w bi vs) (hlv : vs.length = ns.length) (hm : vs.length ≤ 1000) (hB : B ≤ w.heap.size)
  (hr : ∀ (i : Nat) (v : Value) (n : Nat), vs[i]? = some v → ns[i]? = some n → Owns B 3 w v (ivals .i64 (markI i 0 n)) ∧ n ≤ 1000000)
  (hap : ∀ (i j : Nat) (v u : Value) (g : Nat), vs[i]? = some v → vs[j]? = some u → v.ownBlock = some g → u.ownBlock = some g → i = j)
  (hp : ¬ OfL vs p) (hbS : ∀ g, bi.ownBlock = some g → ¬ OfL vs g) :
  Calls Tryz.prog 70 #[.pointer (some ⟨p, 0, none⟩)] w fun e w' => ∃ r os, e = .returned r ∧ Owns w.heap.size 53 w' r os ∧ os.length = vs.length ∧ GrowL B w w' vs ns os vs.length ∧ Keep (OfL vs) w w' := by
 obtain ⟨ao, cb9, rfl, hb1, hb2, hb3⟩ := hv
 have HLV := Lib.hid hlv
 unfold maxLen at hb2
 have hvl : ∀ (j : Nat) (v : Value) g, vs[j]? = some v → v.ownBlock = some g → g < w.heap.size := fun j v g h1 hg => by
  have hj := (List.getElem?_eq_some_iff.1 h1).1
  exact (OwnsK.lt (K := 1) (hr j v _ h1 (List.getElem?_eq_getElem (by omega))).1 g hg).2
 have HVL := Lib.hid hvl
 clear hlv hvl
 go_enter Tryz.func70, Tryz.ntmps70
 go_wp2_with fail
 go_loopg [3, 4] vs.length (fun gg ov iv wr => ∃ (i : Nat) (os : List Value), i + gg = vs.length ∧ iv = .int .i64 (i : Int) ∧ Owns w.heap.size 53 wr ov os ∧ os.length = i ∧ Keep (OfL vs) w wr ∧ Hid (GrowL B w wr vs ns os i) ∧ Hid (∀ (j : Nat) (o : Value) g, os[j]? = some o → o.ownBlock = some g → g < wr.heap.size ∧ ov.ownBlock ≠ some g))
 case atStart => exact ⟨0, [], by omega, rfl, Owns.nil _ _ _, rfl, Keep.refl _ _, Lib.hid ⟨fun j v n h1 h2 _ => (hr j v n h1 h2).1, fun j v n o _ _ h3 => by simp at h3⟩, Lib.hid (fun j o g h1 => by simp at h1)⟩
 case round =>
  obtain ⟨i, os, hi, rfl, hO, hol, hKs, hGL, hsep⟩ := hrel
  have e2 := hKs.cell hp h2
  by_cases hil : i < vs.length
  ·have hz : (i : Int) < (vs.length : Int) := by omega
   have hz0 : (0 : Int) ≤ (i : Int) := by omega
   have hils : i < ns.length := by rw [← HLV.out]; exact hil
   obtain ⟨va, hva⟩ : ∃ v, vs[i]? = some v := ⟨_, List.getElem?_eq_getElem hil⟩
   obtain ⟨n, hns⟩ : ∃ v, ns[i]? = some v := ⟨_, List.getElem?_eq_getElem hils⟩
   have hnl := (hr i va n hva hns).2
   obtain ⟨gb, rfl, _, cb0⟩ := hb3 i va hva
   have cv := hKs.cell (hbS gb rfl) cb0
   obtain ⟨w1, hw1⟩ : ∃ x, x = wr := ⟨_, rfl⟩
   subst hw1
   have hOv := hGL.out.todo i va n hva hns (Nat.le_refl _)
   have hG0 : GrowAt B w1.heap.size w1 i n 0 va va := ⟨by simpa using hOv, fun g hg => .inl hg, fun g hg j hj => by
    rcases hOv.shape with ⟨rfl, _⟩ | ⟨g9, cap9, rfl, _, _, _, _, k5, _⟩
    ·simp [Value.ownBlock] at hg
    ·have : g9 = g := by simpa [Value.ownBlock] using hg
     subst this
     exact k5 j (by rw [ivals_length, markI_len]; exact hj)⟩
   have HVA := Lib.hid hva
   have HNS := Lib.hid hns
   have hvw : Hid (∀ g, va.ownBlock = some g → g < w1.heap.size) := Lib.hid (fun g hg => Nat.lt_of_lt_of_le (HVL.out i va g hva hg) hKs.size)
   clear hva hns hOv cb0
   have HG0 := Lib.hid hG0
   clear hG0
   obtain ⟨go1, hgo⟩ : ∃ go, go = gk := ⟨_, rfl⟩
   subst hgo
   go_wp2_with fail
   clear e2 cv
   go_loopg [5, 6] 12 (fun gg lv cvv wr => ∃ c : Nat, c + gg = 12 ∧ cvv = .int .i64 (c : Int) ∧ Hid (GrowAt B w1.heap.size wr i n c va lv) ∧ Keep (fun k => va.ownBlock = some k) w1 wr)
   case atStart => exact ⟨0, by omega, rfl, HG0, Keep.refl _ _⟩
   case round =>
    obtain ⟨c, hc, rfl, hG, hK1⟩ := hrel
    have hOl := hG.out.own
    obtain ⟨q, hq⟩ : ∃ q, q = n + c := ⟨_, rfl⟩
    rw [← hq] at hOl
    obtain ⟨lo, lc, rfl, hl1, hl2, _⟩ := OwnsK.slice (K := 1) hOl
    have hql : (ivals .i64 (markI i 0 q)).length = q := by rw [ivals_length, markI_len]
    rw [hql] at hOl hG ⊢
    have HQ := Lib.hid hq
    have hqb : q ≤ 2000000 := by omega
    clear hq hl1 hl2
    have hBs : B ≤ wr.heap.size := Nat.le_trans hB (Nat.le_trans hKs.size hK1.size)
    have hvr : ∀ g, va.ownBlock = some g → g < wr.heap.size := fun g hg => Nat.lt_of_lt_of_le (hvw.out g hg) hK1.size
    have HVR := Lib.hid hvr
    clear hvr
    by_cases hc12 : c < 12
    ·have hcz : (c : Int) < 12 := by omega
     have hM := fun W => markInts_any i q 1 W (by omega) (by omega) (by omega)
     have e1 : ((1 : Nat) : Int) = 1 := rfl
     rw [e1] at hM
     clear e1
     have hml : (ivals .i64 (markI i q 1)).length = 1 := by rw [ivals_length, markI_len]
     go_wp2_with (first | (go_at_call 121; (with_reducible refine (hM _).mono ?_); rintro e9 w3 ⟨r9, rfl, hOm, hb⟩; obtain ⟨gm, mc, rfl, hmc⟩ := slice_some hOm (by rw [hml]; decide); rw [hml]; have hG3 := Lib.hid (hG.out.below hb HVR.out); have hOl3 := Owns.kept hOl hb; have hK3 := hK1.then_below hb; have HB3 := Lib.hid hb.size; clear hOm hb hOl) | (at_builtin; refine appX E_ints (us := ivals .i64 (markI i q 1)) hOl3 rfl rfl rfl rfl hml.symm hmc (ivals_oneZ _) (by rw [hql, hml]; omega) (by rw [hql, hml]; unfold maxLen; omega) (Nat.le_trans hBs HB3.out) ?_; intro v6 w6 ho6 hg6 hl6 hk6))
     have hG6 : Hid (GrowAt B w1.heap.size w6 i n (c + 1) va v6) := Lib.hid (hG3.out.step (Nat.le_trans hK1.size HB3.out) (fun g hg => Nat.lt_of_lt_of_le (HVR.out g hg) HB3.out) (by rw [← HQ.out]; exact ho6) hg6 hl6 (by rw [← HQ.out]; exact hk6))
     have hK6 : Keep (fun k => va.ownBlock = some k) w1 w6 := hK3.trans (S' := fun k => Value.ownBlock (.slice lo q lc) = some k) ⟨hg6.os, hg6.tape, hg6.output, hg6.size, fun k hk hn => hg6.block k hk (fun h9 => hn h9.symm)⟩ (fun k hk h9 => by
      rcases hG3.out.at' k h9 with h10 | h10
      ·exact h10
      ·omega)
     clear hG hG3 hK1 hK3 hOl3 ho6 hg6 hl6 hk6 hmc
     go_roundg (gk - 1)
     case measure => omega
     case rel => exact ⟨c + 1, by omega, by go_num, hG6, hK6⟩
    ·obtain rfl : c = 12 := by omega
     have hM := fun W => markInts_any i q 60 W (by omega) (by omega) (by omega)
     have e1 : ((60 : Nat) : Int) = 60 := rfl
     rw [e1] at hM
     clear e1
     have hml : (ivals .i64 (markI i q 60)).length = 60 := by rw [ivals_length, markI_len]
     have hOo : Owns w.heap.size 53 wr _ os := OwnsK.keep (K := 1) hO hK1 (fun g hg h9 => by have h10 := (OwnsK.lt (K := 1) hO g hg).1; have h11 := HVL.out i va g HVA.out h9; omega)
     have HOL := Lib.hid (OwnsK.lt (K := 1) hO)
     have HSP := Lib.hid (fun (g : Nat) (h9 : w.heap.size ≤ g ∧ g < w1.heap.size) (h10 : Value.ownBlock (.slice lo q lc) = some g) => (show False by
      rcases hG.out.at' g h10 with h11 | h11
      ·have := HVL.out i va g HVA.out h11; omega
      ·omega))
     go_wp2_with (first | (go_at_call 121; (with_reducible refine (hM _).mono ?_); rintro e9 w3 ⟨r9, rfl, hOm, hb⟩; obtain ⟨gm, mc, rfl, hmc⟩ := slice_some hOm (by rw [hml]; decide); rw [hml]; have hG3 := Lib.hid (hG.out.below hb HVR.out); have hOl3 := Owns.kept hOl hb; have hOo3 := Owns.kept hOo hb; have hK3 := hK1.then_below hb; have HB3 := Lib.hid hb.size; clear hOm hb hOl hOo) | (at_builtin; refine appX E_ints (us := ivals .i64 (markI i q 60)) hOl3 rfl rfl rfl rfl hml.symm hmc (ivals_oneZ _) (by rw [hql, hml]; omega) (by rw [hql, hml]; unfold maxLen; omega) (Nat.le_trans hBs HB3.out) ?_; intro v6 w6 ho6 hg6 hl6 hk6; obtain ⟨ao6, c6, rfl, _, _, _⟩ := OwnsK.slice (K := 1) ho6; have hOo6 := OwnsK.block (K := 1) hOo3 (fun g hg => hg6.block g (OwnsK.lt (K := 1) hOo3 g hg).2 (fun h9 => HSP.out g (HOL.out g hg) h9.symm))) | (at_builtin; refine append1KO E_outK hOo6 rfl rfl rfl rfl rfl (by simp [Value.oneCell']) (by omega) (by unfold maxLen; omega) (Nat.le_trans (Nat.le_trans hKs.size hK1.size) (Nat.le_trans HB3.out hg6.size)) ?_; intro v7 w7 ho7 hb7 hg7 hl7))
     have h60 : (ivals .i64 (markI i 0 q) ++ ivals .i64 (markI i q 60)).length = q + 60 := by rw [List.length_append, hql, hml]
     rw [h60] at ho6 hl6
     have hG6 : GrowAt B w1.heap.size w6 i n (12 + 60) va _ := hG3.out.step (Nat.le_trans hK1.size HB3.out) (fun g hg => Nat.lt_of_lt_of_le (HVR.out g hg) HB3.out) (by rw [← HQ.out]; exact ho6) hg6 hl6 (by rw [← HQ.out]; exact hk6)
     have hK6 : Keep (fun k => va.ownBlock = some k) w1 w6 := hK3.trans (S' := fun k => Value.ownBlock (.slice lo q lc) = some k) ⟨hg6.os, hg6.tape, hg6.output, hg6.size, fun k hk hn => hg6.block k hk (fun h9 => hn h9.symm)⟩ (fun k hk h9 => by
      rcases hG3.out.at' k h9 with h10 | h10
      ·exact h10
      ·omega)
     obtain ⟨z1, z2, z3, z4, z5⟩ := grow_close hO hGL.out hsep.out hKs HVA.out HNS.out hol HVL.out hap hG6 hK6 hg7 ho7 hl7
     have Z4 := Lib.hid z4
     have Z5 := Lib.hid z5
     clear z4 z5 hG hG3 hG6 hK6 hK3 hK1 hOl3 hOo3 hOo6 ho6 hg6 hl6 hk6 ho7 hb7 hg7 hl7 hGL hsep hO hKs hmc
     go_roundg (go1 - 1)
     case measure => omega
     case rel => exact ⟨i + 1, _, by omega, by go_num, z1, z2, z3, Z4, Z5⟩
  ·have hz : ¬ (i : Int) < (vs.length : Int) := by omega
   obtain rfl : i = vs.length := by omega
   go_wp2_with fail
   go_ret
   exact ⟨_, rfl, os, hO, hol, hGL.out, hKs⟩
end Go.Proofs.YtcpfanpcdkoiaaaGreat
