/-
  Pk26: EnsT (what is needed of them).
-/
import Derived.Test.YtcpfanpcdkoiaaaGreatPk21
import Derived.Deep.RegionHeld
import Derived.Deep.Upon
set_option maxRecDepth 100000
set_option linter.unusedVariables false
set_option linter.unusedSimpArgs false

namespace Go.Proofs.YtcpfanpcdkoiaaaGreat
open Go.RowKit Go.Shelf


theorem insT_len (x : Int) : ∀ (l : List Int), (insT x l).length ≤ l.length + 1
 | [] => Nat.le_refl _
 | y :: r => by
  unfold insT
  have := insT_len x r
  split
  ·simp only [List.length_cons]; omega
  ·split <;> simp only [List.length_cons] <;> omega
theorem setT_snoc (l : List Int) (x : Int) : setT (l ++ [x]) = insT x (setT l) := by unfold setT; rw [List.foldl_append]; rfl
theorem setT_len (l : List Int) : (setT l).length ≤ l.length := by
 have h : ∀ l : List Int, (setT l.reverse).length ≤ l.length := fun l => by
  induction l with
  | nil => exact Nat.le_refl _
  | cons x r ih =>
   rw [List.reverse_cons, setT_snoc, List.length_cons]
   have := insT_len x (setT r.reverse)
   omega
 have := h l.reverse
 rwa [List.reverse_reverse, List.length_reverse] at this
theorem ins_at (x : Int) : ∀ (l : List Int) (k : Nat), k ≤ l.length → (∀ j, j < k → l[j]?.getD 0 < x) →
  (k = l.length → insT x l = l ++ [x]) ∧ (k < l.length → l[k]?.getD 0 = x → insT x l = l) ∧ (k < l.length → x < l[k]?.getD 0 → insT x l = l.take k ++ (x :: l.drop k))
 | [], k, hk, _ => ⟨fun _ => rfl, fun h => absurd h (Nat.not_lt_zero _), fun h => absurd h (Nat.not_lt_zero _)⟩
 | y :: r, 0, _, _ => by
  refine ⟨fun h => by simp at h, fun _ h => ?_, fun _ h => ?_⟩
  ·have h : y = x := h
   unfold insT; rw [if_neg (by omega), if_pos h]
  ·have h : x < y := h
   unfold insT; rw [if_neg (by omega), if_neg (by omega)]; rfl
 | y :: r, k + 1, hk, hb => by
  have h0 : y < x := hb 0 (by omega)
  obtain ⟨h1, h2, h3⟩ := ins_at x r k (by simp at hk; exact hk) (fun j hj => by have := hb (j + 1) (by omega); simpa using this)
  have e : insT x (y :: r) = y :: insT x r := by rw [insT, if_pos h0]
  rw [e]
  refine ⟨fun h => ?_, fun h hx => ?_, fun h hx => ?_⟩
  ·rw [h1 (by simpa using h)]; rfl
  ·rw [h2 (by simpa using h) (by simpa using hx)]
  ·rw [h3 (by simpa using h) (by simpa using hx)]; rfl
theorem run_appM {P : Program} {t e : TypeId} {z : Value} {bytes : Nat} (E : Elem P t e z bytes) (ty : TypeId) {w : World} {base : Nat} {v : Value} {xs : List Value} (hown : Owns base e w v xs) {x : Value} {ys : List Value}
  (hx : (x = .slice none 0 0 ∧ ys = []) ∨ ∃ ad c, x = .slice (some ad) ys.length c ∧ ∀ j u, ys[j]? = some u → w.cell? (ad.add j) = some u) (h1 : ∀ u ∈ ys, u.oneCell' = true) (hl : (xs.length + ys.length) * bytes ≤ 140737488355328) (hm : xs.length + ys.length ≤ maxLen) (hbase : base ≤ w.heap.size) :
  ∃ v' w', (Builtin.append_ #[t, t] ty #[v, x]).run P w = .ok v' w' ∧ Owns base e w' v' (xs ++ ys) ∧ w.grownBy w' v.ownBlock := by
 obtain ⟨i, hi, hz, h4, h5⟩ := E.info
 rcases hx with ⟨rfl, rfl⟩ | ⟨ad, c, rfl, hy⟩
 ·obtain ⟨ao, cap, rfl, k1, k2, _⟩ := OwnsK.slice (K := 1) hown
  refine ⟨_, w, run_append_nothing w t t ty e i E.und hi ao xs.length cap k1 (.slice none 0 0) ⟨.inl ⟨e, E.und⟩, fun w' => rfl, rfl, rfl, by simp, by simp⟩, by simpa using hown, ⟨rfl, rfl, rfl, Nat.le_refl _, fun _ _ _ => rfl⟩⟩
 ·obtain ⟨v', w', hr, r1, r2, _⟩ := run_append_own (P := P) w base t ty e i z 1 bytes E.und hi hz h4 h5 E.one (by decide) v xs.length xs hown ad ys.length c ys (by simp) hy h1 hm hl hbase
  exact ⟨v', w', hr, by unfold Owns; simpa using r1, r2⟩
theorem step_run_app {P : Program} {w w' : World} {o : Oper} {a : Act} {K : Act → World → Prop} {Q : Exit → Act → World → Prop} {s x : Operand} {t : TypeId} {v u v' : Value} (ho : o.op = .call { callee := .builtin .append, args := #[s, x], argTypes := #[t, t] }) (hs : a.eval s = v) (hx : a.eval x = u)
  (hrun : (Builtin.append_ #[t, t] o.type #[v, u]).run P w = .ok v' w') (h : K (a.put o.dst v') w') : Oper.wp P o a w K Q := by
 unfold Oper.wp
 simp [execOp, ho, resolve, invoke, builtin, hs, hx, hrun, Result.andThen]
 exact h
theorem step_appM {P : Program} {t e : TypeId} {z : Value} {bytes : Nat} (E : Elem P t e z bytes) {w : World} {o : Oper} {a : Act} {K : Act → World → Prop} {Q : Exit → Act → World → Prop} {s x : Operand} {base : Nat} {v u : Value} {xs ys : List Value}
  (hown : Owns base e w v xs) (ho : o.op = .call { callee := .builtin .append, args := #[s, x], argTypes := #[t, t] }) (hs : a.eval s = v) (hx : a.eval x = u)
  (hu : (u = .slice none 0 0 ∧ ys = []) ∨ ∃ ad m c, u = .slice (some ad) m c ∧ m = ys.length ∧ ∀ j u, ys[j]? = some u → w.cell? (ad.add j) = some u) (h1 : ∀ u ∈ ys, u.oneCell' = true) (hl : (xs.length + ys.length) * bytes ≤ 140737488355328) (hm : xs.length + ys.length ≤ maxLen) (hbase : base ≤ w.heap.size)
  (h : ∀ v' w', Owns base e w' v' (xs ++ ys) → w.grownBy w' v.ownBlock → K (a.put o.dst v') w') : Oper.wp P o a w K Q := by
 obtain ⟨v', w', hr, h2, h3⟩ := run_appM E o.type hown (x := u) (ys := ys) (by
  rcases hu with h | ⟨ad, m, c, e1, e2, e3⟩
  ·exact .inl h
  ·exact .inr ⟨ad, c, by rw [e1, e2], e3⟩) h1 hl hm hbase
 exact step_run_app ho hs hx hr (h v' w' h2 h3)
theorem ivals_oneX (xs : List Int) : ∀ u ∈ ivals .i64 xs, u.oneCell' = true := by
 intro u hu
 obtain ⟨_, _, rfl⟩ := List.mem_map.1 hu
 rfl
set_option maxHeartbeats 16000000 in
theorem rtrees_any (v : Value) (e : EE) (bo : Option Addr) (bc : Nat) (no : Option Addr) (nc : Nat) (lo : Option Addr) (lc : Nat) (w : World) (h : EnsIs w v e bo bc no nc lo lc) (hlim : e.nodes.length ≤ 100000) :
  Calls Tryz.prog 33 #[v] w fun e_1 w' => ∃ r, e_1 = .returned r ∧ Owns w.heap.size 3 w' r (ivals .i64 (treesE e.nodes)) ∧ Below w.heap.size w w' := by
 obtain ⟨rfl, h1, h2, h4, h5, h3, h6, h7, h8, h9⟩ := h
 obtain ⟨w0, hw0, hbf, pe, hpe, hbe⟩ := boxE w e bo bc no nc lo lc
 have HP : Hid (w.heap.size ≤ pe) := Lib.hid (by omega)
 have HW := Lib.hid hw0; clear hw0
 go_enter Tryz.func33, Tryz.ntmps33
 go_upto_region 1 with fail
 rw [← HW.out, ← hpe]
 clear hpe HW
 have hE : EnsIs w0 (ensV e bo bc no nc lo lc) e bo bc no nc lo lc := EnsIs.below ⟨rfl, h1, h2, h4, h5, h3, h6, h7, h8, h9⟩ hbf
 have ee5 := hbe.cell 5 _ rfl
 go_wp2_with fail
 go_loopg [3, 4] e.nodes.length (fun gg ov iv wr => ∃ i : Nat, i + gg = e.nodes.length ∧ iv = .int .i64 (i : Int) ∧ Owns w0.heap.size 3 wr ov (ivals .i64 (setT ((e.nodes.take i).map (·.tree)))) ∧ Below w0.heap.size w0 wr)
 case atStart => exact ⟨0, by omega, rfl, by simpa [ivals, setT] using Owns.nil _ _ _, Below.refl _ _⟩
 case round =>
  obtain ⟨i, hi, rfl, hO, hbr⟩ := hrel
  replace hbe := hbe.kept hbr
  replace hE := hE.below hbr
  clear ee5
  have hln := setT_len ((e.nodes.take i).map (·.tree))
  rw [List.length_map, List.length_take] at hln
  by_cases hil : i < e.nodes.length
  ·have hz : (i : Int) < (e.nodes.length : Int) := by omega
   have hz0 : (0 : Int) ≤ (i : Int) := by omega
   obtain ⟨nb, noff, rfl⟩ := h2.addr hil
   obtain ⟨y, hy⟩ : ∃ y, e.nodes[i] = y := ⟨_, rfl⟩
   have hNd := NdAt.of hE.nodes hil hy
   have HT : Hid (setT ((e.nodes.take (i + 1)).map (·.tree)) = insT y.tree (setT ((e.nodes.take i).map (·.tree)))) := Lib.hid (by rw [List.take_succ_eq_append_getElem hil, List.map_append, hy]; exact setT_snoc _ _)
   clear hy
   obtain ⟨xs, hxs⟩ : ∃ l, setT ((e.nodes.take i).map (·.tree)) = l := ⟨_, rfl⟩
   rw [hxs] at hO HT hln
   clear hxs
   have hxl : (ivals .i64 xs).length = xs.length := ivals_length _ _
   have hI := (ints_of_owns hO).1
   obtain ⟨ao, cap, rfl, hc1, hc2, hc3⟩ := OwnsK.slice (K := 1) hO
   rw [hxl] at hO hc1 hI ⊢
   unfold maxLen at hc2
   have ee5 := hbe.cell 5 _ rfl
   obtain ⟨w2, hw2⟩ : ∃ x, x = wr := ⟨_, rfl⟩
   subst hw2
   obtain ⟨go1, hgo⟩ : ∃ go, go = gk := ⟨_, rfl⟩
   subst hgo
   go_wp2_with fail
   clear ee5
   go_loopg [5] xs.length (fun gg kv wr => ∃ k : Nat, k + gg = xs.length ∧ kv = .int .i64 (k : Int) ∧ Hid (∀ j, j < k → xs[j]?.getD 0 < y.tree) ∧ Below w2.heap.size w2 wr)
   case atStart => exact ⟨0, by omega, rfl, Lib.hid (fun j hj => absurd hj (Nat.not_lt_zero _)), Below.refl _ _⟩
   case round =>
    obtain ⟨k, hk, rfl, hA, hb2⟩ := hrel
    replace hbe := hbe.kept hb2
    replace hE := hE.below hb2
    replace hNd := hNd.below hb2
    by_cases hkl : k < xs.length
    ·have hkz : (k : Int) < (xs.length : Int) := by omega
     have hk0 : (0 : Int) ≤ (k : Int) := by omega
     obtain ⟨xb, xoff, rfl, hxb, hxc⟩ := hI.at'.2 k hkl
     replace hxc := (hb2.cell (p := ⟨xb, xoff + k, none⟩) hxb).trans hxc
     obtain ⟨xk, hxk⟩ : ∃ x, xs[k]?.getD 0 = x := ⟨_, rfl⟩
     rw [hxk] at hxc
     have HXK := Lib.hid hxk
     clear hxk
     have lt9 := Nat.lt_of_lt_of_le hxb hb2.size
     rcases Decidable.em (xk < y.tree) with q | q
     ·have hA2 : Hid (∀ j, j < k + 1 → xs[j]?.getD 0 < y.tree) := Lib.hid (fun j hj => by
       by_cases e9 : j = k
       ·rw [e9, HXK.out]; exact q
       ·exact hA.out j (by omega))
      clear hA
      go_upto_region 6 with fail
      refine wp_region_seq (S := fun w' => BoxL w' pe [.int .i64 e.feats, .int .i64 e.tgts, .string ⟨e.agg.toArray⟩, .string ⟨e.post.toArray⟩, .slice bo e.base.length bc, .slice (some ⟨nb, noff, none⟩) e.nodes.length nc, .slice lo e.leaves.length lc] ∧ NdAt w' nb noff i y ∧ w'.cell? ⟨xb, xoff + k, none⟩ = some (.int .i64 xk)) [(true, 0), (true, 1), (true, 2), (true, 3), (true, 4), (true, 5), (true, 6), (true, 7), (true, 8), (true, 9), (true, 10), (true, 11), (true, 12), (true, 13), (true, 14), (true, 15), (true, 16)] (by kernel_rfl) (by kernel_rfl) (by kernel_rfl) (by kernel_rfl) (by kernel_rfl) (fun d _ _ _ _ h => by cases d <;> exact h) ⟨hbe.drew, hNd.drew, (by first | exact hxc | simpa using hxc)⟩ (fun _ => ?_)
      simp only [pickOps, List.append_eq, List.cons_append, List.nil_append, List.getElem?_toArray, List.getElem?_cons_succ, List.getElem?_cons_zero]
      have hb : Below wr.heap.size wr wr.drew := (Below.refl _ _).drew
      generalize wr.drew = wd at hb ⊢
      replace hbe := hbe.kept hb
      replace hE := hE.below hb
      replace hNd := hNd.below hb
      replace hb2 := hb2.trans (hb.mono hb2.size)
      clear hb
      repeat (first | (refine seq_take (v := ?_) (by rfl) ?_ ?_; rotate_left; (· intro w hSw; (try dsimp only at hSw); obtain ⟨hL0, hN0, ecx⟩ := hSw; obtain ⟨ee0, ee1, ee2, ee3, ee4, ee5, ee6⟩ := hL0.c7; clear hL0; obtain ⟨c0, c1, c2, c3, c4, c5, c6, c7⟩ := hN0.c8; clear hN0; go_simp; all_goals with_reducible rfl); (try simp only [Act.put, List.setIfInBounds_toArray, List.set_cons_zero, List.set_cons_succ])) | (refine seq_leave (by rfl) ?_; (try simp only [Act.put, List.setIfInBounds_toArray, List.set_cons_zero, List.set_cons_succ])))
      refine seq_end ?_
      go_wp2_with fail
      go_roundg (gk - 1)
      case measure => omega
      case rel => exact ⟨k + 1, by omega, by go_num, hA2, hb2⟩
     ·go_upto_region 6 with fail
      refine wp_region_seq (S := fun w' => BoxL w' pe [.int .i64 e.feats, .int .i64 e.tgts, .string ⟨e.agg.toArray⟩, .string ⟨e.post.toArray⟩, .slice bo e.base.length bc, .slice (some ⟨nb, noff, none⟩) e.nodes.length nc, .slice lo e.leaves.length lc] ∧ NdAt w' nb noff i y ∧ w'.cell? ⟨xb, xoff + k, none⟩ = some (.int .i64 xk)) [(true, 0), (true, 1), (true, 2), (true, 3), (true, 4), (true, 5), (true, 6), (true, 7), (true, 8), (true, 9), (true, 10), (true, 11), (true, 12), (true, 13), (true, 14), (true, 15), (true, 16)] (by kernel_rfl) (by kernel_rfl) (by kernel_rfl) (by kernel_rfl) (by kernel_rfl) (fun d _ _ _ _ h => by cases d <;> exact h) ⟨hbe.drew, hNd.drew, (by first | exact hxc | simpa using hxc)⟩ (fun _ => ?_)
      simp only [pickOps, List.append_eq, List.cons_append, List.nil_append, List.getElem?_toArray, List.getElem?_cons_succ, List.getElem?_cons_zero]
      have hb : Below wr.heap.size wr wr.drew := (Below.refl _ _).drew
      generalize wr.drew = wd at hb ⊢
      replace hbe := hbe.kept hb
      replace hE := hE.below hb
      replace hNd := hNd.below hb
      replace hb2 := hb2.trans (hb.mono hb2.size)
      replace hxc := (hb.cell (p := ⟨xb, xoff + k, none⟩) lt9).trans hxc
      clear hb
      repeat (first | (refine seq_take (v := ?_) (by rfl) ?_ ?_; rotate_left; (· intro w hSw; (try dsimp only at hSw); obtain ⟨hL0, hN0, ecx⟩ := hSw; obtain ⟨ee0, ee1, ee2, ee3, ee4, ee5, ee6⟩ := hL0.c7; clear hL0; obtain ⟨c0, c1, c2, c3, c4, c5, c6, c7⟩ := hN0.c8; clear hN0; go_simp; all_goals with_reducible rfl); (try simp only [Act.put, List.setIfInBounds_toArray, List.set_cons_zero, List.set_cons_succ])) | (refine seq_leave (by rfl) ?_; (try simp only [Act.put, List.setIfInBounds_toArray, List.set_cons_zero, List.set_cons_succ])))
      refine seq_end ?_
      go_upto_region 8 with fail
      have hke : ((k : Int) == (xs.length : Int)) = false := by simp; omega
      rcases Decidable.em (xk = y.tree) with q2 | q2
      ·have hne : (xk != y.tree) = false := by simp [q2]
       have hIN := Lib.hid (((ins_at y.tree xs k (by omega) hA.out).2.1 hkl (HXK.out.trans q2)))
       clear hA q q2
       generalize hwd : wd = we at *
       clear hwd
       refine wp_region_seq (S := fun w' => BoxL w' pe [.int .i64 e.feats, .int .i64 e.tgts, .string ⟨e.agg.toArray⟩, .string ⟨e.post.toArray⟩, .slice bo e.base.length bc, .slice (some ⟨nb, noff, none⟩) e.nodes.length nc, .slice lo e.leaves.length lc] ∧ NdAt w' nb noff i y ∧ w'.cell? ⟨xb, xoff + k, none⟩ = some (.int .i64 xk)) [(true, 0), (true, 1), (true, 2), (true, 3), (true, 4), (true, 5), (true, 6), (true, 7), (true, 8), (true, 9), (true, 10), (true, 11), (true, 12), (true, 13), (true, 14), (true, 15), (true, 16)] (by kernel_rfl) (by kernel_rfl) (by kernel_rfl) (by kernel_rfl) (by kernel_rfl) (fun d _ _ _ _ h => by cases d <;> exact h) ⟨hbe.drew, hNd.drew, (by first | exact hxc | simpa using hxc)⟩ (fun _ => ?_)
       simp only [pickOps, List.append_eq, List.cons_append, List.nil_append, List.getElem?_toArray, List.getElem?_cons_succ, List.getElem?_cons_zero]
       have hb : Below we.heap.size we we.drew := (Below.refl _ _).drew
       generalize we.drew = wd at hb ⊢
       replace hbe := hbe.kept hb
       replace hE := hE.below hb
       replace hNd := hNd.below hb
       replace hb2 := hb2.trans (hb.mono hb2.size)
       clear hb
       repeat (first | (refine seq_take (v := ?_) (by rfl) ?_ ?_; rotate_left; (· intro w hSw; (try dsimp only at hSw); obtain ⟨hL0, hN0, ecx⟩ := hSw; obtain ⟨ee0, ee1, ee2, ee3, ee4, ee5, ee6⟩ := hL0.c7; clear hL0; obtain ⟨c0, c1, c2, c3, c4, c5, c6, c7⟩ := hN0.c8; clear hN0; go_simp; all_goals with_reducible rfl); (try simp only [Act.put, List.setIfInBounds_toArray, List.set_cons_zero, List.set_cons_succ])) | (refine seq_leave (by rfl) ?_; (try simp only [Act.put, List.setIfInBounds_toArray, List.set_cons_zero, List.set_cons_succ])))
       refine seq_end ?_
       go_wp2_with fail
       have hO3 := OwnsK.block hO (fun g hg => hb2.block g (OwnsK.lt hO g hg).2)
       go_roundg (go1 - 1)
       case measure => omega
       case rel => exact ⟨i + 1, by omega, by go_num, by rw [HT.out, hIN.out]; exact hO3, hbr.trans (hb2.mono hbr.size)⟩
      ·have hne : (xk != y.tree) = true := by simp [q2]
       have hIN := Lib.hid (((ins_at y.tree xs k (by omega) hA.out).2.2 hkl (by rw [HXK.out]; omega)))
       clear hA q q2
       generalize hwd : wd = we at *
       clear hwd
       refine wp_region_seq (S := fun w' => BoxL w' pe [.int .i64 e.feats, .int .i64 e.tgts, .string ⟨e.agg.toArray⟩, .string ⟨e.post.toArray⟩, .slice bo e.base.length bc, .slice (some ⟨nb, noff, none⟩) e.nodes.length nc, .slice lo e.leaves.length lc] ∧ NdAt w' nb noff i y ∧ w'.cell? ⟨xb, xoff + k, none⟩ = some (.int .i64 xk)) [(true, 0), (true, 1), (true, 2), (true, 3), (true, 4), (true, 5), (true, 6), (true, 7), (true, 8), (true, 9), (true, 10), (true, 11), (true, 12), (true, 13), (true, 14), (true, 15), (true, 16)] (by kernel_rfl) (by kernel_rfl) (by kernel_rfl) (by kernel_rfl) (by kernel_rfl) (fun d _ _ _ _ h => by cases d <;> exact h) ⟨hbe.drew, hNd.drew, (by first | exact hxc | simpa using hxc)⟩ (fun _ => ?_)
       simp only [pickOps, List.append_eq, List.cons_append, List.nil_append, List.getElem?_toArray, List.getElem?_cons_succ, List.getElem?_cons_zero]
       have hb : Below we.heap.size we we.drew := (Below.refl _ _).drew
       generalize we.drew = wd at hb ⊢
       replace hbe := hbe.kept hb
       replace hE := hE.below hb
       replace hNd := hNd.below hb
       replace hb2 := hb2.trans (hb.mono hb2.size)
       clear hb
       repeat (first | (refine seq_take (v := ?_) (by rfl) ?_ ?_; rotate_left; (· intro w hSw; (try dsimp only at hSw); obtain ⟨hL0, hN0, ecx⟩ := hSw; obtain ⟨ee0, ee1, ee2, ee3, ee4, ee5, ee6⟩ := hL0.c7; clear hL0; obtain ⟨c0, c1, c2, c3, c4, c5, c6, c7⟩ := hN0.c8; clear hN0; go_simp; all_goals with_reducible rfl); (try simp only [Act.put, List.setIfInBounds_toArray, List.set_cons_zero, List.set_cons_succ])) | (refine seq_leave (by rfl) ?_; (try simp only [Act.put, List.setIfInBounds_toArray, List.set_cons_zero, List.set_cons_succ])))
       refine seq_end ?_
       go_upto_region 9 with fail
       have hkc : k ≤ cap := by omega
       have hkm : k ≤ xs.length := by omega
       have hck : ¬ cap = k := by omega
       have hO3 : Owns w0.heap.size 3 wd _ (ivals .i64 xs) := OwnsK.block hO (fun g hg => hb2.block g (OwnsK.lt hO g hg).2)
       obtain ⟨g9, e9⟩ : ∃ g9, (some ⟨xb, xoff, none⟩ : Option Addr) = some ⟨g9, 0, none⟩ := by
        rcases hO3.shape with ⟨h0, _⟩ | ⟨g, cap9, h0, _⟩
        ·cases h0
        ·injection h0 with h0 _; exact ⟨g, h0⟩
       injection e9 with e9
       injection e9 with e9 e10
       subst e9 e10
       refine wp_region_held_drew (S := fun w' => BoxL w' pe [.int .i64 e.feats, .int .i64 e.tgts, .string ⟨e.agg.toArray⟩, .string ⟨e.post.toArray⟩, .slice bo e.base.length bc, .slice (some ⟨nb, noff, none⟩) e.nodes.length nc, .slice lo e.leaves.length lc] ∧ NdAt w' nb noff i y) (by kernel_rfl) ⟨hbe.drew, hNd.drew⟩ (fun _ => ?_)
       have hb : Below wd.heap.size wd wd.drew := (Below.refl _ _).drew
       generalize wd.drew = wf at hb ⊢
       replace hbe := hbe.kept hb
       replace hE := hE.below hb
       replace hNd := hNd.below hb
       replace hb2 := hb2.trans (hb.mono hb2.size)
       replace hO3 := Owns.kept hO3 hb
       clear hb
       (refine wpAnyH_take (i := 0) (v := ?_) rfl (by kernel_rfl) (by kernel_rfl) (by kernel_rfl) (fun _ _ _ h => h) (Or.inl ⟨by rfl, ?_⟩) ⟨hbe, hNd⟩ ?_; rotate_left; (· intro w hSw; clear hSw; go_simp; all_goals with_reducible rfl); (try simp only [List.getElem_toArray, List.getElem_cons_succ, List.getElem_cons_zero, Act.put, List.setIfInBounds_toArray, List.set_cons_zero, List.set_cons_succ]))
       (refine wpAnyH_take (i := 1) (v := ?_) rfl (by kernel_rfl) (by kernel_rfl) (by kernel_rfl) (fun _ _ _ h => h) (Or.inl ⟨by rfl, ?_⟩) ⟨hbe, hNd⟩ ?_; rotate_left; (· intro w hSw; clear hSw; go_simp; all_goals with_reducible rfl); (try simp only [List.getElem_toArray, List.getElem_cons_succ, List.getElem_cons_zero, Act.put, List.setIfInBounds_toArray, List.set_cons_zero, List.set_cons_succ]))
       (refine wpAnyH_take (i := 2) (v := ?_) rfl (by kernel_rfl) (by kernel_rfl) (by kernel_rfl) (fun _ _ _ h => h) (Or.inl ⟨by rfl, ?_⟩) ⟨hbe, hNd⟩ ?_; rotate_left; (· intro w hSw; clear hSw; go_simp; all_goals with_reducible rfl); (try simp only [List.getElem_toArray, List.getElem_cons_succ, List.getElem_cons_zero, Act.put, List.setIfInBounds_toArray, List.set_cons_zero, List.set_cons_succ]))
       (refine wpAnyH_take (i := 4) (v := ?_) rfl (by kernel_rfl) (by kernel_rfl) (by kernel_rfl) (fun _ _ _ h => h) (Or.inl ⟨by rfl, ?_⟩) ⟨hbe, hNd⟩ ?_; rotate_left; (· intro w hSw; clear hSw; go_simp; all_goals with_reducible rfl); (try simp only [List.getElem_toArray, List.getElem_cons_succ, List.getElem_cons_zero, Act.put, List.setIfInBounds_toArray, List.set_cons_zero, List.set_cons_succ]))
       (refine wpAnyH_take (i := 5) (v := ?_) rfl (by kernel_rfl) (by kernel_rfl) (by kernel_rfl) (fun _ _ _ h => h) (Or.inl ⟨by rfl, ?_⟩) ⟨hbe, hNd⟩ ?_; rotate_left; (· intro w hSw; (try dsimp only at hSw); obtain ⟨hL0, -⟩ := hSw; have ee5 := hL0.cell 5 _ rfl; clear hL0; go_simp; all_goals with_reducible rfl); (try simp only [List.getElem_toArray, List.getElem_cons_succ, List.getElem_cons_zero, Act.put, List.setIfInBounds_toArray, List.set_cons_zero, List.set_cons_succ]))
       (refine wpAnyH_take (i := 6) (v := ?_) rfl (by kernel_rfl) (by kernel_rfl) (by kernel_rfl) (fun _ _ _ h => h) (Or.inl ⟨by rfl, ?_⟩) ⟨hbe, hNd⟩ ?_; rotate_left; (· intro w hSw; clear hSw; go_simp; all_goals with_reducible rfl); (try simp only [List.getElem_toArray, List.getElem_cons_succ, List.getElem_cons_zero, Act.put, List.setIfInBounds_toArray, List.set_cons_zero, List.set_cons_succ]))
       (refine wpAnyH_take (i := 7) (v := ?_) rfl (by kernel_rfl) (by kernel_rfl) (by kernel_rfl) (fun _ _ _ h => h) (Or.inl ⟨by rfl, ?_⟩) ⟨hbe, hNd⟩ ?_; rotate_left; (· intro w hSw; clear hSw; go_simp; all_goals with_reducible rfl); (try simp only [List.getElem_toArray, List.getElem_cons_succ, List.getElem_cons_zero, Act.put, List.setIfInBounds_toArray, List.set_cons_zero, List.set_cons_succ]))
       (refine wpAnyH_take (i := 8) (v := ?_) rfl (by kernel_rfl) (by kernel_rfl) (by kernel_rfl) (fun _ _ _ h => h) (Or.inl ⟨by rfl, ?_⟩) ⟨hbe, hNd⟩ ?_; rotate_left; (· intro w hSw; clear hSw; go_simp; all_goals with_reducible rfl); (try simp only [List.getElem_toArray, List.getElem_cons_succ, List.getElem_cons_zero, Act.put, List.setIfInBounds_toArray, List.set_cons_zero, List.set_cons_succ]))
       (refine wpAnyH_take (i := 9) (v := ?_) rfl (by kernel_rfl) (by kernel_rfl) (by kernel_rfl) (fun _ _ _ h => h) (Or.inl ⟨by rfl, ?_⟩) ⟨hbe, hNd⟩ ?_; rotate_left; (· intro w hSw; (try dsimp only at hSw); obtain ⟨-, hN0⟩ := hSw; have c0 := hN0.c8.1; clear hN0; go_simp; all_goals with_reducible rfl); (try simp only [List.getElem_toArray, List.getElem_cons_succ, List.getElem_cons_zero, Act.put, List.setIfInBounds_toArray, List.set_cons_zero, List.set_cons_succ]))
       (refine wpAnyH_take (i := 12) (v := ?_) rfl (by kernel_rfl) (by kernel_rfl) (by kernel_rfl) (fun _ _ _ h => h) (Or.inl ⟨by rfl, ?_⟩) ⟨hbe, hNd⟩ ?_; rotate_left; (· intro w hSw; clear hSw; go_simp; all_goals with_reducible rfl); (try simp only [List.getElem_toArray, List.getElem_cons_succ, List.getElem_cons_zero, Act.put, List.setIfInBounds_toArray, List.set_cons_zero, List.set_cons_succ]))
       (refine wpAnyH_take (i := 13) (v := ?_) rfl (by kernel_rfl) (by kernel_rfl) (by kernel_rfl) (fun _ _ _ h => h) (Or.inl ⟨by rfl, ?_⟩) ⟨hbe, hNd⟩ ?_; rotate_left; (· intro w hSw; clear hSw; go_simp; all_goals with_reducible rfl); (try simp only [List.getElem_toArray, List.getElem_cons_succ, List.getElem_cons_zero, Act.put, List.setIfInBounds_toArray, List.set_cons_zero, List.set_cons_succ]))
       (refine wpAnyH_take (i := 14) (v := ?_) rfl (by kernel_rfl) (by kernel_rfl) (by kernel_rfl) (fun _ _ _ h => h) (Or.inl ⟨by rfl, ?_⟩) ⟨hbe, hNd⟩ ?_; rotate_left; (· intro w hSw; clear hSw; go_simp; all_goals with_reducible rfl); (try simp only [List.getElem_toArray, List.getElem_cons_succ, List.getElem_cons_zero, Act.put, List.setIfInBounds_toArray, List.set_cons_zero, List.set_cons_succ]))
       have hXC : xb < wf.heap.size ∧ ∀ (j : Nat) (u : Value), (ivals .i64 xs)[j]? = some u → wf.cell? ⟨xb, j, none⟩ = some u := by
        rcases hO3.shape with ⟨h0, _⟩ | ⟨g, cap9, h0, _, k2, _, _, k5, _⟩
        ·cases h0
        ·injection h0 with h0 _; injection h0 with h0; injection h0 with h0; subst h0; exact ⟨k2, fun j u hj => (k5 j (List.getElem?_eq_some_iff.1 hj).1).trans hj⟩
       obtain ⟨hXl, hXC⟩ := hXC
       have hs1 : (ivals .i64 (xs.take k)).length = k := by rw [ivals_length, List.length_take]; omega
       have hs2 : (ivals .i64 (xs.drop k)).length = xs.length - k := by rw [ivals_length, List.length_drop]
       have hw0f : w0.heap.size ≤ wf.heap.size := Nat.le_trans hbr.size hb2.size
       clear hO3 hO hI hc3
       refine wpAnyH_ready (rs := [3, 10]) (by kernel_rfl) (by simp) (AllReadyH.cons rfl (fun K hK => ?_) (AllReadyH.cons rfl (fun K hK => ?_) AllReadyH.nil))
       ·skip
        rw [if_pos (by rfl)]
        refine step_appM (ys := ivals .i64 (xs.take k)) E_ints (Owns.nil wf.heap.size 3 wf) rfl rfl rfl (.inr ⟨_, _, _, rfl, hs1.symm, fun j u hj => by rw [show (⟨xb, 0, none⟩ : Addr).add j = ⟨xb, j, none⟩ by rw [Addr.add_lit, Nat.zero_add]]; exact ((Below.refl wf.heap.size wf).cell (p := ⟨xb, j, none⟩) hXl).trans (hXC j u (by have hx := hj; unfold ivals at hx ⊢; rw [List.map_take] at hx; have h9 := (List.getElem?_eq_some_iff.1 hx).1; rw [List.getElem?_take_of_lt (by simp at h9; omega)] at hx; exact hx))⟩) (ivals_oneX _) (by simp [ivals]; omega) (by unfold maxLen; simp [ivals]; omega) (Below.refl wf.heap.size wf).size ?_
        intro vA wA hOA hgA
        rw [List.nil_append] at hOA
        have hBA : Below wf.heap.size wf wA := (Below.refl wf.heap.size wf).grown hgA (Below.refl wf.heap.size wf).size (fun j hj => by cases hj)
        refine hK.out _ _ ⟨hbe.kept (hBA), hNd.below (hBA)⟩ (fun _ => ?_)
        clear hK K
        (try simp only [List.getElem_toArray, List.getElem_cons_succ, List.getElem_cons_zero, Act.put, List.setIfInBounds_toArray, List.set_cons_zero, List.set_cons_succ])
        refine wpAnyH_ready (rs := [10]) (by kernel_rfl) (by simp) (AllReadyH.cons rfl (fun K hK => ?_) AllReadyH.nil)
        obtain ⟨wB, hwB⟩ : ∃ X, X = wA.alloc (.cells #[.int .i64 y.tree] 3) := ⟨_, rfl⟩
        obtain ⟨pT, hpE⟩ : ∃ p, p = wA.heap.size := ⟨_, rfl⟩
        have hcT : wB.cell? ⟨pT, 0, none⟩ = some (.int .i64 y.tree) := by rw [hwB, hpE]; go_simp
        have hpT : pT < wB.heap.size := by rw [hwB, hpE]; simp
        have hB0 : Below wA.heap.size wA wB := by rw [hwB]; exact (Below.refl _ _).alloc (Nat.le_refl _) _
        have hBB : Below wf.heap.size wf wB := hBA.trans (hB0.mono hBA.size)
        replace hOA := Owns.kept hOA hB0
        go_simp
        rw [← hwB, ← hpE]
        clear hwB hpE hB0
        refine hK.out _ _ ⟨hbe.kept (hBB), hNd.below (hBB)⟩ (fun _ => ?_)
        clear hK K
        (try simp only [List.getElem_toArray, List.getElem_cons_succ, List.getElem_cons_zero, Act.put, List.setIfInBounds_toArray, List.set_cons_zero, List.set_cons_succ])
        refine wpAnyH_ready (rs := [11]) (by kernel_rfl) (by simp) (AllReadyH.cons rfl (fun K hK => ?_) AllReadyH.nil)
        rw [if_pos (by rfl)]
        refine step_appM (ys := [.int .i64 y.tree]) E_ints hOA rfl rfl rfl (.inr ⟨_, _, _, rfl, rfl, fun j u hj => by match j, hj with | 0, hj => simp at hj; subst hj; simpa [Addr.add] using hcT⟩) (by simp [Value.oneCell']) (by rw [hs1]; simp; omega) (by rw [hs1]; unfold maxLen; simp; omega) hBB.size ?_
        intro vC wC hOC hgC
        have hBC : Below wf.heap.size wf wC := hBB.grown hgC hBB.size (fun j hj => (OwnsK.lt (K := 1) hOA j hj).1)
        refine hK.out _ _ ⟨hbe.kept (hBC), hNd.below (hBC)⟩ (fun _ => ?_)
        clear hK K
        (try simp only [List.getElem_toArray, List.getElem_cons_succ, List.getElem_cons_zero, Act.put, List.setIfInBounds_toArray, List.set_cons_zero, List.set_cons_succ])
        refine wpAnyH_ready (rs := [15]) (by kernel_rfl) (by simp) (AllReadyH.cons rfl (fun K hK => ?_) AllReadyH.nil)
        rw [if_pos (by rfl)]
        refine step_appM (ys := ivals .i64 (xs.drop k)) E_ints hOC rfl rfl rfl (.inr ⟨_, _, _, rfl, hs2.symm, fun j u hj => by rw [show (⟨xb, k, none⟩ : Addr).add j = ⟨xb, k + j, none⟩ by rw [Addr.add_lit]]; exact (hBC.cell (p := ⟨xb, k + j, none⟩) hXl).trans (hXC (k + j) u (by unfold ivals at hj ⊢; rw [List.map_drop, List.getElem?_drop] at hj; exact hj))⟩) (ivals_oneX _) (by rw [List.length_append, hs1, hs2]; simp; omega) (by rw [List.length_append, hs1, hs2]; unfold maxLen; simp; omega) hBC.size ?_
        intro vD wD hOD hgD
        have hBD : Below wf.heap.size wf wD := hBC.grown hgD hBC.size (fun j hj => (OwnsK.lt (K := 1) hOC j hj).1)
        refine hK.out _ _ ⟨hbe.kept (hBD), hNd.below (hBD)⟩ (fun _ => ?_)
        clear hK K
        (try simp only [List.getElem_toArray, List.getElem_cons_succ, List.getElem_cons_zero, Act.put, List.setIfInBounds_toArray, List.set_cons_zero, List.set_cons_succ])
        refine wpAnyH_ready (rs := [16]) (by kernel_rfl) (by simp) (AllReadyH.cons rfl (fun K hK => ?_) AllReadyH.nil)
        go_simp
        refine hK.out _ _ ⟨hbe.kept (hBD), hNd.below (hBD)⟩ (fun _ => ?_)
        clear hK K
        (try simp only [List.getElem_toArray, List.getElem_cons_succ, List.getElem_cons_zero, Act.put, List.setIfInBounds_toArray, List.set_cons_zero, List.set_cons_succ])
        refine wpAnyH_done (by kernel_rfl) ?_ _
        go_wp2_with fail
        go_roundg (go1 - 1)
        case measure => omega
        case rel => exact ⟨i + 1, by omega, by go_num, by rw [HT.out, hIN.out]; simpa [ivals] using hOD.mono hw0f, hbr.trans ((hb2.trans (hBD.mono hb2.size)).mono hbr.size)⟩
       ·skip
        obtain ⟨wB, hwB⟩ : ∃ X, X = wf.alloc (.cells #[.int .i64 y.tree] 3) := ⟨_, rfl⟩
        obtain ⟨pT, hpE⟩ : ∃ p, p = wf.heap.size := ⟨_, rfl⟩
        have hcT : wB.cell? ⟨pT, 0, none⟩ = some (.int .i64 y.tree) := by rw [hwB, hpE]; go_simp
        have hpT : pT < wB.heap.size := by rw [hwB, hpE]; simp
        have hB0 : Below wf.heap.size wf wB := by rw [hwB]; exact (Below.refl _ _).alloc (Nat.le_refl _) _
        have hBB : Below wf.heap.size wf wB := (Below.refl wf.heap.size wf).trans (hB0.mono (Below.refl wf.heap.size wf).size)
        go_simp
        rw [← hwB, ← hpE]
        clear hwB hpE hB0
        refine hK.out _ _ ⟨hbe.kept (hBB), hNd.below (hBB)⟩ (fun _ => ?_)
        clear hK K
        (try simp only [List.getElem_toArray, List.getElem_cons_succ, List.getElem_cons_zero, Act.put, List.setIfInBounds_toArray, List.set_cons_zero, List.set_cons_succ])
        refine wpAnyH_ready (rs := [3]) (by kernel_rfl) (by simp) (AllReadyH.cons rfl (fun K hK => ?_) AllReadyH.nil)
        rw [if_pos (by rfl)]
        refine step_appM (ys := ivals .i64 (xs.take k)) E_ints (Owns.nil wf.heap.size 3 wB) rfl rfl rfl (.inr ⟨_, _, _, rfl, hs1.symm, fun j u hj => by rw [show (⟨xb, 0, none⟩ : Addr).add j = ⟨xb, j, none⟩ by rw [Addr.add_lit, Nat.zero_add]]; exact (hBB.cell (p := ⟨xb, j, none⟩) hXl).trans (hXC j u (by have hx := hj; unfold ivals at hx ⊢; rw [List.map_take] at hx; have h9 := (List.getElem?_eq_some_iff.1 hx).1; rw [List.getElem?_take_of_lt (by simp at h9; omega)] at hx; exact hx))⟩) (ivals_oneX _) (by simp [ivals]; omega) (by unfold maxLen; simp [ivals]; omega) hBB.size ?_
        intro vA wA hOA hgA
        rw [List.nil_append] at hOA
        have hBA : Below wf.heap.size wf wA := hBB.grown hgA hBB.size (fun j hj => by cases hj)
        replace hcT : wA.cell? ⟨pT, 0, none⟩ = some (.int .i64 y.tree) := (World.cell?_of_block (w := wB) (a := ⟨pT, 0, none⟩) (hgA.block pT hpT (by simp [Value.ownBlock]))).trans hcT
        refine hK.out _ _ ⟨hbe.kept (hBA), hNd.below (hBA)⟩ (fun _ => ?_)
        clear hK K
        (try simp only [List.getElem_toArray, List.getElem_cons_succ, List.getElem_cons_zero, Act.put, List.setIfInBounds_toArray, List.set_cons_zero, List.set_cons_succ])
        refine wpAnyH_ready (rs := [11]) (by kernel_rfl) (by simp) (AllReadyH.cons rfl (fun K hK => ?_) AllReadyH.nil)
        rw [if_pos (by rfl)]
        refine step_appM (ys := [.int .i64 y.tree]) E_ints hOA rfl rfl rfl (.inr ⟨_, _, _, rfl, rfl, fun j u hj => by match j, hj with | 0, hj => simp at hj; subst hj; simpa [Addr.add] using hcT⟩) (by simp [Value.oneCell']) (by rw [hs1]; simp; omega) (by rw [hs1]; unfold maxLen; simp; omega) hBA.size ?_
        intro vC wC hOC hgC
        have hBC : Below wf.heap.size wf wC := hBA.grown hgC hBA.size (fun j hj => (OwnsK.lt (K := 1) hOA j hj).1)
        refine hK.out _ _ ⟨hbe.kept (hBC), hNd.below (hBC)⟩ (fun _ => ?_)
        clear hK K
        (try simp only [List.getElem_toArray, List.getElem_cons_succ, List.getElem_cons_zero, Act.put, List.setIfInBounds_toArray, List.set_cons_zero, List.set_cons_succ])
        refine wpAnyH_ready (rs := [15]) (by kernel_rfl) (by simp) (AllReadyH.cons rfl (fun K hK => ?_) AllReadyH.nil)
        rw [if_pos (by rfl)]
        refine step_appM (ys := ivals .i64 (xs.drop k)) E_ints hOC rfl rfl rfl (.inr ⟨_, _, _, rfl, hs2.symm, fun j u hj => by rw [show (⟨xb, k, none⟩ : Addr).add j = ⟨xb, k + j, none⟩ by rw [Addr.add_lit]]; exact (hBC.cell (p := ⟨xb, k + j, none⟩) hXl).trans (hXC (k + j) u (by unfold ivals at hj ⊢; rw [List.map_drop, List.getElem?_drop] at hj; exact hj))⟩) (ivals_oneX _) (by rw [List.length_append, hs1, hs2]; simp; omega) (by rw [List.length_append, hs1, hs2]; unfold maxLen; simp; omega) hBC.size ?_
        intro vD wD hOD hgD
        have hBD : Below wf.heap.size wf wD := hBC.grown hgD hBC.size (fun j hj => (OwnsK.lt (K := 1) hOC j hj).1)
        refine hK.out _ _ ⟨hbe.kept (hBD), hNd.below (hBD)⟩ (fun _ => ?_)
        clear hK K
        (try simp only [List.getElem_toArray, List.getElem_cons_succ, List.getElem_cons_zero, Act.put, List.setIfInBounds_toArray, List.set_cons_zero, List.set_cons_succ])
        refine wpAnyH_ready (rs := [16]) (by kernel_rfl) (by simp) (AllReadyH.cons rfl (fun K hK => ?_) AllReadyH.nil)
        go_simp
        refine hK.out _ _ ⟨hbe.kept (hBD), hNd.below (hBD)⟩ (fun _ => ?_)
        clear hK K
        (try simp only [List.getElem_toArray, List.getElem_cons_succ, List.getElem_cons_zero, Act.put, List.setIfInBounds_toArray, List.set_cons_zero, List.set_cons_succ])
        refine wpAnyH_done (by kernel_rfl) ?_ _
        go_wp2_with fail
        go_roundg (go1 - 1)
        case measure => omega
        case rel => exact ⟨i + 1, by omega, by go_num, by rw [HT.out, hIN.out]; simpa [ivals] using hOD.mono hw0f, hbr.trans ((hb2.trans (hBD.mono hb2.size)).mono hbr.size)⟩
    ·have hkz : ¬ (k : Int) < (xs.length : Int) := by omega
     have hke : ((k : Int) == (xs.length : Int)) = true := by simp; omega
     have hIN : Hid (insT y.tree xs = xs.take k ++ y.tree :: xs.drop k) := Lib.hid (by rw [(ins_at y.tree xs k (by omega) hA.out).1 (by omega), List.take_of_length_le (by omega), List.drop_of_length_le (by omega)])
     clear hA
     go_upto_region 6 with fail
     refine wp_region_seq (S := fun w' => BoxL w' pe [.int .i64 e.feats, .int .i64 e.tgts, .string ⟨e.agg.toArray⟩, .string ⟨e.post.toArray⟩, .slice bo e.base.length bc, .slice (some ⟨nb, noff, none⟩) e.nodes.length nc, .slice lo e.leaves.length lc] ∧ NdAt w' nb noff i y) [(true, 0), (true, 1), (true, 2), (true, 3), (true, 4), (true, 5), (true, 6), (true, 7), (true, 8), (true, 9), (true, 10), (true, 11), (true, 12), (true, 13), (true, 14), (true, 15), (true, 16)] (by kernel_rfl) (by kernel_rfl) (by kernel_rfl) (by kernel_rfl) (by kernel_rfl) (fun d _ _ _ _ h => by cases d <;> exact h) ⟨hbe.drew, hNd.drew⟩ (fun _ => ?_)
     simp only [pickOps, List.append_eq, List.cons_append, List.nil_append, List.getElem?_toArray, List.getElem?_cons_succ, List.getElem?_cons_zero]
     have hb : Below wr.heap.size wr wr.drew := (Below.refl _ _).drew
     generalize wr.drew = wd at hb ⊢
     replace hbe := hbe.kept hb
     replace hE := hE.below hb
     replace hNd := hNd.below hb
     replace hb2 := hb2.trans (hb.mono hb2.size)
     clear hb
     repeat (first | (refine seq_take (v := ?_) (by rfl) ?_ ?_; rotate_left; (· intro w hSw; (try dsimp only at hSw); obtain ⟨hL0, hN0⟩ := hSw; obtain ⟨ee0, ee1, ee2, ee3, ee4, ee5, ee6⟩ := hL0.c7; clear hL0; obtain ⟨c0, c1, c2, c3, c4, c5, c6, c7⟩ := hN0.c8; clear hN0; go_simp; all_goals with_reducible rfl); (try simp only [Act.put, List.setIfInBounds_toArray, List.set_cons_zero, List.set_cons_succ])) | (refine seq_leave (by rfl) ?_; (try simp only [Act.put, List.setIfInBounds_toArray, List.set_cons_zero, List.set_cons_succ])))
     refine seq_end ?_
     go_upto_region 8 with fail
     generalize hwd : wd = we at *
     clear hwd
     refine wp_region_seq (S := fun w' => BoxL w' pe [.int .i64 e.feats, .int .i64 e.tgts, .string ⟨e.agg.toArray⟩, .string ⟨e.post.toArray⟩, .slice bo e.base.length bc, .slice (some ⟨nb, noff, none⟩) e.nodes.length nc, .slice lo e.leaves.length lc] ∧ NdAt w' nb noff i y) [(true, 0), (true, 1), (true, 2), (true, 3), (true, 4), (true, 5), (true, 6), (true, 7), (true, 8), (true, 9), (true, 10), (true, 11), (true, 12), (true, 13), (true, 14), (true, 15), (true, 16)] (by kernel_rfl) (by kernel_rfl) (by kernel_rfl) (by kernel_rfl) (by kernel_rfl) (fun d _ _ _ _ h => by cases d <;> exact h) ⟨hbe.drew, hNd.drew⟩ (fun _ => ?_)
     simp only [pickOps, List.append_eq, List.cons_append, List.nil_append, List.getElem?_toArray, List.getElem?_cons_succ, List.getElem?_cons_zero]
     have hb : Below we.heap.size we we.drew := (Below.refl _ _).drew
     generalize we.drew = wd at hb ⊢
     replace hbe := hbe.kept hb
     replace hE := hE.below hb
     replace hNd := hNd.below hb
     replace hb2 := hb2.trans (hb.mono hb2.size)
     clear hb
     repeat (first | (refine seq_take (v := ?_) (by rfl) ?_ ?_; rotate_left; (· intro w hSw; (try dsimp only at hSw); obtain ⟨hL0, hN0⟩ := hSw; obtain ⟨ee0, ee1, ee2, ee3, ee4, ee5, ee6⟩ := hL0.c7; clear hL0; obtain ⟨c0, c1, c2, c3, c4, c5, c6, c7⟩ := hN0.c8; clear hN0; go_simp; all_goals with_reducible rfl); (try simp only [Act.put, List.setIfInBounds_toArray, List.set_cons_zero, List.set_cons_succ])) | (refine seq_leave (by rfl) ?_; (try simp only [Act.put, List.setIfInBounds_toArray, List.set_cons_zero, List.set_cons_succ])))
     refine seq_end ?_
     go_upto_region 9 with fail
     cases ao with
     | none =>
      have hcap := hc3 rfl
      have hx0 : xs.length = 0 := by omega
      have hk0 : k = 0 := by omega
      clear hkz hke
      have hO3 : Owns w0.heap.size 3 wd _ (ivals .i64 xs) := OwnsK.block hO (fun g hg => hb2.block g (OwnsK.lt hO g hg).2)
      refine wp_region_held_drew (S := fun w' => BoxL w' pe [.int .i64 e.feats, .int .i64 e.tgts, .string ⟨e.agg.toArray⟩, .string ⟨e.post.toArray⟩, .slice bo e.base.length bc, .slice (some ⟨nb, noff, none⟩) e.nodes.length nc, .slice lo e.leaves.length lc] ∧ NdAt w' nb noff i y) (by kernel_rfl) ⟨hbe.drew, hNd.drew⟩ (fun _ => ?_)
      have hb : Below wd.heap.size wd wd.drew := (Below.refl _ _).drew
      generalize wd.drew = wf at hb ⊢
      replace hbe := hbe.kept hb
      replace hE := hE.below hb
      replace hNd := hNd.below hb
      replace hb2 := hb2.trans (hb.mono hb2.size)
      replace hO3 := Owns.kept hO3 hb
      clear hb
      (refine wpAnyH_take (i := 0) (v := ?_) rfl (by kernel_rfl) (by kernel_rfl) (by kernel_rfl) (fun _ _ _ h => h) (Or.inl ⟨by rfl, ?_⟩) ⟨hbe, hNd⟩ ?_; rotate_left; (· intro w hSw; clear hSw; go_simp; all_goals with_reducible rfl); (try simp only [List.getElem_toArray, List.getElem_cons_succ, List.getElem_cons_zero, Act.put, List.setIfInBounds_toArray, List.set_cons_zero, List.set_cons_succ]))
      (refine wpAnyH_take (i := 1) (v := ?_) rfl (by kernel_rfl) (by kernel_rfl) (by kernel_rfl) (fun _ _ _ h => h) (Or.inl ⟨by rfl, ?_⟩) ⟨hbe, hNd⟩ ?_; rotate_left; (· intro w hSw; clear hSw; go_simp; all_goals with_reducible rfl); (try simp only [List.getElem_toArray, List.getElem_cons_succ, List.getElem_cons_zero, Act.put, List.setIfInBounds_toArray, List.set_cons_zero, List.set_cons_succ]))
      (refine wpAnyH_take (i := 2) (v := ?_) rfl (by kernel_rfl) (by kernel_rfl) (by kernel_rfl) (fun _ _ _ h => h) (Or.inl ⟨by rfl, ?_⟩) ⟨hbe, hNd⟩ ?_; rotate_left; (· intro w hSw; clear hSw; go_simp; all_goals with_reducible rfl); (try simp only [List.getElem_toArray, List.getElem_cons_succ, List.getElem_cons_zero, Act.put, List.setIfInBounds_toArray, List.set_cons_zero, List.set_cons_succ]))
      (refine wpAnyH_take (i := 4) (v := ?_) rfl (by kernel_rfl) (by kernel_rfl) (by kernel_rfl) (fun _ _ _ h => h) (Or.inl ⟨by rfl, ?_⟩) ⟨hbe, hNd⟩ ?_; rotate_left; (· intro w hSw; clear hSw; go_simp; all_goals with_reducible rfl); (try simp only [List.getElem_toArray, List.getElem_cons_succ, List.getElem_cons_zero, Act.put, List.setIfInBounds_toArray, List.set_cons_zero, List.set_cons_succ]))
      (refine wpAnyH_take (i := 5) (v := ?_) rfl (by kernel_rfl) (by kernel_rfl) (by kernel_rfl) (fun _ _ _ h => h) (Or.inl ⟨by rfl, ?_⟩) ⟨hbe, hNd⟩ ?_; rotate_left; (· intro w hSw; (try dsimp only at hSw); obtain ⟨hL0, -⟩ := hSw; have ee5 := hL0.cell 5 _ rfl; clear hL0; go_simp; all_goals with_reducible rfl); (try simp only [List.getElem_toArray, List.getElem_cons_succ, List.getElem_cons_zero, Act.put, List.setIfInBounds_toArray, List.set_cons_zero, List.set_cons_succ]))
      (refine wpAnyH_take (i := 6) (v := ?_) rfl (by kernel_rfl) (by kernel_rfl) (by kernel_rfl) (fun _ _ _ h => h) (Or.inl ⟨by rfl, ?_⟩) ⟨hbe, hNd⟩ ?_; rotate_left; (· intro w hSw; clear hSw; go_simp; all_goals with_reducible rfl); (try simp only [List.getElem_toArray, List.getElem_cons_succ, List.getElem_cons_zero, Act.put, List.setIfInBounds_toArray, List.set_cons_zero, List.set_cons_succ]))
      (refine wpAnyH_take (i := 7) (v := ?_) rfl (by kernel_rfl) (by kernel_rfl) (by kernel_rfl) (fun _ _ _ h => h) (Or.inl ⟨by rfl, ?_⟩) ⟨hbe, hNd⟩ ?_; rotate_left; (· intro w hSw; clear hSw; go_simp; all_goals with_reducible rfl); (try simp only [List.getElem_toArray, List.getElem_cons_succ, List.getElem_cons_zero, Act.put, List.setIfInBounds_toArray, List.set_cons_zero, List.set_cons_succ]))
      (refine wpAnyH_take (i := 8) (v := ?_) rfl (by kernel_rfl) (by kernel_rfl) (by kernel_rfl) (fun _ _ _ h => h) (Or.inl ⟨by rfl, ?_⟩) ⟨hbe, hNd⟩ ?_; rotate_left; (· intro w hSw; clear hSw; go_simp; all_goals with_reducible rfl); (try simp only [List.getElem_toArray, List.getElem_cons_succ, List.getElem_cons_zero, Act.put, List.setIfInBounds_toArray, List.set_cons_zero, List.set_cons_succ]))
      (refine wpAnyH_take (i := 9) (v := ?_) rfl (by kernel_rfl) (by kernel_rfl) (by kernel_rfl) (fun _ _ _ h => h) (Or.inl ⟨by rfl, ?_⟩) ⟨hbe, hNd⟩ ?_; rotate_left; (· intro w hSw; (try dsimp only at hSw); obtain ⟨-, hN0⟩ := hSw; have c0 := hN0.c8.1; clear hN0; go_simp; all_goals with_reducible rfl); (try simp only [List.getElem_toArray, List.getElem_cons_succ, List.getElem_cons_zero, Act.put, List.setIfInBounds_toArray, List.set_cons_zero, List.set_cons_succ]))
      (refine wpAnyH_take (i := 12) (v := ?_) rfl (by kernel_rfl) (by kernel_rfl) (by kernel_rfl) (fun _ _ _ h => h) (Or.inl ⟨by rfl, ?_⟩) ⟨hbe, hNd⟩ ?_; rotate_left; (· intro w hSw; clear hSw; go_simp; all_goals with_reducible rfl); (try simp only [List.getElem_toArray, List.getElem_cons_succ, List.getElem_cons_zero, Act.put, List.setIfInBounds_toArray, List.set_cons_zero, List.set_cons_succ]))
      (refine wpAnyH_take (i := 13) (v := ?_) rfl (by kernel_rfl) (by kernel_rfl) (by kernel_rfl) (fun _ _ _ h => h) (Or.inl ⟨by rfl, ?_⟩) ⟨hbe, hNd⟩ ?_; rotate_left; (· intro w hSw; clear hSw; go_simp; all_goals with_reducible rfl); (try simp only [List.getElem_toArray, List.getElem_cons_succ, List.getElem_cons_zero, Act.put, List.setIfInBounds_toArray, List.set_cons_zero, List.set_cons_succ]))
      (refine wpAnyH_take (i := 14) (v := ?_) rfl (by kernel_rfl) (by kernel_rfl) (by kernel_rfl) (fun _ _ _ h => h) (Or.inl ⟨by rfl, ?_⟩) ⟨hbe, hNd⟩ ?_; rotate_left; (· intro w hSw; clear hSw; go_simp; all_goals with_reducible rfl); (try simp only [List.getElem_toArray, List.getElem_cons_succ, List.getElem_cons_zero, Act.put, List.setIfInBounds_toArray, List.set_cons_zero, List.set_cons_succ]))
      have hs1 : (ivals .i64 (xs.take k)).length = k := by rw [ivals_length, List.length_take]; omega
      have hs2 : (ivals .i64 (xs.drop k)).length = xs.length - k := by rw [ivals_length, List.length_drop]
      have hw0f : w0.heap.size ≤ wf.heap.size := Nat.le_trans hbr.size hb2.size
      clear hO3 hO hI hc3
      refine wpAnyH_ready (rs := [3, 10]) (by kernel_rfl) (by simp) (AllReadyH.cons rfl (fun K hK => ?_) (AllReadyH.cons rfl (fun K hK => ?_) AllReadyH.nil))
      ·skip
       rw [if_pos (by rfl)]
       refine step_appM (ys := ivals .i64 (xs.take k)) E_ints (Owns.nil wf.heap.size 3 wf) rfl rfl rfl (.inl ⟨rfl, by rw [List.take_of_length_le (by omega), List.eq_nil_of_length_eq_zero (show xs.length = 0 by omega)]; rfl⟩) (ivals_oneX _) (by simp [ivals]; omega) (by unfold maxLen; simp [ivals]; omega) (Below.refl wf.heap.size wf).size ?_
       intro vA wA hOA hgA
       rw [List.nil_append] at hOA
       have hBA : Below wf.heap.size wf wA := (Below.refl wf.heap.size wf).grown hgA (Below.refl wf.heap.size wf).size (fun j hj => by cases hj)
       refine hK.out _ _ ⟨hbe.kept (hBA), hNd.below (hBA)⟩ (fun _ => ?_)
       clear hK K
       (try simp only [List.getElem_toArray, List.getElem_cons_succ, List.getElem_cons_zero, Act.put, List.setIfInBounds_toArray, List.set_cons_zero, List.set_cons_succ])
       refine wpAnyH_ready (rs := [10]) (by kernel_rfl) (by simp) (AllReadyH.cons rfl (fun K hK => ?_) AllReadyH.nil)
       obtain ⟨wB, hwB⟩ : ∃ X, X = wA.alloc (.cells #[.int .i64 y.tree] 3) := ⟨_, rfl⟩
       obtain ⟨pT, hpE⟩ : ∃ p, p = wA.heap.size := ⟨_, rfl⟩
       have hcT : wB.cell? ⟨pT, 0, none⟩ = some (.int .i64 y.tree) := by rw [hwB, hpE]; go_simp
       have hpT : pT < wB.heap.size := by rw [hwB, hpE]; simp
       have hB0 : Below wA.heap.size wA wB := by rw [hwB]; exact (Below.refl _ _).alloc (Nat.le_refl _) _
       have hBB : Below wf.heap.size wf wB := hBA.trans (hB0.mono hBA.size)
       replace hOA := Owns.kept hOA hB0
       go_simp
       rw [← hwB, ← hpE]
       clear hwB hpE hB0
       refine hK.out _ _ ⟨hbe.kept (hBB), hNd.below (hBB)⟩ (fun _ => ?_)
       clear hK K
       (try simp only [List.getElem_toArray, List.getElem_cons_succ, List.getElem_cons_zero, Act.put, List.setIfInBounds_toArray, List.set_cons_zero, List.set_cons_succ])
       refine wpAnyH_ready (rs := [11]) (by kernel_rfl) (by simp) (AllReadyH.cons rfl (fun K hK => ?_) AllReadyH.nil)
       rw [if_pos (by rfl)]
       refine step_appM (ys := [.int .i64 y.tree]) E_ints hOA rfl rfl rfl (.inr ⟨_, _, _, rfl, rfl, fun j u hj => by match j, hj with | 0, hj => simp at hj; subst hj; simpa [Addr.add] using hcT⟩) (by simp [Value.oneCell']) (by rw [hs1]; simp; omega) (by rw [hs1]; unfold maxLen; simp; omega) hBB.size ?_
       intro vC wC hOC hgC
       have hBC : Below wf.heap.size wf wC := hBB.grown hgC hBB.size (fun j hj => (OwnsK.lt (K := 1) hOA j hj).1)
       refine hK.out _ _ ⟨hbe.kept (hBC), hNd.below (hBC)⟩ (fun _ => ?_)
       clear hK K
       (try simp only [List.getElem_toArray, List.getElem_cons_succ, List.getElem_cons_zero, Act.put, List.setIfInBounds_toArray, List.set_cons_zero, List.set_cons_succ])
       refine wpAnyH_ready (rs := [15]) (by kernel_rfl) (by simp) (AllReadyH.cons rfl (fun K hK => ?_) AllReadyH.nil)
       rw [if_pos (by rfl)]
       refine step_appM (ys := ivals .i64 (xs.drop k)) E_ints hOC rfl rfl rfl (.inl ⟨rfl, by rw [List.drop_of_length_le (by omega)]; rfl⟩) (ivals_oneX _) (by rw [List.length_append, hs1, hs2]; simp; omega) (by rw [List.length_append, hs1, hs2]; unfold maxLen; simp; omega) hBC.size ?_
       intro vD wD hOD hgD
       have hBD : Below wf.heap.size wf wD := hBC.grown hgD hBC.size (fun j hj => (OwnsK.lt (K := 1) hOC j hj).1)
       refine hK.out _ _ ⟨hbe.kept (hBD), hNd.below (hBD)⟩ (fun _ => ?_)
       clear hK K
       (try simp only [List.getElem_toArray, List.getElem_cons_succ, List.getElem_cons_zero, Act.put, List.setIfInBounds_toArray, List.set_cons_zero, List.set_cons_succ])
       refine wpAnyH_ready (rs := [16]) (by kernel_rfl) (by simp) (AllReadyH.cons rfl (fun K hK => ?_) AllReadyH.nil)
       go_simp
       refine hK.out _ _ ⟨hbe.kept (hBD), hNd.below (hBD)⟩ (fun _ => ?_)
       clear hK K
       (try simp only [List.getElem_toArray, List.getElem_cons_succ, List.getElem_cons_zero, Act.put, List.setIfInBounds_toArray, List.set_cons_zero, List.set_cons_succ])
       refine wpAnyH_done (by kernel_rfl) ?_ _
       go_wp2_with fail
       go_roundg (go1 - 1)
       case measure => omega
       case rel => exact ⟨i + 1, by omega, by go_num, by rw [HT.out, hIN.out]; simpa [ivals] using hOD.mono hw0f, hbr.trans ((hb2.trans (hBD.mono hb2.size)).mono hbr.size)⟩
      ·skip
       obtain ⟨wB, hwB⟩ : ∃ X, X = wf.alloc (.cells #[.int .i64 y.tree] 3) := ⟨_, rfl⟩
       obtain ⟨pT, hpE⟩ : ∃ p, p = wf.heap.size := ⟨_, rfl⟩
       have hcT : wB.cell? ⟨pT, 0, none⟩ = some (.int .i64 y.tree) := by rw [hwB, hpE]; go_simp
       have hpT : pT < wB.heap.size := by rw [hwB, hpE]; simp
       have hB0 : Below wf.heap.size wf wB := by rw [hwB]; exact (Below.refl _ _).alloc (Nat.le_refl _) _
       have hBB : Below wf.heap.size wf wB := (Below.refl wf.heap.size wf).trans (hB0.mono (Below.refl wf.heap.size wf).size)
       go_simp
       rw [← hwB, ← hpE]
       clear hwB hpE hB0
       refine hK.out _ _ ⟨hbe.kept (hBB), hNd.below (hBB)⟩ (fun _ => ?_)
       clear hK K
       (try simp only [List.getElem_toArray, List.getElem_cons_succ, List.getElem_cons_zero, Act.put, List.setIfInBounds_toArray, List.set_cons_zero, List.set_cons_succ])
       refine wpAnyH_ready (rs := [3]) (by kernel_rfl) (by simp) (AllReadyH.cons rfl (fun K hK => ?_) AllReadyH.nil)
       rw [if_pos (by rfl)]
       refine step_appM (ys := ivals .i64 (xs.take k)) E_ints (Owns.nil wf.heap.size 3 wB) rfl rfl rfl (.inl ⟨rfl, by rw [List.take_of_length_le (by omega), List.eq_nil_of_length_eq_zero (show xs.length = 0 by omega)]; rfl⟩) (ivals_oneX _) (by simp [ivals]; omega) (by unfold maxLen; simp [ivals]; omega) hBB.size ?_
       intro vA wA hOA hgA
       rw [List.nil_append] at hOA
       have hBA : Below wf.heap.size wf wA := hBB.grown hgA hBB.size (fun j hj => by cases hj)
       replace hcT : wA.cell? ⟨pT, 0, none⟩ = some (.int .i64 y.tree) := (World.cell?_of_block (w := wB) (a := ⟨pT, 0, none⟩) (hgA.block pT hpT (by simp [Value.ownBlock]))).trans hcT
       refine hK.out _ _ ⟨hbe.kept (hBA), hNd.below (hBA)⟩ (fun _ => ?_)
       clear hK K
       (try simp only [List.getElem_toArray, List.getElem_cons_succ, List.getElem_cons_zero, Act.put, List.setIfInBounds_toArray, List.set_cons_zero, List.set_cons_succ])
       refine wpAnyH_ready (rs := [11]) (by kernel_rfl) (by simp) (AllReadyH.cons rfl (fun K hK => ?_) AllReadyH.nil)
       rw [if_pos (by rfl)]
       refine step_appM (ys := [.int .i64 y.tree]) E_ints hOA rfl rfl rfl (.inr ⟨_, _, _, rfl, rfl, fun j u hj => by match j, hj with | 0, hj => simp at hj; subst hj; simpa [Addr.add] using hcT⟩) (by simp [Value.oneCell']) (by rw [hs1]; simp; omega) (by rw [hs1]; unfold maxLen; simp; omega) hBA.size ?_
       intro vC wC hOC hgC
       have hBC : Below wf.heap.size wf wC := hBA.grown hgC hBA.size (fun j hj => (OwnsK.lt (K := 1) hOA j hj).1)
       refine hK.out _ _ ⟨hbe.kept (hBC), hNd.below (hBC)⟩ (fun _ => ?_)
       clear hK K
       (try simp only [List.getElem_toArray, List.getElem_cons_succ, List.getElem_cons_zero, Act.put, List.setIfInBounds_toArray, List.set_cons_zero, List.set_cons_succ])
       refine wpAnyH_ready (rs := [15]) (by kernel_rfl) (by simp) (AllReadyH.cons rfl (fun K hK => ?_) AllReadyH.nil)
       rw [if_pos (by rfl)]
       refine step_appM (ys := ivals .i64 (xs.drop k)) E_ints hOC rfl rfl rfl (.inl ⟨rfl, by rw [List.drop_of_length_le (by omega)]; rfl⟩) (ivals_oneX _) (by rw [List.length_append, hs1, hs2]; simp; omega) (by rw [List.length_append, hs1, hs2]; unfold maxLen; simp; omega) hBC.size ?_
       intro vD wD hOD hgD
       have hBD : Below wf.heap.size wf wD := hBC.grown hgD hBC.size (fun j hj => (OwnsK.lt (K := 1) hOC j hj).1)
       refine hK.out _ _ ⟨hbe.kept (hBD), hNd.below (hBD)⟩ (fun _ => ?_)
       clear hK K
       (try simp only [List.getElem_toArray, List.getElem_cons_succ, List.getElem_cons_zero, Act.put, List.setIfInBounds_toArray, List.set_cons_zero, List.set_cons_succ])
       refine wpAnyH_ready (rs := [16]) (by kernel_rfl) (by simp) (AllReadyH.cons rfl (fun K hK => ?_) AllReadyH.nil)
       go_simp
       refine hK.out _ _ ⟨hbe.kept (hBD), hNd.below (hBD)⟩ (fun _ => ?_)
       clear hK K
       (try simp only [List.getElem_toArray, List.getElem_cons_succ, List.getElem_cons_zero, Act.put, List.setIfInBounds_toArray, List.set_cons_zero, List.set_cons_succ])
       refine wpAnyH_done (by kernel_rfl) ?_ _
       go_wp2_with fail
       go_roundg (go1 - 1)
       case measure => omega
       case rel => exact ⟨i + 1, by omega, by go_num, by rw [HT.out, hIN.out]; simpa [ivals] using hOD.mono hw0f, hbr.trans ((hb2.trans (hBD.mono hb2.size)).mono hbr.size)⟩
     | some ad =>
      have hAd : ∃ xb, ad = ⟨xb, 0, none⟩ := by
       rcases OwnsK.shape (K := 1) hO with ⟨h0, _⟩ | ⟨g, cap9, h0, _⟩
       ·cases h0
       ·injection h0 with h0 _; exact ⟨g, Option.some.inj h0⟩
      obtain ⟨xb, rfl⟩ := hAd
      have hkc : k ≤ cap := by omega
      have hkm : k ≤ xs.length := by omega
      clear hkz hke
      rcases Decidable.em (cap = k) with hck | hck
      ·skip
       have hO3 : Owns w0.heap.size 3 wd _ (ivals .i64 xs) := OwnsK.block hO (fun g hg => hb2.block g (OwnsK.lt hO g hg).2)
       refine wp_region_held_drew (S := fun w' => BoxL w' pe [.int .i64 e.feats, .int .i64 e.tgts, .string ⟨e.agg.toArray⟩, .string ⟨e.post.toArray⟩, .slice bo e.base.length bc, .slice (some ⟨nb, noff, none⟩) e.nodes.length nc, .slice lo e.leaves.length lc] ∧ NdAt w' nb noff i y) (by kernel_rfl) ⟨hbe.drew, hNd.drew⟩ (fun _ => ?_)
       have hb : Below wd.heap.size wd wd.drew := (Below.refl _ _).drew
       generalize wd.drew = wf at hb ⊢
       replace hbe := hbe.kept hb
       replace hE := hE.below hb
       replace hNd := hNd.below hb
       replace hb2 := hb2.trans (hb.mono hb2.size)
       replace hO3 := Owns.kept hO3 hb
       clear hb
       (refine wpAnyH_take (i := 0) (v := ?_) rfl (by kernel_rfl) (by kernel_rfl) (by kernel_rfl) (fun _ _ _ h => h) (Or.inl ⟨by rfl, ?_⟩) ⟨hbe, hNd⟩ ?_; rotate_left; (· intro w hSw; clear hSw; go_simp; all_goals with_reducible rfl); (try simp only [List.getElem_toArray, List.getElem_cons_succ, List.getElem_cons_zero, Act.put, List.setIfInBounds_toArray, List.set_cons_zero, List.set_cons_succ]))
       (refine wpAnyH_take (i := 1) (v := ?_) rfl (by kernel_rfl) (by kernel_rfl) (by kernel_rfl) (fun _ _ _ h => h) (Or.inl ⟨by rfl, ?_⟩) ⟨hbe, hNd⟩ ?_; rotate_left; (· intro w hSw; clear hSw; go_simp; all_goals with_reducible rfl); (try simp only [List.getElem_toArray, List.getElem_cons_succ, List.getElem_cons_zero, Act.put, List.setIfInBounds_toArray, List.set_cons_zero, List.set_cons_succ]))
       (refine wpAnyH_take (i := 2) (v := ?_) rfl (by kernel_rfl) (by kernel_rfl) (by kernel_rfl) (fun _ _ _ h => h) (Or.inl ⟨by rfl, ?_⟩) ⟨hbe, hNd⟩ ?_; rotate_left; (· intro w hSw; clear hSw; go_simp; all_goals with_reducible rfl); (try simp only [List.getElem_toArray, List.getElem_cons_succ, List.getElem_cons_zero, Act.put, List.setIfInBounds_toArray, List.set_cons_zero, List.set_cons_succ]))
       (refine wpAnyH_take (i := 4) (v := ?_) rfl (by kernel_rfl) (by kernel_rfl) (by kernel_rfl) (fun _ _ _ h => h) (Or.inl ⟨by rfl, ?_⟩) ⟨hbe, hNd⟩ ?_; rotate_left; (· intro w hSw; clear hSw; go_simp; all_goals with_reducible rfl); (try simp only [List.getElem_toArray, List.getElem_cons_succ, List.getElem_cons_zero, Act.put, List.setIfInBounds_toArray, List.set_cons_zero, List.set_cons_succ]))
       (refine wpAnyH_take (i := 5) (v := ?_) rfl (by kernel_rfl) (by kernel_rfl) (by kernel_rfl) (fun _ _ _ h => h) (Or.inl ⟨by rfl, ?_⟩) ⟨hbe, hNd⟩ ?_; rotate_left; (· intro w hSw; (try dsimp only at hSw); obtain ⟨hL0, -⟩ := hSw; have ee5 := hL0.cell 5 _ rfl; clear hL0; go_simp; all_goals with_reducible rfl); (try simp only [List.getElem_toArray, List.getElem_cons_succ, List.getElem_cons_zero, Act.put, List.setIfInBounds_toArray, List.set_cons_zero, List.set_cons_succ]))
       (refine wpAnyH_take (i := 6) (v := ?_) rfl (by kernel_rfl) (by kernel_rfl) (by kernel_rfl) (fun _ _ _ h => h) (Or.inl ⟨by rfl, ?_⟩) ⟨hbe, hNd⟩ ?_; rotate_left; (· intro w hSw; clear hSw; go_simp; all_goals with_reducible rfl); (try simp only [List.getElem_toArray, List.getElem_cons_succ, List.getElem_cons_zero, Act.put, List.setIfInBounds_toArray, List.set_cons_zero, List.set_cons_succ]))
       (refine wpAnyH_take (i := 7) (v := ?_) rfl (by kernel_rfl) (by kernel_rfl) (by kernel_rfl) (fun _ _ _ h => h) (Or.inl ⟨by rfl, ?_⟩) ⟨hbe, hNd⟩ ?_; rotate_left; (· intro w hSw; clear hSw; go_simp; all_goals with_reducible rfl); (try simp only [List.getElem_toArray, List.getElem_cons_succ, List.getElem_cons_zero, Act.put, List.setIfInBounds_toArray, List.set_cons_zero, List.set_cons_succ]))
       (refine wpAnyH_take (i := 8) (v := ?_) rfl (by kernel_rfl) (by kernel_rfl) (by kernel_rfl) (fun _ _ _ h => h) (Or.inl ⟨by rfl, ?_⟩) ⟨hbe, hNd⟩ ?_; rotate_left; (· intro w hSw; clear hSw; go_simp; all_goals with_reducible rfl); (try simp only [List.getElem_toArray, List.getElem_cons_succ, List.getElem_cons_zero, Act.put, List.setIfInBounds_toArray, List.set_cons_zero, List.set_cons_succ]))
       (refine wpAnyH_take (i := 9) (v := ?_) rfl (by kernel_rfl) (by kernel_rfl) (by kernel_rfl) (fun _ _ _ h => h) (Or.inl ⟨by rfl, ?_⟩) ⟨hbe, hNd⟩ ?_; rotate_left; (· intro w hSw; (try dsimp only at hSw); obtain ⟨-, hN0⟩ := hSw; have c0 := hN0.c8.1; clear hN0; go_simp; all_goals with_reducible rfl); (try simp only [List.getElem_toArray, List.getElem_cons_succ, List.getElem_cons_zero, Act.put, List.setIfInBounds_toArray, List.set_cons_zero, List.set_cons_succ]))
       (refine wpAnyH_take (i := 12) (v := ?_) rfl (by kernel_rfl) (by kernel_rfl) (by kernel_rfl) (fun _ _ _ h => h) (Or.inl ⟨by rfl, ?_⟩) ⟨hbe, hNd⟩ ?_; rotate_left; (· intro w hSw; clear hSw; go_simp; all_goals with_reducible rfl); (try simp only [List.getElem_toArray, List.getElem_cons_succ, List.getElem_cons_zero, Act.put, List.setIfInBounds_toArray, List.set_cons_zero, List.set_cons_succ]))
       (refine wpAnyH_take (i := 13) (v := ?_) rfl (by kernel_rfl) (by kernel_rfl) (by kernel_rfl) (fun _ _ _ h => h) (Or.inl ⟨by rfl, ?_⟩) ⟨hbe, hNd⟩ ?_; rotate_left; (· intro w hSw; clear hSw; go_simp; all_goals with_reducible rfl); (try simp only [List.getElem_toArray, List.getElem_cons_succ, List.getElem_cons_zero, Act.put, List.setIfInBounds_toArray, List.set_cons_zero, List.set_cons_succ]))
       (refine wpAnyH_take (i := 14) (v := ?_) rfl (by kernel_rfl) (by kernel_rfl) (by kernel_rfl) (fun _ _ _ h => h) (Or.inl ⟨by rfl, ?_⟩) ⟨hbe, hNd⟩ ?_; rotate_left; (· intro w hSw; clear hSw; go_simp; all_goals with_reducible rfl); (try simp only [List.getElem_toArray, List.getElem_cons_succ, List.getElem_cons_zero, Act.put, List.setIfInBounds_toArray, List.set_cons_zero, List.set_cons_succ]))
       have hXC : xb < wf.heap.size ∧ ∀ (j : Nat) (u : Value), (ivals .i64 xs)[j]? = some u → wf.cell? ⟨xb, j, none⟩ = some u := by
        rcases hO3.shape with ⟨h0, _⟩ | ⟨g, cap9, h0, _, k2, _, _, k5, _⟩
        ·cases h0
        ·injection h0 with h0 _; injection h0 with h0; injection h0 with h0; subst h0; exact ⟨k2, fun j u hj => (k5 j (List.getElem?_eq_some_iff.1 hj).1).trans hj⟩
       obtain ⟨hXl, hXC⟩ := hXC
       have hs1 : (ivals .i64 (xs.take k)).length = k := by rw [ivals_length, List.length_take]; omega
       have hs2 : (ivals .i64 (xs.drop k)).length = xs.length - k := by rw [ivals_length, List.length_drop]
       have hw0f : w0.heap.size ≤ wf.heap.size := Nat.le_trans hbr.size hb2.size
       clear hO3 hO hI hc3
       refine wpAnyH_ready (rs := [3, 10]) (by kernel_rfl) (by simp) (AllReadyH.cons rfl (fun K hK => ?_) (AllReadyH.cons rfl (fun K hK => ?_) AllReadyH.nil))
       ·skip
        rw [if_pos (by rfl)]
        refine step_appM (ys := ivals .i64 (xs.take k)) E_ints (Owns.nil wf.heap.size 3 wf) rfl rfl rfl (.inr ⟨_, _, _, rfl, hs1.symm, fun j u hj => by rw [show (⟨xb, 0, none⟩ : Addr).add j = ⟨xb, j, none⟩ by rw [Addr.add_lit, Nat.zero_add]]; exact ((Below.refl wf.heap.size wf).cell (p := ⟨xb, j, none⟩) hXl).trans (hXC j u (by have hx := hj; unfold ivals at hx ⊢; rw [List.map_take] at hx; have h9 := (List.getElem?_eq_some_iff.1 hx).1; rw [List.getElem?_take_of_lt (by simp at h9; omega)] at hx; exact hx))⟩) (ivals_oneX _) (by simp [ivals]; omega) (by unfold maxLen; simp [ivals]; omega) (Below.refl wf.heap.size wf).size ?_
        intro vA wA hOA hgA
        rw [List.nil_append] at hOA
        have hBA : Below wf.heap.size wf wA := (Below.refl wf.heap.size wf).grown hgA (Below.refl wf.heap.size wf).size (fun j hj => by cases hj)
        refine hK.out _ _ ⟨hbe.kept (hBA), hNd.below (hBA)⟩ (fun _ => ?_)
        clear hK K
        (try simp only [List.getElem_toArray, List.getElem_cons_succ, List.getElem_cons_zero, Act.put, List.setIfInBounds_toArray, List.set_cons_zero, List.set_cons_succ])
        refine wpAnyH_ready (rs := [10]) (by kernel_rfl) (by simp) (AllReadyH.cons rfl (fun K hK => ?_) AllReadyH.nil)
        obtain ⟨wB, hwB⟩ : ∃ X, X = wA.alloc (.cells #[.int .i64 y.tree] 3) := ⟨_, rfl⟩
        obtain ⟨pT, hpE⟩ : ∃ p, p = wA.heap.size := ⟨_, rfl⟩
        have hcT : wB.cell? ⟨pT, 0, none⟩ = some (.int .i64 y.tree) := by rw [hwB, hpE]; go_simp
        have hpT : pT < wB.heap.size := by rw [hwB, hpE]; simp
        have hB0 : Below wA.heap.size wA wB := by rw [hwB]; exact (Below.refl _ _).alloc (Nat.le_refl _) _
        have hBB : Below wf.heap.size wf wB := hBA.trans (hB0.mono hBA.size)
        replace hOA := Owns.kept hOA hB0
        go_simp
        rw [← hwB, ← hpE]
        clear hwB hpE hB0
        refine hK.out _ _ ⟨hbe.kept (hBB), hNd.below (hBB)⟩ (fun _ => ?_)
        clear hK K
        (try simp only [List.getElem_toArray, List.getElem_cons_succ, List.getElem_cons_zero, Act.put, List.setIfInBounds_toArray, List.set_cons_zero, List.set_cons_succ])
        refine wpAnyH_ready (rs := [11]) (by kernel_rfl) (by simp) (AllReadyH.cons rfl (fun K hK => ?_) AllReadyH.nil)
        rw [if_pos (by rfl)]
        refine step_appM (ys := [.int .i64 y.tree]) E_ints hOA rfl rfl rfl (.inr ⟨_, _, _, rfl, rfl, fun j u hj => by match j, hj with | 0, hj => simp at hj; subst hj; simpa [Addr.add] using hcT⟩) (by simp [Value.oneCell']) (by rw [hs1]; simp; omega) (by rw [hs1]; unfold maxLen; simp; omega) hBB.size ?_
        intro vC wC hOC hgC
        have hBC : Below wf.heap.size wf wC := hBB.grown hgC hBB.size (fun j hj => (OwnsK.lt (K := 1) hOA j hj).1)
        refine hK.out _ _ ⟨hbe.kept (hBC), hNd.below (hBC)⟩ (fun _ => ?_)
        clear hK K
        (try simp only [List.getElem_toArray, List.getElem_cons_succ, List.getElem_cons_zero, Act.put, List.setIfInBounds_toArray, List.set_cons_zero, List.set_cons_succ])
        refine wpAnyH_ready (rs := [15]) (by kernel_rfl) (by simp) (AllReadyH.cons rfl (fun K hK => ?_) AllReadyH.nil)
        rw [if_pos (by rfl)]
        refine step_appM (ys := ivals .i64 (xs.drop k)) E_ints hOC rfl rfl rfl (.inr ⟨_, _, _, rfl, hs2.symm, fun j u hj => by rw [List.drop_of_length_le (by omega)] at hj; simp [ivals] at hj⟩) (ivals_oneX _) (by rw [List.length_append, hs1, hs2]; simp; omega) (by rw [List.length_append, hs1, hs2]; unfold maxLen; simp; omega) hBC.size ?_
        intro vD wD hOD hgD
        have hBD : Below wf.heap.size wf wD := hBC.grown hgD hBC.size (fun j hj => (OwnsK.lt (K := 1) hOC j hj).1)
        refine hK.out _ _ ⟨hbe.kept (hBD), hNd.below (hBD)⟩ (fun _ => ?_)
        clear hK K
        (try simp only [List.getElem_toArray, List.getElem_cons_succ, List.getElem_cons_zero, Act.put, List.setIfInBounds_toArray, List.set_cons_zero, List.set_cons_succ])
        refine wpAnyH_ready (rs := [16]) (by kernel_rfl) (by simp) (AllReadyH.cons rfl (fun K hK => ?_) AllReadyH.nil)
        go_simp
        refine hK.out _ _ ⟨hbe.kept (hBD), hNd.below (hBD)⟩ (fun _ => ?_)
        clear hK K
        (try simp only [List.getElem_toArray, List.getElem_cons_succ, List.getElem_cons_zero, Act.put, List.setIfInBounds_toArray, List.set_cons_zero, List.set_cons_succ])
        refine wpAnyH_done (by kernel_rfl) ?_ _
        go_wp2_with fail
        go_roundg (go1 - 1)
        case measure => omega
        case rel => exact ⟨i + 1, by omega, by go_num, by rw [HT.out, hIN.out]; simpa [ivals] using hOD.mono hw0f, hbr.trans ((hb2.trans (hBD.mono hb2.size)).mono hbr.size)⟩
       ·skip
        obtain ⟨wB, hwB⟩ : ∃ X, X = wf.alloc (.cells #[.int .i64 y.tree] 3) := ⟨_, rfl⟩
        obtain ⟨pT, hpE⟩ : ∃ p, p = wf.heap.size := ⟨_, rfl⟩
        have hcT : wB.cell? ⟨pT, 0, none⟩ = some (.int .i64 y.tree) := by rw [hwB, hpE]; go_simp
        have hpT : pT < wB.heap.size := by rw [hwB, hpE]; simp
        have hB0 : Below wf.heap.size wf wB := by rw [hwB]; exact (Below.refl _ _).alloc (Nat.le_refl _) _
        have hBB : Below wf.heap.size wf wB := (Below.refl wf.heap.size wf).trans (hB0.mono (Below.refl wf.heap.size wf).size)
        go_simp
        rw [← hwB, ← hpE]
        clear hwB hpE hB0
        refine hK.out _ _ ⟨hbe.kept (hBB), hNd.below (hBB)⟩ (fun _ => ?_)
        clear hK K
        (try simp only [List.getElem_toArray, List.getElem_cons_succ, List.getElem_cons_zero, Act.put, List.setIfInBounds_toArray, List.set_cons_zero, List.set_cons_succ])
        refine wpAnyH_ready (rs := [3]) (by kernel_rfl) (by simp) (AllReadyH.cons rfl (fun K hK => ?_) AllReadyH.nil)
        rw [if_pos (by rfl)]
        refine step_appM (ys := ivals .i64 (xs.take k)) E_ints (Owns.nil wf.heap.size 3 wB) rfl rfl rfl (.inr ⟨_, _, _, rfl, hs1.symm, fun j u hj => by rw [show (⟨xb, 0, none⟩ : Addr).add j = ⟨xb, j, none⟩ by rw [Addr.add_lit, Nat.zero_add]]; exact (hBB.cell (p := ⟨xb, j, none⟩) hXl).trans (hXC j u (by have hx := hj; unfold ivals at hx ⊢; rw [List.map_take] at hx; have h9 := (List.getElem?_eq_some_iff.1 hx).1; rw [List.getElem?_take_of_lt (by simp at h9; omega)] at hx; exact hx))⟩) (ivals_oneX _) (by simp [ivals]; omega) (by unfold maxLen; simp [ivals]; omega) hBB.size ?_
        intro vA wA hOA hgA
        rw [List.nil_append] at hOA
        have hBA : Below wf.heap.size wf wA := hBB.grown hgA hBB.size (fun j hj => by cases hj)
        replace hcT : wA.cell? ⟨pT, 0, none⟩ = some (.int .i64 y.tree) := (World.cell?_of_block (w := wB) (a := ⟨pT, 0, none⟩) (hgA.block pT hpT (by simp [Value.ownBlock]))).trans hcT
        refine hK.out _ _ ⟨hbe.kept (hBA), hNd.below (hBA)⟩ (fun _ => ?_)
        clear hK K
        (try simp only [List.getElem_toArray, List.getElem_cons_succ, List.getElem_cons_zero, Act.put, List.setIfInBounds_toArray, List.set_cons_zero, List.set_cons_succ])
        refine wpAnyH_ready (rs := [11]) (by kernel_rfl) (by simp) (AllReadyH.cons rfl (fun K hK => ?_) AllReadyH.nil)
        rw [if_pos (by rfl)]
        refine step_appM (ys := [.int .i64 y.tree]) E_ints hOA rfl rfl rfl (.inr ⟨_, _, _, rfl, rfl, fun j u hj => by match j, hj with | 0, hj => simp at hj; subst hj; simpa [Addr.add] using hcT⟩) (by simp [Value.oneCell']) (by rw [hs1]; simp; omega) (by rw [hs1]; unfold maxLen; simp; omega) hBA.size ?_
        intro vC wC hOC hgC
        have hBC : Below wf.heap.size wf wC := hBA.grown hgC hBA.size (fun j hj => (OwnsK.lt (K := 1) hOA j hj).1)
        refine hK.out _ _ ⟨hbe.kept (hBC), hNd.below (hBC)⟩ (fun _ => ?_)
        clear hK K
        (try simp only [List.getElem_toArray, List.getElem_cons_succ, List.getElem_cons_zero, Act.put, List.setIfInBounds_toArray, List.set_cons_zero, List.set_cons_succ])
        refine wpAnyH_ready (rs := [15]) (by kernel_rfl) (by simp) (AllReadyH.cons rfl (fun K hK => ?_) AllReadyH.nil)
        rw [if_pos (by rfl)]
        refine step_appM (ys := ivals .i64 (xs.drop k)) E_ints hOC rfl rfl rfl (.inr ⟨_, _, _, rfl, hs2.symm, fun j u hj => by rw [List.drop_of_length_le (by omega)] at hj; simp [ivals] at hj⟩) (ivals_oneX _) (by rw [List.length_append, hs1, hs2]; simp; omega) (by rw [List.length_append, hs1, hs2]; unfold maxLen; simp; omega) hBC.size ?_
        intro vD wD hOD hgD
        have hBD : Below wf.heap.size wf wD := hBC.grown hgD hBC.size (fun j hj => (OwnsK.lt (K := 1) hOC j hj).1)
        refine hK.out _ _ ⟨hbe.kept (hBD), hNd.below (hBD)⟩ (fun _ => ?_)
        clear hK K
        (try simp only [List.getElem_toArray, List.getElem_cons_succ, List.getElem_cons_zero, Act.put, List.setIfInBounds_toArray, List.set_cons_zero, List.set_cons_succ])
        refine wpAnyH_ready (rs := [16]) (by kernel_rfl) (by simp) (AllReadyH.cons rfl (fun K hK => ?_) AllReadyH.nil)
        go_simp
        refine hK.out _ _ ⟨hbe.kept (hBD), hNd.below (hBD)⟩ (fun _ => ?_)
        clear hK K
        (try simp only [List.getElem_toArray, List.getElem_cons_succ, List.getElem_cons_zero, Act.put, List.setIfInBounds_toArray, List.set_cons_zero, List.set_cons_succ])
        refine wpAnyH_done (by kernel_rfl) ?_ _
        go_wp2_with fail
        go_roundg (go1 - 1)
        case measure => omega
        case rel => exact ⟨i + 1, by omega, by go_num, by rw [HT.out, hIN.out]; simpa [ivals] using hOD.mono hw0f, hbr.trans ((hb2.trans (hBD.mono hb2.size)).mono hbr.size)⟩
      ·skip
       have hO3 : Owns w0.heap.size 3 wd _ (ivals .i64 xs) := OwnsK.block hO (fun g hg => hb2.block g (OwnsK.lt hO g hg).2)
       refine wp_region_held_drew (S := fun w' => BoxL w' pe [.int .i64 e.feats, .int .i64 e.tgts, .string ⟨e.agg.toArray⟩, .string ⟨e.post.toArray⟩, .slice bo e.base.length bc, .slice (some ⟨nb, noff, none⟩) e.nodes.length nc, .slice lo e.leaves.length lc] ∧ NdAt w' nb noff i y) (by kernel_rfl) ⟨hbe.drew, hNd.drew⟩ (fun _ => ?_)
       have hb : Below wd.heap.size wd wd.drew := (Below.refl _ _).drew
       generalize wd.drew = wf at hb ⊢
       replace hbe := hbe.kept hb
       replace hE := hE.below hb
       replace hNd := hNd.below hb
       replace hb2 := hb2.trans (hb.mono hb2.size)
       replace hO3 := Owns.kept hO3 hb
       clear hb
       (refine wpAnyH_take (i := 0) (v := ?_) rfl (by kernel_rfl) (by kernel_rfl) (by kernel_rfl) (fun _ _ _ h => h) (Or.inl ⟨by rfl, ?_⟩) ⟨hbe, hNd⟩ ?_; rotate_left; (· intro w hSw; clear hSw; go_simp; all_goals with_reducible rfl); (try simp only [List.getElem_toArray, List.getElem_cons_succ, List.getElem_cons_zero, Act.put, List.setIfInBounds_toArray, List.set_cons_zero, List.set_cons_succ]))
       (refine wpAnyH_take (i := 1) (v := ?_) rfl (by kernel_rfl) (by kernel_rfl) (by kernel_rfl) (fun _ _ _ h => h) (Or.inl ⟨by rfl, ?_⟩) ⟨hbe, hNd⟩ ?_; rotate_left; (· intro w hSw; clear hSw; go_simp; all_goals with_reducible rfl); (try simp only [List.getElem_toArray, List.getElem_cons_succ, List.getElem_cons_zero, Act.put, List.setIfInBounds_toArray, List.set_cons_zero, List.set_cons_succ]))
       (refine wpAnyH_take (i := 2) (v := ?_) rfl (by kernel_rfl) (by kernel_rfl) (by kernel_rfl) (fun _ _ _ h => h) (Or.inl ⟨by rfl, ?_⟩) ⟨hbe, hNd⟩ ?_; rotate_left; (· intro w hSw; clear hSw; go_simp; all_goals with_reducible rfl); (try simp only [List.getElem_toArray, List.getElem_cons_succ, List.getElem_cons_zero, Act.put, List.setIfInBounds_toArray, List.set_cons_zero, List.set_cons_succ]))
       (refine wpAnyH_take (i := 4) (v := ?_) rfl (by kernel_rfl) (by kernel_rfl) (by kernel_rfl) (fun _ _ _ h => h) (Or.inl ⟨by rfl, ?_⟩) ⟨hbe, hNd⟩ ?_; rotate_left; (· intro w hSw; clear hSw; go_simp; all_goals with_reducible rfl); (try simp only [List.getElem_toArray, List.getElem_cons_succ, List.getElem_cons_zero, Act.put, List.setIfInBounds_toArray, List.set_cons_zero, List.set_cons_succ]))
       (refine wpAnyH_take (i := 5) (v := ?_) rfl (by kernel_rfl) (by kernel_rfl) (by kernel_rfl) (fun _ _ _ h => h) (Or.inl ⟨by rfl, ?_⟩) ⟨hbe, hNd⟩ ?_; rotate_left; (· intro w hSw; (try dsimp only at hSw); obtain ⟨hL0, -⟩ := hSw; have ee5 := hL0.cell 5 _ rfl; clear hL0; go_simp; all_goals with_reducible rfl); (try simp only [List.getElem_toArray, List.getElem_cons_succ, List.getElem_cons_zero, Act.put, List.setIfInBounds_toArray, List.set_cons_zero, List.set_cons_succ]))
       (refine wpAnyH_take (i := 6) (v := ?_) rfl (by kernel_rfl) (by kernel_rfl) (by kernel_rfl) (fun _ _ _ h => h) (Or.inl ⟨by rfl, ?_⟩) ⟨hbe, hNd⟩ ?_; rotate_left; (· intro w hSw; clear hSw; go_simp; all_goals with_reducible rfl); (try simp only [List.getElem_toArray, List.getElem_cons_succ, List.getElem_cons_zero, Act.put, List.setIfInBounds_toArray, List.set_cons_zero, List.set_cons_succ]))
       (refine wpAnyH_take (i := 7) (v := ?_) rfl (by kernel_rfl) (by kernel_rfl) (by kernel_rfl) (fun _ _ _ h => h) (Or.inl ⟨by rfl, ?_⟩) ⟨hbe, hNd⟩ ?_; rotate_left; (· intro w hSw; clear hSw; go_simp; all_goals with_reducible rfl); (try simp only [List.getElem_toArray, List.getElem_cons_succ, List.getElem_cons_zero, Act.put, List.setIfInBounds_toArray, List.set_cons_zero, List.set_cons_succ]))
       (refine wpAnyH_take (i := 8) (v := ?_) rfl (by kernel_rfl) (by kernel_rfl) (by kernel_rfl) (fun _ _ _ h => h) (Or.inl ⟨by rfl, ?_⟩) ⟨hbe, hNd⟩ ?_; rotate_left; (· intro w hSw; clear hSw; go_simp; all_goals with_reducible rfl); (try simp only [List.getElem_toArray, List.getElem_cons_succ, List.getElem_cons_zero, Act.put, List.setIfInBounds_toArray, List.set_cons_zero, List.set_cons_succ]))
       (refine wpAnyH_take (i := 9) (v := ?_) rfl (by kernel_rfl) (by kernel_rfl) (by kernel_rfl) (fun _ _ _ h => h) (Or.inl ⟨by rfl, ?_⟩) ⟨hbe, hNd⟩ ?_; rotate_left; (· intro w hSw; (try dsimp only at hSw); obtain ⟨-, hN0⟩ := hSw; have c0 := hN0.c8.1; clear hN0; go_simp; all_goals with_reducible rfl); (try simp only [List.getElem_toArray, List.getElem_cons_succ, List.getElem_cons_zero, Act.put, List.setIfInBounds_toArray, List.set_cons_zero, List.set_cons_succ]))
       (refine wpAnyH_take (i := 12) (v := ?_) rfl (by kernel_rfl) (by kernel_rfl) (by kernel_rfl) (fun _ _ _ h => h) (Or.inl ⟨by rfl, ?_⟩) ⟨hbe, hNd⟩ ?_; rotate_left; (· intro w hSw; clear hSw; go_simp; all_goals with_reducible rfl); (try simp only [List.getElem_toArray, List.getElem_cons_succ, List.getElem_cons_zero, Act.put, List.setIfInBounds_toArray, List.set_cons_zero, List.set_cons_succ]))
       (refine wpAnyH_take (i := 13) (v := ?_) rfl (by kernel_rfl) (by kernel_rfl) (by kernel_rfl) (fun _ _ _ h => h) (Or.inl ⟨by rfl, ?_⟩) ⟨hbe, hNd⟩ ?_; rotate_left; (· intro w hSw; clear hSw; go_simp; all_goals with_reducible rfl); (try simp only [List.getElem_toArray, List.getElem_cons_succ, List.getElem_cons_zero, Act.put, List.setIfInBounds_toArray, List.set_cons_zero, List.set_cons_succ]))
       (refine wpAnyH_take (i := 14) (v := ?_) rfl (by kernel_rfl) (by kernel_rfl) (by kernel_rfl) (fun _ _ _ h => h) (Or.inl ⟨by rfl, ?_⟩) ⟨hbe, hNd⟩ ?_; rotate_left; (· intro w hSw; clear hSw; go_simp; all_goals with_reducible rfl); (try simp only [List.getElem_toArray, List.getElem_cons_succ, List.getElem_cons_zero, Act.put, List.setIfInBounds_toArray, List.set_cons_zero, List.set_cons_succ]))
       have hXC : xb < wf.heap.size ∧ ∀ (j : Nat) (u : Value), (ivals .i64 xs)[j]? = some u → wf.cell? ⟨xb, j, none⟩ = some u := by
        rcases hO3.shape with ⟨h0, _⟩ | ⟨g, cap9, h0, _, k2, _, _, k5, _⟩
        ·cases h0
        ·injection h0 with h0 _; injection h0 with h0; injection h0 with h0; subst h0; exact ⟨k2, fun j u hj => (k5 j (List.getElem?_eq_some_iff.1 hj).1).trans hj⟩
       obtain ⟨hXl, hXC⟩ := hXC
       have hs1 : (ivals .i64 (xs.take k)).length = k := by rw [ivals_length, List.length_take]; omega
       have hs2 : (ivals .i64 (xs.drop k)).length = xs.length - k := by rw [ivals_length, List.length_drop]
       have hw0f : w0.heap.size ≤ wf.heap.size := Nat.le_trans hbr.size hb2.size
       clear hO3 hO hI hc3
       refine wpAnyH_ready (rs := [3, 10]) (by kernel_rfl) (by simp) (AllReadyH.cons rfl (fun K hK => ?_) (AllReadyH.cons rfl (fun K hK => ?_) AllReadyH.nil))
       ·skip
        rw [if_pos (by rfl)]
        refine step_appM (ys := ivals .i64 (xs.take k)) E_ints (Owns.nil wf.heap.size 3 wf) rfl rfl rfl (.inr ⟨_, _, _, rfl, hs1.symm, fun j u hj => by rw [show (⟨xb, 0, none⟩ : Addr).add j = ⟨xb, j, none⟩ by rw [Addr.add_lit, Nat.zero_add]]; exact ((Below.refl wf.heap.size wf).cell (p := ⟨xb, j, none⟩) hXl).trans (hXC j u (by have hx := hj; unfold ivals at hx ⊢; rw [List.map_take] at hx; have h9 := (List.getElem?_eq_some_iff.1 hx).1; rw [List.getElem?_take_of_lt (by simp at h9; omega)] at hx; exact hx))⟩) (ivals_oneX _) (by simp [ivals]; omega) (by unfold maxLen; simp [ivals]; omega) (Below.refl wf.heap.size wf).size ?_
        intro vA wA hOA hgA
        rw [List.nil_append] at hOA
        have hBA : Below wf.heap.size wf wA := (Below.refl wf.heap.size wf).grown hgA (Below.refl wf.heap.size wf).size (fun j hj => by cases hj)
        refine hK.out _ _ ⟨hbe.kept (hBA), hNd.below (hBA)⟩ (fun _ => ?_)
        clear hK K
        (try simp only [List.getElem_toArray, List.getElem_cons_succ, List.getElem_cons_zero, Act.put, List.setIfInBounds_toArray, List.set_cons_zero, List.set_cons_succ])
        refine wpAnyH_ready (rs := [10]) (by kernel_rfl) (by simp) (AllReadyH.cons rfl (fun K hK => ?_) AllReadyH.nil)
        obtain ⟨wB, hwB⟩ : ∃ X, X = wA.alloc (.cells #[.int .i64 y.tree] 3) := ⟨_, rfl⟩
        obtain ⟨pT, hpE⟩ : ∃ p, p = wA.heap.size := ⟨_, rfl⟩
        have hcT : wB.cell? ⟨pT, 0, none⟩ = some (.int .i64 y.tree) := by rw [hwB, hpE]; go_simp
        have hpT : pT < wB.heap.size := by rw [hwB, hpE]; simp
        have hB0 : Below wA.heap.size wA wB := by rw [hwB]; exact (Below.refl _ _).alloc (Nat.le_refl _) _
        have hBB : Below wf.heap.size wf wB := hBA.trans (hB0.mono hBA.size)
        replace hOA := Owns.kept hOA hB0
        go_simp
        rw [← hwB, ← hpE]
        clear hwB hpE hB0
        refine hK.out _ _ ⟨hbe.kept (hBB), hNd.below (hBB)⟩ (fun _ => ?_)
        clear hK K
        (try simp only [List.getElem_toArray, List.getElem_cons_succ, List.getElem_cons_zero, Act.put, List.setIfInBounds_toArray, List.set_cons_zero, List.set_cons_succ])
        refine wpAnyH_ready (rs := [11]) (by kernel_rfl) (by simp) (AllReadyH.cons rfl (fun K hK => ?_) AllReadyH.nil)
        rw [if_pos (by rfl)]
        refine step_appM (ys := [.int .i64 y.tree]) E_ints hOA rfl rfl rfl (.inr ⟨_, _, _, rfl, rfl, fun j u hj => by match j, hj with | 0, hj => simp at hj; subst hj; simpa [Addr.add] using hcT⟩) (by simp [Value.oneCell']) (by rw [hs1]; simp; omega) (by rw [hs1]; unfold maxLen; simp; omega) hBB.size ?_
        intro vC wC hOC hgC
        have hBC : Below wf.heap.size wf wC := hBB.grown hgC hBB.size (fun j hj => (OwnsK.lt (K := 1) hOA j hj).1)
        refine hK.out _ _ ⟨hbe.kept (hBC), hNd.below (hBC)⟩ (fun _ => ?_)
        clear hK K
        (try simp only [List.getElem_toArray, List.getElem_cons_succ, List.getElem_cons_zero, Act.put, List.setIfInBounds_toArray, List.set_cons_zero, List.set_cons_succ])
        refine wpAnyH_ready (rs := [15]) (by kernel_rfl) (by simp) (AllReadyH.cons rfl (fun K hK => ?_) AllReadyH.nil)
        rw [if_pos (by rfl)]
        refine step_appM (ys := ivals .i64 (xs.drop k)) E_ints hOC rfl rfl rfl (.inr ⟨_, _, _, rfl, hs2.symm, fun j u hj => by rw [List.drop_of_length_le (by omega)] at hj; simp [ivals] at hj⟩) (ivals_oneX _) (by rw [List.length_append, hs1, hs2]; simp; omega) (by rw [List.length_append, hs1, hs2]; unfold maxLen; simp; omega) hBC.size ?_
        intro vD wD hOD hgD
        have hBD : Below wf.heap.size wf wD := hBC.grown hgD hBC.size (fun j hj => (OwnsK.lt (K := 1) hOC j hj).1)
        refine hK.out _ _ ⟨hbe.kept (hBD), hNd.below (hBD)⟩ (fun _ => ?_)
        clear hK K
        (try simp only [List.getElem_toArray, List.getElem_cons_succ, List.getElem_cons_zero, Act.put, List.setIfInBounds_toArray, List.set_cons_zero, List.set_cons_succ])
        refine wpAnyH_ready (rs := [16]) (by kernel_rfl) (by simp) (AllReadyH.cons rfl (fun K hK => ?_) AllReadyH.nil)
        go_simp
        refine hK.out _ _ ⟨hbe.kept (hBD), hNd.below (hBD)⟩ (fun _ => ?_)
        clear hK K
        (try simp only [List.getElem_toArray, List.getElem_cons_succ, List.getElem_cons_zero, Act.put, List.setIfInBounds_toArray, List.set_cons_zero, List.set_cons_succ])
        refine wpAnyH_done (by kernel_rfl) ?_ _
        go_wp2_with fail
        go_roundg (go1 - 1)
        case measure => omega
        case rel => exact ⟨i + 1, by omega, by go_num, by rw [HT.out, hIN.out]; simpa [ivals] using hOD.mono hw0f, hbr.trans ((hb2.trans (hBD.mono hb2.size)).mono hbr.size)⟩
       ·skip
        obtain ⟨wB, hwB⟩ : ∃ X, X = wf.alloc (.cells #[.int .i64 y.tree] 3) := ⟨_, rfl⟩
        obtain ⟨pT, hpE⟩ : ∃ p, p = wf.heap.size := ⟨_, rfl⟩
        have hcT : wB.cell? ⟨pT, 0, none⟩ = some (.int .i64 y.tree) := by rw [hwB, hpE]; go_simp
        have hpT : pT < wB.heap.size := by rw [hwB, hpE]; simp
        have hB0 : Below wf.heap.size wf wB := by rw [hwB]; exact (Below.refl _ _).alloc (Nat.le_refl _) _
        have hBB : Below wf.heap.size wf wB := (Below.refl wf.heap.size wf).trans (hB0.mono (Below.refl wf.heap.size wf).size)
        go_simp
        rw [← hwB, ← hpE]
        clear hwB hpE hB0
        refine hK.out _ _ ⟨hbe.kept (hBB), hNd.below (hBB)⟩ (fun _ => ?_)
        clear hK K
        (try simp only [List.getElem_toArray, List.getElem_cons_succ, List.getElem_cons_zero, Act.put, List.setIfInBounds_toArray, List.set_cons_zero, List.set_cons_succ])
        refine wpAnyH_ready (rs := [3]) (by kernel_rfl) (by simp) (AllReadyH.cons rfl (fun K hK => ?_) AllReadyH.nil)
        rw [if_pos (by rfl)]
        refine step_appM (ys := ivals .i64 (xs.take k)) E_ints (Owns.nil wf.heap.size 3 wB) rfl rfl rfl (.inr ⟨_, _, _, rfl, hs1.symm, fun j u hj => by rw [show (⟨xb, 0, none⟩ : Addr).add j = ⟨xb, j, none⟩ by rw [Addr.add_lit, Nat.zero_add]]; exact (hBB.cell (p := ⟨xb, j, none⟩) hXl).trans (hXC j u (by have hx := hj; unfold ivals at hx ⊢; rw [List.map_take] at hx; have h9 := (List.getElem?_eq_some_iff.1 hx).1; rw [List.getElem?_take_of_lt (by simp at h9; omega)] at hx; exact hx))⟩) (ivals_oneX _) (by simp [ivals]; omega) (by unfold maxLen; simp [ivals]; omega) hBB.size ?_
        intro vA wA hOA hgA
        rw [List.nil_append] at hOA
        have hBA : Below wf.heap.size wf wA := hBB.grown hgA hBB.size (fun j hj => by cases hj)
        replace hcT : wA.cell? ⟨pT, 0, none⟩ = some (.int .i64 y.tree) := (World.cell?_of_block (w := wB) (a := ⟨pT, 0, none⟩) (hgA.block pT hpT (by simp [Value.ownBlock]))).trans hcT
        refine hK.out _ _ ⟨hbe.kept (hBA), hNd.below (hBA)⟩ (fun _ => ?_)
        clear hK K
        (try simp only [List.getElem_toArray, List.getElem_cons_succ, List.getElem_cons_zero, Act.put, List.setIfInBounds_toArray, List.set_cons_zero, List.set_cons_succ])
        refine wpAnyH_ready (rs := [11]) (by kernel_rfl) (by simp) (AllReadyH.cons rfl (fun K hK => ?_) AllReadyH.nil)
        rw [if_pos (by rfl)]
        refine step_appM (ys := [.int .i64 y.tree]) E_ints hOA rfl rfl rfl (.inr ⟨_, _, _, rfl, rfl, fun j u hj => by match j, hj with | 0, hj => simp at hj; subst hj; simpa [Addr.add] using hcT⟩) (by simp [Value.oneCell']) (by rw [hs1]; simp; omega) (by rw [hs1]; unfold maxLen; simp; omega) hBA.size ?_
        intro vC wC hOC hgC
        have hBC : Below wf.heap.size wf wC := hBA.grown hgC hBA.size (fun j hj => (OwnsK.lt (K := 1) hOA j hj).1)
        refine hK.out _ _ ⟨hbe.kept (hBC), hNd.below (hBC)⟩ (fun _ => ?_)
        clear hK K
        (try simp only [List.getElem_toArray, List.getElem_cons_succ, List.getElem_cons_zero, Act.put, List.setIfInBounds_toArray, List.set_cons_zero, List.set_cons_succ])
        refine wpAnyH_ready (rs := [15]) (by kernel_rfl) (by simp) (AllReadyH.cons rfl (fun K hK => ?_) AllReadyH.nil)
        rw [if_pos (by rfl)]
        refine step_appM (ys := ivals .i64 (xs.drop k)) E_ints hOC rfl rfl rfl (.inr ⟨_, _, _, rfl, hs2.symm, fun j u hj => by rw [List.drop_of_length_le (by omega)] at hj; simp [ivals] at hj⟩) (ivals_oneX _) (by rw [List.length_append, hs1, hs2]; simp; omega) (by rw [List.length_append, hs1, hs2]; unfold maxLen; simp; omega) hBC.size ?_
        intro vD wD hOD hgD
        have hBD : Below wf.heap.size wf wD := hBC.grown hgD hBC.size (fun j hj => (OwnsK.lt (K := 1) hOC j hj).1)
        refine hK.out _ _ ⟨hbe.kept (hBD), hNd.below (hBD)⟩ (fun _ => ?_)
        clear hK K
        (try simp only [List.getElem_toArray, List.getElem_cons_succ, List.getElem_cons_zero, Act.put, List.setIfInBounds_toArray, List.set_cons_zero, List.set_cons_succ])
        refine wpAnyH_ready (rs := [16]) (by kernel_rfl) (by simp) (AllReadyH.cons rfl (fun K hK => ?_) AllReadyH.nil)
        go_simp
        refine hK.out _ _ ⟨hbe.kept (hBD), hNd.below (hBD)⟩ (fun _ => ?_)
        clear hK K
        (try simp only [List.getElem_toArray, List.getElem_cons_succ, List.getElem_cons_zero, Act.put, List.setIfInBounds_toArray, List.set_cons_zero, List.set_cons_succ])
        refine wpAnyH_done (by kernel_rfl) ?_ _
        go_wp2_with fail
        go_roundg (go1 - 1)
        case measure => omega
        case rel => exact ⟨i + 1, by omega, by go_num, by rw [HT.out, hIN.out]; simpa [ivals] using hOD.mono hw0f, hbr.trans ((hb2.trans (hBD.mono hb2.size)).mono hbr.size)⟩
  ·have hz : ¬ (i : Int) < (e.nodes.length : Int) := by omega
   have ee5 := hbe.cell 5 _ rfl
   rw [List.take_of_length_le (by omega)] at hO
   go_wp2_with fail
   go_ret
   exact ⟨_, rfl, hO.mono hbf.size, hbf.trans (hbr.mono hbf.size)⟩
end Go.Proofs.YtcpfanpcdkoiaaaGreat
