/-
  Pk27: EnsC (what is needed of them).
-/
import Derived.Test.YtcpfanpcdkoiaaaGreatPk21
import Derived.Test.YtcpfanpcdkoiaaaGreatPk24
import Derived.Test.YtcpfanpcdkoiaaaGreatPk26
import Derived.Deep.DeepCutAuto
set_option maxRecDepth 100000
set_option linter.unusedVariables false
set_option linter.unusedSimpArgs false

namespace Go.Proofs.YtcpfanpcdkoiaaaGreat
open Go.RowKit Go.Shelf


theorem checkE_0 {f : EE} (h1 : sizeE f = true) (h2 : f.agg ∈ aggW) (h3 : f.post ∈ postW) (h4 : baseE f = true) (h5 : numsE f.nodes = true) (h6 : everyE f.nodes true (fun n => decide (1 ≤ n.mode ∧ n.mode ≤ 7)) = true) (h7 : everyE f.nodes false (fun n => decide (0 ≤ n.feat ∧ n.feat < f.feats)) = true) (h8 : everyE f.nodes false (fun n => finP n.val) = true ∧ everyE f.nodes true (fun n => decide (n.val < 4294967296)) = true) (h9 : kidE f.nodes = true) (h10 : forestE f.nodes = true) (h11 : leafE f = true) (h12 : f.leaves.any (fun l => !finP l.wt) = false) : checkE f = 0 := by
 unfold checkE
 rw [if_neg (by rw [h1]; simp), if_neg (by exact fun h => h h2), if_neg (by exact fun h => h h3), if_neg (by rw [h4]; simp), if_neg (by rw [h5]; simp), if_neg (by rw [h6]; simp), if_neg (by rw [h7]; simp), if_neg (by rw [h8.1, h8.2]; simp), if_neg (by rw [h9]; simp), if_neg (by rw [h10]; simp), if_neg (by rw [h11]; simp), if_neg (by rw [h12]; simp)]
def goodN (e : EE) (q : Nat) (y : EN) : Bool :=
 match q with
 | 0 => decide (1 ≤ y.mode ∧ y.mode ≤ 7)
 | 1 => decide (y.mode = 7) || decide (0 ≤ y.feat ∧ y.feat < e.feats)
 | 2 => decide (y.val < 4294967296) && (decide (y.mode = 7) || finP y.val)
 | _ => decide (y.mode = 7) || ((findE e.nodes y.tree y.tru).isSome && ((findE e.nodes y.tree y.fls).isSome && decide (y.tru ≠ y.fls)))
theorem every_iff {ns : List EN} {all : Bool} {p : EN → Bool} : everyE ns all p = true ↔ ∀ y ∈ ns, (all || decide (y.mode ≠ 7)) = true → p y = true := by
 unfold everyE
 rw [Bool.not_eq_true', List.any_eq_false]
 refine forall_congr' fun y => forall_congr' fun hy => ?_
 cases (all || decide (y.mode ≠ 7)) <;> cases p y <;> simp
theorem all_at {ns : List EN} {p : EN → Bool} : (∀ k, k < ns.length → p ns[k]! = true) ↔ ∀ y ∈ ns, p y = true := by
 constructor
 ·intro h y hy
  obtain ⟨k, hk, rfl⟩ := List.mem_iff_getElem.1 hy
  have := h k hk
  rwa [getElem!_pos ns k hk] at this
 ·intro h k hk
  exact h _ (by rw [getElem!_pos ns k hk]; exact List.getElem_mem hk)
theorem good_0 {e : EE} : (∀ k, k < e.nodes.length → goodN e 0 e.nodes[k]! = true) ↔ everyE e.nodes true (fun n => decide (1 ≤ n.mode ∧ n.mode ≤ 7)) = true := by
 rw [all_at, every_iff]
 exact forall_congr' fun y => forall_congr' fun hy => by simp [goodN]
theorem good_1 {e : EE} : (∀ k, k < e.nodes.length → goodN e 1 e.nodes[k]! = true) ↔ everyE e.nodes false (fun n => decide (0 ≤ n.feat ∧ n.feat < e.feats)) = true := by
 rw [all_at, every_iff]
 refine forall_congr' fun y => forall_congr' fun hy => ?_
 by_cases h : y.mode = 7 <;> simp [goodN, h]
theorem good_2 {e : EE} : (∀ k, k < e.nodes.length → goodN e 2 e.nodes[k]! = true) ↔ (everyE e.nodes false (fun n => finP n.val) = true ∧ everyE e.nodes true (fun n => decide (n.val < 4294967296)) = true) := by
 have e2 : ∀ y, goodN e 2 y = (decide (y.val < 4294967296) && (decide (y.mode = 7) || finP y.val)) := fun y => rfl
 rw [all_at, every_iff, every_iff]
 constructor
 ·intro h
  refine ⟨fun y hy hm => ?_, fun y hy _ => ?_⟩
  ·have := h y hy
   unfold goodN at this
   by_cases hm2 : y.mode = 7
   ·simp [hm2] at hm
   ·simp [hm2] at this; exact this.2
  ·have := h y hy
   rw [e2, Bool.and_eq_true] at this
   exact this.1
 ·rintro ⟨h1, h2⟩ y hy
  rw [e2, Bool.and_eq_true]
  refine ⟨h2 y hy rfl, ?_⟩
  by_cases hm2 : y.mode = 7
  ·simp [hm2]
  ·have := h1 y hy (by simp [hm2])
   simp [this]
theorem good_3 {e : EE} : (∀ k, k < e.nodes.length → goodN e 3 e.nodes[k]! = true) ↔ kidE e.nodes = true := by
 unfold kidE
 rw [all_at, every_iff]
 refine forall_congr' fun y => forall_congr' fun hy => ?_
 by_cases h : y.mode = 7 <;> simp [goodN, h]
theorem not_true {b : Bool} {P : Prop} (h : P ↔ b = true) (hn : ¬ P) : b = false := by cases b with
 | false => rfl
 | true => exact absurd (h.2 rfl) hn
theorem bad_8 {e : EE} (hn : ¬ ∀ k, k < e.nodes.length → goodN e 2 e.nodes[k]! = true) : everyE e.nodes false (fun n => finP n.val) = false ∨ everyE e.nodes true (fun n => decide (n.val < 4294967296)) = false := by
 cases h1 : everyE e.nodes false (fun n => finP n.val) with
 | false => exact .inl rfl
 | true =>
  cases h2 : everyE e.nodes true (fun n => decide (n.val < 4294967296)) with
  | false => exact .inr rfl
  | true => exact absurd (good_2.2 ⟨h1, h2⟩) hn
theorem fidx_some (o : Option Nat) : (fidx o < 0 → o = none) ∧ (¬ fidx o < 0 → o.isSome = true) := by
 cases o with
 | none => exact ⟨fun _ => rfl, fun h => absurd (show (-1 : Int) < 0 by decide) h⟩
 | some k => exact ⟨fun h => by have h : (k : Int) < 0 := h; omega, fun _ => rfl⟩
def cntK (ns : List EN) (t : Int) (k : Nat) : Nat := (List.range k).countP (fun k => decide (ns[k]!.tree = t))
def rtsK (ns : List EN) (t : Int) (k : Nat) : List Nat := (List.range k).filter (fun k => decide (ns[k]!.tree = t) && decide (parR ns t ns[k]!.node = 0))
theorem cntK_succ (ns : List EN) (t : Int) (k : Nat) : cntK ns t (k + 1) = cntK ns t k + if ns[k]!.tree = t then 1 else 0 := by
 unfold cntK; rw [List.range_succ, List.countP_append]; simp [List.countP_cons]
theorem rtsK_succ (ns : List EN) (t : Int) (k : Nat) : rtsK ns t (k + 1) = rtsK ns t k ++ if ns[k]!.tree = t ∧ parR ns t ns[k]!.node = 0 then [k] else [] := by
 unfold rtsK; rw [List.range_succ, List.filter_append]
 congr 1
 by_cases h1 : ns[k]!.tree = t <;> by_cases h2 : parR ns t ns[k]!.node = 0 <;> simp only [h1, h2, List.filter_cons, List.filter_nil, decide_true, decide_false, Bool.and_true, Bool.and_false, Bool.false_and, if_true, and_true, true_and, and_false, false_and, if_false, Bool.false_eq_true]
theorem rts_yes {ns : List EN} {t : Int} {k n r o : Nat} (h : cntK ns t k = n ∧ (rtsK ns t k).length = r ∧ (rtsK ns t k).getLast?.getD 0 = o) (h1 : ns[k]!.tree = t) (h2 : parR ns t ns[k]!.node = 0) : cntK ns t (k + 1) = n + 1 ∧ (rtsK ns t (k + 1)).length = r + 1 ∧ (rtsK ns t (k + 1)).getLast?.getD 0 = k := by
 rw [cntK_succ, rtsK_succ, if_pos h1, if_pos ⟨h1, h2⟩, h.1, List.length_append, h.2.1]
 simp
theorem rts_no {ns : List EN} {t : Int} {k n r o : Nat} (h : cntK ns t k = n ∧ (rtsK ns t k).length = r ∧ (rtsK ns t k).getLast?.getD 0 = o) (h1 : ns[k]!.tree = t) (h2 : ¬ parR ns t ns[k]!.node = 0) : cntK ns t (k + 1) = n + 1 ∧ (rtsK ns t (k + 1)).length = r ∧ (rtsK ns t (k + 1)).getLast?.getD 0 = o := by
 rw [cntK_succ, rtsK_succ, if_pos h1, if_neg (fun h => h2 h.2), h.1, List.append_nil]
 exact ⟨rfl, h.2⟩
theorem rts_off {ns : List EN} {t : Int} {k n r o : Nat} (h : cntK ns t k = n ∧ (rtsK ns t k).length = r ∧ (rtsK ns t k).getLast?.getD 0 = o) (h1 : ¬ ns[k]!.tree = t) : cntK ns t (k + 1) = n ∧ (rtsK ns t (k + 1)).length = r ∧ (rtsK ns t (k + 1)).getLast?.getD 0 = o := by
 rw [cntK_succ, rtsK_succ, if_neg h1, if_neg (fun h => h1 h.1), h.1, List.append_nil]
 exact ⟨rfl, h.2⟩
theorem leafB_none {e : EE} {z : EL} (h : findE e.nodes z.tree z.node = none) : leafB e z = true := by unfold leafB; rw [h]
theorem leafB_some {e : EE} {z : EL} {k : Nat} (h : findE e.nodes z.tree z.node = some k) : leafB e z = (decide (e.nodes[k]!.mode ≠ 7) || (decide (z.tgt < 0) || decide (e.tgts ≤ z.tgt))) := by unfold leafB; rw [h]
theorem good_bad {e : EE} {q k : Nat} (hk : k < e.nodes.length) (hb : goodN e q e.nodes[k]! = false) : ¬ ∀ k, k < e.nodes.length → goodN e q e.nodes[k]! = true := fun h => by rw [h k hk] at hb; cases hb
set_option maxHeartbeats 40000000 in
theorem rcheck_any (v : Value) (e : EE) (bo : Option Addr) (bc : Nat) (no : Option Addr) (nc : Nat) (lo : Option Addr) (lc : Nat) (c : Nat) (w : World) (h : EnsIs w v e bo bc no nc lo lc) (hlim : e.nodes.length ≤ 100000) (hlim2 : e.leaves.length ≤ 100000) (hlim3 : e.base.length ≤ 100000) (hc : Hid (checkE e = c)) :
  Calls Tryz.prog 29 #[v] w fun e_1 w' => e_1 = .returned (.tuple #[.string ⟨(wordE c).toArray⟩, .bool (decide (c = 0))]) ∧ Below w.heap.size w w' := by
 obtain ⟨rfl, h1, h2, h4, h5, h3, h6, h7, h8, h9⟩ := h
 obtain ⟨w0, hw0, hbf, pe, hpe, hbe⟩ := boxE w e bo bc no nc lo lc
 have HP : Hid (w.heap.size ≤ pe) := Lib.hid (by omega)
 have HW := Lib.hid hw0; clear hw0
 go_enter Tryz.func29, Tryz.ntmps29
 go_upto_region 1 with fail
 rw [← HW.out, ← hpe]
 clear hpe HW
 have hE : EnsIs w0 (ensV e bo bc no nc lo lc) e bo bc no nc lo lc := EnsIs.below ⟨rfl, h1, h2, h4, h5, h3, h6, h7, h8, h9⟩ hbf
 have hT := rtrees_any _ e _ _ _ _ _ _ w0 hE hlim
 obtain ⟨ts, hts⟩ : ∃ ts, treesE e.nodes = ts := ⟨_, rfl⟩
 have HTS := Lib.hid hts
 rw [hts] at hT
 clear hts
 obtain ⟨ee0, ee1, ee2, ee3, ee4, ee5, ee6⟩ := hbe.c7
 go_upto_region 2 with (go_at_call 33; refine hT.mono ?_; rintro e9 w1 ⟨r9, rfl, hO, hb⟩; have hI9 := (ints_of_owns hO).1; obtain ⟨tao, tcp, rfl, htc1, htc2, _⟩ := OwnsK.slice (K := 1) hO; rw [ivals_length] at *)
 clear ee0 ee1 ee2 ee3 ee4 ee5 ee6
 replace hbe := hbe.kept hb
 replace hE := hE.below hb
 replace hbf := hbf.trans (hb.mono hbf.size)
 clear hb
 have hbT : Below w1.heap.size w1 w1 := Below.refl _ _
 clear hT hO
 unfold maxLen at htc2
 have htl : ts.length ≤ 100000 := by
  have h9 := setT_len (e.nodes.map (·.tree))
  rw [show setT (e.nodes.map (·.tree)) = ts from HTS.out, List.length_map] at h9
  omega
 obtain ⟨ee0, ee1, ee2, ee3, ee4, ee5, ee6⟩ := hbe.c7
 rcases Decidable.em (e.feats < 0) with q0 | q0
 ·have f0 : e.feats < 0 := by omega
  have S1 : Hid (sizeE e = false) := Lib.hid (by
   have h9 : ¬ sizeE e = true := fun h => by
    unfold sizeE at h
    rw [HTS.out] at h
    simp only [Bool.and_eq_true, decide_eq_true_eq] at h
    omega
   simpa using h9)
  clear q0
  have hc9 : c = 1 := by rw [← hc.out]; exact checkE_1 S1.out
  subst hc9
  clear hc
  go_wp2_with fail
  go_ret2
  exact ⟨rfl, hbf⟩
 ·have f0 : ¬ (e.feats < 0) := by omega
  rcases Decidable.em (40 < e.feats) with q1 | q1
  ·have f1 : e.feats > 40 := by omega
   have S1 : Hid (sizeE e = false) := Lib.hid (by
    have h9 : ¬ sizeE e = true := fun h => by
     unfold sizeE at h
     rw [HTS.out] at h
     simp only [Bool.and_eq_true, decide_eq_true_eq] at h
     omega
    simpa using h9)
   clear q0 q1
   have hc9 : c = 1 := by rw [← hc.out]; exact checkE_1 S1.out
   subst hc9
   clear hc
   go_wp2_with fail
   go_ret2
   exact ⟨rfl, hbf⟩
  ·have f1 : ¬ (e.feats > 40) := by omega
   rcases Decidable.em (e.tgts < 1) with q2 | q2
   ·have f2 : e.tgts < 1 := by omega
    have S1 : Hid (sizeE e = false) := Lib.hid (by
     have h9 : ¬ sizeE e = true := fun h => by
      unfold sizeE at h
      rw [HTS.out] at h
      simp only [Bool.and_eq_true, decide_eq_true_eq] at h
      omega
     simpa using h9)
    clear q0 q1 q2
    have hc9 : c = 1 := by rw [← hc.out]; exact checkE_1 S1.out
    subst hc9
    clear hc
    go_wp2_with fail
    go_ret2
    exact ⟨rfl, hbf⟩
   ·have f2 : ¬ (e.tgts < 1) := by omega
    rcases Decidable.em (20 < e.tgts) with q3 | q3
    ·have f3 : e.tgts > 20 := by omega
     have S1 : Hid (sizeE e = false) := Lib.hid (by
      have h9 : ¬ sizeE e = true := fun h => by
       unfold sizeE at h
       rw [HTS.out] at h
       simp only [Bool.and_eq_true, decide_eq_true_eq] at h
       omega
      simpa using h9)
     clear q0 q1 q2 q3
     have hc9 : c = 1 := by rw [← hc.out]; exact checkE_1 S1.out
     subst hc9
     clear hc
     go_wp2_with fail
     go_ret2
     exact ⟨rfl, hbf⟩
    ·have f3 : ¬ (e.tgts > 20) := by omega
     rcases Decidable.em (e.nodes.length = 0) with q4 | q4
     ·have f4 : ((e.nodes.length : Int) == 0) = true := by simp [q4]
      have S1 : Hid (sizeE e = false) := Lib.hid (by
       have h9 : ¬ sizeE e = true := fun h => by
        unfold sizeE at h
        rw [HTS.out] at h
        simp only [Bool.and_eq_true, decide_eq_true_eq] at h
        omega
       simpa using h9)
      clear q0 q1 q2 q3 q4
      have hc9 : c = 1 := by rw [← hc.out]; exact checkE_1 S1.out
      subst hc9
      clear hc
      go_wp2_with fail
      go_ret2
      exact ⟨rfl, hbf⟩
     ·have f4 : ((e.nodes.length : Int) == 0) = false := by rw [beq_eq_false_iff_ne]; omega
      rcases Decidable.em (2000 < e.nodes.length) with q5 | q5
      ·have f5 : (e.nodes.length : Int) > 2000 := by omega
       have S1 : Hid (sizeE e = false) := Lib.hid (by
        have h9 : ¬ sizeE e = true := fun h => by
         unfold sizeE at h
         rw [HTS.out] at h
         simp only [Bool.and_eq_true, decide_eq_true_eq] at h
         omega
        simpa using h9)
       clear q0 q1 q2 q3 q4 q5
       have hc9 : c = 1 := by rw [← hc.out]; exact checkE_1 S1.out
       subst hc9
       clear hc
       go_wp2_with fail
       go_ret2
       exact ⟨rfl, hbf⟩
      ·have f5 : ¬ ((e.nodes.length : Int) > 2000) := by omega
       rcases Decidable.em (2000 < e.leaves.length) with q6 | q6
       ·have f6 : (e.leaves.length : Int) > 2000 := by omega
        have S1 : Hid (sizeE e = false) := Lib.hid (by
         have h9 : ¬ sizeE e = true := fun h => by
          unfold sizeE at h
          rw [HTS.out] at h
          simp only [Bool.and_eq_true, decide_eq_true_eq] at h
          omega
         simpa using h9)
        clear q0 q1 q2 q3 q4 q5 q6
        have hc9 : c = 1 := by rw [← hc.out]; exact checkE_1 S1.out
        subst hc9
        clear hc
        go_wp2_with fail
        go_ret2
        exact ⟨rfl, hbf⟩
       ·have f6 : ¬ ((e.leaves.length : Int) > 2000) := by omega
        rcases Decidable.em (100 < ts.length) with q7 | q7
        ·have f7 : (ts.length : Int) > 100 := by omega
         have S1 : Hid (sizeE e = false) := Lib.hid (by
          have h9 : ¬ sizeE e = true := fun h => by
           unfold sizeE at h
           rw [HTS.out] at h
           simp only [Bool.and_eq_true, decide_eq_true_eq] at h
           omega
          simpa using h9)
         clear q0 q1 q2 q3 q4 q5 q6 q7
         have hc9 : c = 1 := by rw [← hc.out]; exact checkE_1 S1.out
         subst hc9
         clear hc
         go_wp2_with fail
         go_ret2
         exact ⟨rfl, hbf⟩
        ·have f7 : ¬ ((ts.length : Int) > 100) := by omega
         have S1 : Hid (sizeE e = true) := Lib.hid (by
           unfold sizeE
           rw [HTS.out]
           simp only [Bool.and_eq_true, decide_eq_true_eq]
           omega)
         clear q0 q1 q2 q3 q4 q5 q6 q7
         go_upto_region 4 with fail
         clear f0 f1 f2 f3 f4 f5 f6 f7
         obtain ⟨b2, hb2⟩ : ∃ b, (decide (e.agg ∈ aggW)) = b := ⟨_, rfl⟩
         have Hb2 := Lib.hid hb2
         clear hb2
         go_cut [85] from 68 to 85 (fun t9 wx => t9 = .bool (!b2) ∧ w1 = wx)
         case first =>
          rcases Decidable.em (e.agg = [83, 85, 77]) with g0 | g0
          ·have e9 : b2 = true := by rw [← Hb2.out, g0]; rfl
           subst e9
           go_wp2_with fail
           go_meet
           case rel => exact ⟨rfl, rfl⟩
          rcases Decidable.em (e.agg = [65, 86, 69, 82, 65, 71, 69]) with g1 | g1
          ·have e9 : b2 = true := by rw [← Hb2.out, g1]; rfl
           subst e9
           go_wp2_with fail
           go_meet
           case rel => exact ⟨rfl, rfl⟩
          rcases Decidable.em (e.agg = [77, 73, 78]) with g2 | g2
          ·have e9 : b2 = true := by rw [← Hb2.out, g2]; rfl
           subst e9
           go_wp2_with fail
           go_meet
           case rel => exact ⟨rfl, rfl⟩
          rcases Decidable.em (e.agg = [77, 65, 88]) with g3 | g3
          ·have e9 : b2 = true := by rw [← Hb2.out, g3]; rfl
           subst e9
           go_wp2_with fail
           go_meet
           case rel => exact ⟨rfl, rfl⟩
          have e9 : b2 = false := by
           rw [← Hb2.out]
           refine decide_eq_false fun h => ?_
           simp only [aggW, List.mem_cons, List.not_mem_nil, or_false] at h
           rcases h with h | h | h | h
           ·exact g0 h
           ·exact g1 h
           ·exact g2 h
           ·exact g3 h
          subst e9
          go_wp2_with fail
          go_meet
          case rel => exact ⟨by simp [g0, g1, g2, g3], rfl⟩
         case rest => as_aux_lemma =>
          obtain ⟨rfl, rfl⟩ := hcut
          cases b2 with
          | false =>
           have hc9 : c = 2 := by rw [← hc.out]; exact checkE_2 S1.out (of_decide_eq_false Hb2.out)
           subst hc9
           clear hc
           go_wp2_with fail
           go_ret2
           exact ⟨rfl, hbf⟩
          | true =>
           have S2 : Hid (e.agg ∈ aggW) := Lib.hid (of_decide_eq_true Hb2.out)
           clear Hb2
           obtain ⟨b3, hb3⟩ : ∃ b, (decide (e.post ∈ postW)) = b := ⟨_, rfl⟩
           have Hb3 := Lib.hid hb3
           clear hb3
           go_upto_region 6 with fail
           go_cut [108] from 86 to 108 (fun t9 wx => t9 = .bool (!b3) ∧ w1 = wx)
           case first =>
            rcases Decidable.em (e.post = [78, 79, 78, 69]) with g0 | g0
            ·have e9 : b3 = true := by rw [← Hb3.out, g0]; rfl
             subst e9
             go_wp2_with fail
             go_meet
             case rel => exact ⟨rfl, rfl⟩
            rcases Decidable.em (e.post = [83, 79, 70, 84, 77, 65, 88]) with g1 | g1
            ·have e9 : b3 = true := by rw [← Hb3.out, g1]; rfl
             subst e9
             go_wp2_with fail
             go_meet
             case rel => exact ⟨rfl, rfl⟩
            rcases Decidable.em (e.post = [76, 79, 71, 73, 83, 84, 73, 67]) with g2 | g2
            ·have e9 : b3 = true := by rw [← Hb3.out, g2]; rfl
             subst e9
             go_wp2_with fail
             go_meet
             case rel => exact ⟨rfl, rfl⟩
            rcases Decidable.em (e.post = [83, 79, 70, 84, 77, 65, 88, 95, 90, 69, 82, 79]) with g3 | g3
            ·have e9 : b3 = true := by rw [← Hb3.out, g3]; rfl
             subst e9
             go_wp2_with fail
             go_meet
             case rel => exact ⟨rfl, rfl⟩
            rcases Decidable.em (e.post = [80, 82, 79, 66, 73, 84]) with g4 | g4
            ·have e9 : b3 = true := by rw [← Hb3.out, g4]; rfl
             subst e9
             go_wp2_with fail
             go_meet
             case rel => exact ⟨rfl, rfl⟩
            have e9 : b3 = false := by
             rw [← Hb3.out]
             refine decide_eq_false fun h => ?_
             simp only [postW, List.mem_cons, List.not_mem_nil, or_false] at h
             rcases h with h | h | h | h | h
             ·exact g0 h
             ·exact g1 h
             ·exact g2 h
             ·exact g3 h
             ·exact g4 h
            subst e9
            go_wp2_with fail
            go_meet
            case rel => exact ⟨by simp [g0, g1, g2, g3, g4], rfl⟩
           case rest => as_aux_lemma =>
            obtain ⟨rfl, rfl⟩ := hcut
            cases b3 with
            | false =>
             have hc9 : c = 3 := by rw [← hc.out]; exact checkE_3 S1.out S2.out (of_decide_eq_false Hb3.out)
             subst hc9
             clear hc
             go_wp2_with fail
             go_ret2
             exact ⟨rfl, hbf⟩
            | true =>
             have S3 : Hid (e.post ∈ postW) := Lib.hid (of_decide_eq_true Hb3.out)
             clear Hb3
             go_upto_region 8 with fail
             obtain ⟨bl, hbl⟩ : ∃ n, e.base.length = n := ⟨_, rfl⟩
             rw [hbl] at ee4
             have HBL := Lib.hid hbl
             clear hbl
             obtain ⟨b4, hb4⟩ : ∃ b, (decide (bl = 0) || decide ((bl : Int) = e.tgts)) = b := ⟨_, rfl⟩
             have Hb4 := Lib.hid hb4
             clear hb4
             go_cut [120] from 109 to 120 (fun t9 wx => t9 = .bool (!b4) ∧ w1 = wx)
             case first =>
              rcases Decidable.em (bl = 0) with g | g
              ·have e9 : b4 = true := by rw [← Hb4.out]; simp [g]
               subst e9
               have f0 : ((bl : Int) != 0) = false := by simp [g]
               clear g
               go_wp2_with fail
               go_meet
               case rel => exact ⟨rfl, rfl⟩
              have f0 : ((bl : Int) != 0) = true := by simp [g]
              rcases Decidable.em ((bl : Int) = e.tgts) with g2 | g2
              ·have e9 : b4 = true := by rw [← Hb4.out]; simp [g2]
               subst e9
               have f1 : ((bl : Int) != e.tgts) = false := by simp [g2]
               clear g g2
               go_wp2_with fail
               go_meet
               case rel => exact ⟨rfl, rfl⟩
              have e9 : b4 = false := by rw [← Hb4.out]; simp [g, g2]
              subst e9
              have f1 : ((bl : Int) != e.tgts) = true := by simp [g2]
              clear g g2
              go_wp2_with fail
              go_meet
              case rel => exact ⟨rfl, rfl⟩
             case rest => as_aux_lemma =>
              obtain ⟨rfl, rfl⟩ := hcut
              rw [← HBL.out] at Hb4
              rw [← HBL.out] at ee4
              clear HBL
              cases b4 with
              | false =>
               have hc9 : c = 4 := by rw [← hc.out]; exact checkE_4 S1.out S2.out S3.out (by unfold baseE; rw [Hb4.out]; rfl)
               subst hc9
               clear hc
               go_wp2_with fail
               go_ret2
               exact ⟨rfl, hbf⟩
              | true =>
               go_wp2_with fail
               go_loopg [5] e.base.length (fun gg iv wr => ∃ (i : Nat), i + gg = e.base.length ∧ iv = .int .i64 (i : Int) ∧ Hid (∀ k, k < i → finP (e.base[k]?.getD 0) = true) ∧ Below w1.heap.size w1 wr)
               case atStart => exact ⟨0, by omega, rfl, Lib.hid (fun k hk => absurd hk (Nat.not_lt_zero _)), Below.refl _ _⟩
               case round =>
                obtain ⟨i, hi, rfl, hA, hbr⟩ := hrel
                replace hbe := hbe.kept hbr
                replace hE := hE.below hbr
                replace hbf := hbf.trans (hbr.mono hbf.size)
                replace hbT := hbT.trans (hbr.mono hbT.size)
                clear ee0 ee1 ee2 ee3 ee4 ee5 ee6
                by_cases hil : i < e.base.length
                ·have hz : (i : Int) < (e.base.length : Int) := by omega
                 have hz0 : (0 : Int) ≤ (i : Int) := by omega
                 obtain ⟨x, hx⟩ : ∃ x, e.base[i]?.getD 0 = x := ⟨_, rfl⟩
                 have hxl : x < 18446744073709551616 := by rw [← hx, List.getElem?_eq_getElem hil]; exact h7 _ (List.getElem_mem hil)
                 obtain ⟨bb, boff, rfl, hcx⟩ : ∃ b off, bo = some ⟨b, off, none⟩ ∧ wr.cell? ⟨b, off + i, none⟩ = some (.int .u64 (x : Int)) := by
                  rcases hE.base with h | ⟨b, off, h9, _, h10⟩
                  ·rw [h] at hil; exact absurd hil (Nat.not_lt_zero _)
                  ·exact ⟨b, off, h9, by rw [← hx]; exact h10 i hil⟩
                 obtain ⟨r, hr⟩ : ∃ r, finP x = r := ⟨_, rfl⟩
                 have hF := fun W => rfinite_any x r W hxl (Lib.hid hr)
                 have ee4 := hbe.cell 4 _ rfl
                 cases r with
                 | true =>
                  have hA2 : Hid (∀ k, k < i + 1 → finP (e.base[k]?.getD 0) = true) := Lib.hid (fun k hk => by
                   by_cases e9 : k = i
                   ·rw [e9, hx, hr]
                   ·exact hA.out k (by omega))
                  clear hA hx hr
                  go_wp2_with (go_at_call 99; refine (hF _).mono ?_; rintro e9 w3 ⟨rfl, hb⟩)
                  go_roundg (gk - 1)
                  case measure => omega
                  case rel => exact ⟨i + 1, by omega, by go_num, hA2, hbr.trans (hb.mono hbr.size)⟩
                 | false =>
                  have S4 : Hid (baseE e = false) := Lib.hid (by unfold baseE; rw [Bool.and_eq_false_iff]; right; rw [List.all_eq_false]; exact ⟨x, by rw [← hx, List.getElem?_eq_getElem hil]; exact List.getElem_mem hil, by rw [hr]; simp⟩)
                  clear hA hx hr
                  have hc9 : c = 4 := by rw [← hc.out]; exact checkE_4 S1.out S2.out S3.out S4.out
                  subst hc9
                  clear hc
                  go_wp2_with (go_at_call 99; refine (hF _).mono ?_; rintro e9 w3 ⟨rfl, hb⟩)
                  go_ret2
                  exact ⟨rfl, hbf.trans (hb.mono hbf.size)⟩
                ·as_aux_lemma =>
                 have hz : ¬ (i : Int) < (e.base.length : Int) := by omega
                 have S4 : Hid (baseE e = true) := Lib.hid (by
                  unfold baseE
                  rw [Hb4.out, Bool.true_and, List.all_eq_true]
                  intro y hy
                  obtain ⟨k, hk, rfl⟩ := List.mem_iff_getElem.1 hy
                  have h9 := hA.out k (by omega)
                  rwa [List.getElem?_eq_getElem hk] at h9)
                 clear hA Hb4
                 obtain ⟨w2, hwN⟩ : ∃ x, x = wr := ⟨_, rfl⟩
                 subst hwN
                 have ee4 := hbe.cell 4 _ rfl
                 have ee5 := hbe.cell 5 _ rfl
                 go_wp2_with fail
                 go_loopg [6] e.nodes.length (fun gg iv wr => ∃ (i : Nat), i + gg = e.nodes.length ∧ iv = .int .i64 (i : Int) ∧ Hid (∀ k, k < i → numB e.nodes k = true) ∧ Below w2.heap.size w2 wr)
                 case atStart => exact ⟨0, by omega, rfl, Lib.hid (fun k hk => absurd hk (Nat.not_lt_zero _)), Below.refl _ _⟩
                 case round =>
                  clear ee4 ee5
                  obtain ⟨i, hi, rfl, hA, hbr⟩ := hrel
                  replace hbe := hbe.kept hbr
                  replace hE := hE.below hbr
                  replace hbf := hbf.trans (hbr.mono hbf.size)
                  replace hbT := hbT.trans (hbr.mono hbT.size)
                  by_cases hil : i < e.nodes.length
                  ·have hz : (i : Int) < (e.nodes.length : Int) := by omega
                   have hz0 : (0 : Int) ≤ (i : Int) := by omega
                   obtain ⟨nb, noff, rfl⟩ := h2.addr hil
                   obtain ⟨y, hy⟩ : ∃ y, e.nodes[i] = y := ⟨_, rfl⟩
                   have hyw := h8 y (by rw [← hy]; exact List.getElem_mem hil)
                   obtain ⟨c0, c1, c2, c3, c4, c5, c6, c7⟩ := (NdAt.of hE.nodes hil hy).c8
                   have HY : Hid (e.nodes[i]! = y) := Lib.hid (by rw [getElem!_pos e.nodes i hil, hy])
                   clear hy
                   have ee5 := hbe.cell 5 _ rfl
                   obtain ⟨v2, hwE, hb, px, hpE, hbx⟩ := boxN wr y
                   have HW := Lib.hid hwE; clear hwE
                   go_upto_region 19 with fail
                   rw [← HW.out, ← hpE]
                   clear HW hpE c0 c1 c2 c3 c4 c5 c6 c7 ee5
                   replace hbe := hbe.kept hb
                   replace hE := hE.below hb
                   replace hbr := hbr.trans (hb.mono hbr.size)
                   replace hbf := hbf.trans (hb.mono hbf.size)
                   replace hbT := hbT.trans (hb.mono hbT.size)
                   clear hb
                   obtain ⟨ex0, ex1, ex2, ex3, ex4, ex5, ex6, ex7⟩ := hbx.c8
                   have HN : Hid (numB e.nodes i = (decide (0 ≤ y.tree) && (decide (0 ≤ y.node) && decide ((findE e.nodes y.tree y.node).getD 0 = i)))) := Lib.hid (by unfold numB; rw [HY.out])
                   have no : numB e.nodes i = false → Hid (numsE e.nodes = false) := fun h => Lib.hid (by rw [numsE_eq]; exact List.all_eq_false.2 ⟨i, List.mem_range.2 hil, by rw [h]; simp⟩)
                   rcases Decidable.em (y.tree < 0) with q1 | q1
                   ·have S5 := no (by rw [HN.out]; simp; omega)
                    clear no HN hA
                    have hc9 : c = 5 := by rw [← hc.out]; exact checkE_5 S1.out S2.out S3.out S4.out S5.out
                    subst hc9
                    clear hc
                    go_wp2_with fail
                    go_ret2
                    exact ⟨rfl, hbf⟩
                   rcases Decidable.em (y.node < 0) with q2 | q2
                   ·have S5 := no (by rw [HN.out]; simp; omega)
                    clear no HN hA
                    have hc9 : c = 5 := by rw [← hc.out]; exact checkE_5 S1.out S2.out S3.out S4.out S5.out
                    subst hc9
                    clear hc
                    go_wp2_with fail
                    go_ret2
                    exact ⟨rfl, hbf⟩
                   obtain ⟨g, hg⟩ : ∃ g, findE e.nodes y.tree y.node = some g := by
                    cases hq : findE e.nodes y.tree y.node with
                    | some j => exact ⟨j, rfl⟩
                    | none =>
                     exfalso
                     have h9 : e.nodes.findIdx? (fun n => decide (n.tree = y.tree) && decide (n.node = y.node)) = none := hq
                     have h10 := List.findIdx?_eq_none_iff.1 h9 y (by rw [← HY.out, getElem!_pos e.nodes i hil]; exact List.getElem_mem hil)
                     simp at h10
                   have hP := fun W h => rplace_any (ensV e bo bc (some ⟨nb, noff, none⟩) nc lo lc) e bo bc (some ⟨nb, noff, none⟩) nc lo lc y.tree y.node (g : Int) W h (Lib.hid (by rw [hg]; rfl))
                   have HN2 : Hid (numB e.nodes i = decide (g = i)) := Lib.hid (by rw [HN.out, hg, decide_eq_true (show 0 ≤ y.tree by omega), decide_eq_true (show 0 ≤ y.node by omega), Bool.true_and, Bool.true_and]; rfl)
                   clear HN hg
                   obtain ⟨ee0, ee1, ee2, ee3, ee4, ee5, ee6⟩ := hbe.c7
                   rcases Decidable.em (g = i) with q3 | q3
                   ·have hA2 : Hid (∀ k, k < i + 1 → numB e.nodes k = true) := Lib.hid (fun k hk => by
                     by_cases e9 : k = i
                     ·subst e9; rw [HN2.out]; simp [q3]
                     ·exact hA.out k (by omega))
                    have f3 : ((g : Int) != (i : Int)) = false := by simp [q3]
                    clear hA HN2 no q3
                    go_wp2_with (go_at_call 37; refine (hP _ hE).mono ?_; rintro e9 w3 ⟨rfl, hb⟩)
                    go_roundg (gk - 1)
                    case measure => omega
                    case rel => exact ⟨i + 1, by omega, by go_num, hA2, hbr.trans (hb.mono hbr.size)⟩
                   ·have S5 := no (by rw [HN2.out]; simp [q3])
                    have f3 : ((g : Int) != (i : Int)) = true := by simp; omega
                    clear hA HN2 no q3
                    have hc9 : c = 5 := by rw [← hc.out]; exact checkE_5 S1.out S2.out S3.out S4.out S5.out
                    subst hc9
                    clear hc
                    go_wp2_with (go_at_call 37; refine (hP _ hE).mono ?_; rintro e9 w3 ⟨rfl, hb⟩)
                    go_ret2
                    exact ⟨rfl, hbf.trans (hb.mono hbf.size)⟩
                  ·as_aux_lemma =>
                   have hz : ¬ (i : Int) < (e.nodes.length : Int) := by omega
                   have S5 : Hid (numsE e.nodes = true) := Lib.hid (by rw [numsE_eq]; exact List.all_eq_true.2 fun k hk => hA.out k (by have := List.mem_range.1 hk; omega))
                   clear hA
                   obtain ⟨w3, hwN⟩ : ∃ x, x = wr := ⟨_, rfl⟩
                   subst hwN
                   have ee5 := hbe.cell 5 _ rfl
                   obtain ⟨w4, hwE⟩ : ∃ W, W = w3.alloc (.cells #[.string ⟨#[109, 111, 100, 101]⟩, .string ⟨#[102, 101, 97, 116, 117, 114, 101]⟩, .string ⟨#[118, 97, 108, 117, 101]⟩, .string ⟨#[107, 105, 100]⟩] 9) := ⟨_, rfl⟩
                   have hb : Below w3.heap.size w3 w4 := by rw [hwE]; exact (Below.refl _ w3).alloc (Nat.le_refl _) _
                   obtain ⟨pw, hpE⟩ : ∃ p, p = w3.heap.size := ⟨_, rfl⟩
                   have hbw : BoxL w4 pw [.string ⟨#[109, 111, 100, 101]⟩, .string ⟨#[102, 101, 97, 116, 117, 114, 101]⟩, .string ⟨#[118, 97, 108, 117, 101]⟩, .string ⟨#[107, 105, 100]⟩] := by rw [hwE, hpE]; exact BoxL.new w3 _ _
                   have HW := Lib.hid hwE; clear hwE
                   go_upto_region 22 with fail
                   rw [← HW.out, ← hpE]
                   clear HW hpE ee5
                   replace hbe := hbe.kept hb
                   replace hE := hE.below hb
                   replace hbf := hbf.trans (hb.mono hbf.size)
                   replace hbT := hbT.trans (hb.mono hbT.size)
                   clear hb
                   go_wp2_with fail
                   go_loopg [9] 4 (fun gg qv wr => ∃ (q : Nat), q + gg = 4 ∧ qv = .int .i64 (q : Int) ∧ Hid (∀ j, j < q → ∀ k, k < e.nodes.length → goodN e j e.nodes[k]! = true) ∧ Below w4.heap.size w4 wr)
                   case atStart => exact ⟨0, by omega, rfl, Lib.hid (fun j hj => absurd hj (Nat.not_lt_zero _)), Below.refl _ _⟩
                   case round =>
                    obtain ⟨q, hq, rfl, hG, hbr⟩ := hrel
                    replace hbe := hbe.kept hbr
                    replace hbw := hbw.kept hbr
                    replace hE := hE.below hbr
                    replace hbf := hbf.trans (hbr.mono hbf.size)
                    replace hbT := hbT.trans (hbr.mono hbT.size)
                    obtain ⟨gq, hgq⟩ : ∃ go, go = gk := ⟨_, rfl⟩
                    subst hgq
                    obtain ⟨w5, hwN⟩ : ∃ x, x = wr := ⟨_, rfl⟩
                    subst hwN
                    have hbq := hbr
                    clear hbr
                    have hq4 : q = 0 ∨ q = 1 ∨ q = 2 ∨ q = 3 ∨ q = 4 := by omega
                    rcases hq4 with rfl | rfl | rfl | rfl | rfl
                    ·as_aux_lemma =>
                     have ee5 := hbe.cell 5 _ rfl
                     go_wp2_with fail
                     go_loopg [10] e.nodes.length (fun gg iv wr => ∃ (i : Nat), i + gg = e.nodes.length ∧ iv = .int .i64 (i : Int) ∧ Hid (∀ k, k < i → goodN e 0 e.nodes[k]! = true) ∧ Below w5.heap.size w5 wr)
                     case atStart => exact ⟨0, by omega, rfl, Lib.hid (fun k hk => absurd hk (Nat.not_lt_zero _)), Below.refl _ _⟩
                     case round =>
                      clear ee5
                      obtain ⟨i, hi, rfl, hA, hbr⟩ := hrel
                      replace hbe := hbe.kept hbr
                      replace hbw := hbw.kept hbr
                      replace hE := hE.below hbr
                      replace hbf := hbf.trans (hbr.mono hbf.size)
                      replace hbT := hbT.trans (hbr.mono hbT.size)
                      by_cases hil : i < e.nodes.length
                      ·have hz : (i : Int) < (e.nodes.length : Int) := by omega
                       have hz0 : (0 : Int) ≤ (i : Int) := by omega
                       obtain ⟨nb, noff, rfl⟩ := h2.addr hil
                       obtain ⟨y, hy⟩ : ∃ y, e.nodes[i] = y := ⟨_, rfl⟩
                       have hyw := h8 y (by rw [← hy]; exact List.getElem_mem hil)
                       obtain ⟨c0, c1, c2, c3, c4, c5, c6, c7⟩ := (NdAt.of hE.nodes hil hy).c8
                       have HY : Hid (e.nodes[i]! = y) := Lib.hid (by rw [getElem!_pos e.nodes i hil, hy])
                       clear hy
                       have ee5 := hbe.cell 5 _ rfl
                       obtain ⟨v2, hwE, hb, px, hpE, hbx⟩ := boxN wr y
                       have HW := Lib.hid hwE; clear hwE
                       go_upto_region 29 with fail
                       rw [← HW.out, ← hpE]
                       clear HW hpE c0 c1 c2 c3 c4 c5 c6 c7 ee5
                       replace hbe := hbe.kept hb
                       replace hE := hE.below hb
                       replace hbr := hbr.trans (hb.mono hbr.size)
                       replace hbf := hbf.trans (hb.mono hbf.size)
                       replace hbT := hbT.trans (hb.mono hbT.size)
                       have hbw2 := hbw.kept hb
                       clear hb
                       obtain ⟨ex0, ex1, ex2, ex3, ex4, ex5, ex6, ex7⟩ := hbx.c8
                       rcases Decidable.em (y.mode < 1) with q1 | q1
                       ·have f7 : (y.mode != 7) = true := by rw [bne_iff_ne]; omega
                        have hbad : goodN e 0 e.nodes[i]! = false := by rw [HY.out]; simp [goodN]; omega
                        have hc9 : c = 6 := by rw [← hc.out]; exact checkE_6 S1.out S2.out S3.out S4.out S5.out (not_true good_0 (good_bad hil hbad))
                        subst hc9
                        clear hc hA hG hbad
                        have ew := hbw2.cell 0 _ rfl
                        go_wp2_with fail
                        go_ret2
                        exact ⟨rfl, hbf⟩
                       rcases Decidable.em (y.mode > 7) with q2 | q2
                       ·have f7 : (y.mode != 7) = true := by rw [bne_iff_ne]; omega
                        have hbad : goodN e 0 e.nodes[i]! = false := by rw [HY.out]; simp [goodN]; omega
                        have hc9 : c = 6 := by rw [← hc.out]; exact checkE_6 S1.out S2.out S3.out S4.out S5.out (not_true good_0 (good_bad hil hbad))
                        subst hc9
                        clear hc hA hG hbad
                        have ew := hbw2.cell 0 _ rfl
                        go_wp2_with fail
                        go_ret2
                        exact ⟨rfl, hbf⟩
                       rcases Decidable.em (y.mode = 7) with q3 | q3
                       ·have f7 : (y.mode != 7) = false := by simp [q3]
                        have hA2 : Hid (∀ k, k < i + 1 → goodN e 0 e.nodes[k]! = true) := Lib.hid (fun k hk => by
                          by_cases e9 : k = i
                          ·rw [e9, HY.out]; simp [goodN]; omega
                          ·exact hA.out k (by omega))
                        clear q3
                        go_wp2_with fail
                        go_roundg (gk - 1)
                        case measure => omega
                        case rel => exact ⟨i + 1, by omega, by go_num, hA2, hbr⟩
                       ·have f7 : (y.mode != 7) = true := by simp [q3]
                        have hA2 : Hid (∀ k, k < i + 1 → goodN e 0 e.nodes[k]! = true) := Lib.hid (fun k hk => by
                          by_cases e9 : k = i
                          ·rw [e9, HY.out]; simp [goodN]; omega
                          ·exact hA.out k (by omega))
                        clear q3
                        go_wp2_with fail
                        go_roundg (gk - 1)
                        case measure => omega
                        case rel => exact ⟨i + 1, by omega, by go_num, hA2, hbr⟩
                      ·have hz : ¬ (i : Int) < (e.nodes.length : Int) := by omega
                       have ee5 := hbe.cell 5 _ rfl
                       have hG2 : Hid (∀ j, j < 0 + 1 → ∀ k, k < e.nodes.length → goodN e j e.nodes[k]! = true) := Lib.hid (fun j hj k hk => by
                        by_cases e9 : j = 0
                        ·rw [e9]; exact hA.out k (by omega)
                        ·exact hG.out j (by omega) k hk)
                       clear hA hG
                       go_wp2_with fail
                       go_roundg (gq - 1)
                       case measure => omega
                       case rel => exact ⟨0 + 1, by omega, by first | rfl | go_num, hG2, hbq.trans (hbr.mono hbq.size)⟩
                    ·as_aux_lemma =>
                     have ee5 := hbe.cell 5 _ rfl
                     go_wp2_with fail
                     go_loopg [10] e.nodes.length (fun gg iv wr => ∃ (i : Nat), i + gg = e.nodes.length ∧ iv = .int .i64 (i : Int) ∧ Hid (∀ k, k < i → goodN e 1 e.nodes[k]! = true) ∧ Below w5.heap.size w5 wr)
                     case atStart => exact ⟨0, by omega, rfl, Lib.hid (fun k hk => absurd hk (Nat.not_lt_zero _)), Below.refl _ _⟩
                     case round =>
                      clear ee5
                      obtain ⟨i, hi, rfl, hA, hbr⟩ := hrel
                      replace hbe := hbe.kept hbr
                      replace hbw := hbw.kept hbr
                      replace hE := hE.below hbr
                      replace hbf := hbf.trans (hbr.mono hbf.size)
                      replace hbT := hbT.trans (hbr.mono hbT.size)
                      by_cases hil : i < e.nodes.length
                      ·have hz : (i : Int) < (e.nodes.length : Int) := by omega
                       have hz0 : (0 : Int) ≤ (i : Int) := by omega
                       obtain ⟨nb, noff, rfl⟩ := h2.addr hil
                       obtain ⟨y, hy⟩ : ∃ y, e.nodes[i] = y := ⟨_, rfl⟩
                       have hyw := h8 y (by rw [← hy]; exact List.getElem_mem hil)
                       obtain ⟨c0, c1, c2, c3, c4, c5, c6, c7⟩ := (NdAt.of hE.nodes hil hy).c8
                       have HY : Hid (e.nodes[i]! = y) := Lib.hid (by rw [getElem!_pos e.nodes i hil, hy])
                       clear hy
                       have ee5 := hbe.cell 5 _ rfl
                       obtain ⟨v2, hwE, hb, px, hpE, hbx⟩ := boxN wr y
                       have HW := Lib.hid hwE; clear hwE
                       go_upto_region 29 with fail
                       rw [← HW.out, ← hpE]
                       clear HW hpE c0 c1 c2 c3 c4 c5 c6 c7 ee5
                       replace hbe := hbe.kept hb
                       replace hE := hE.below hb
                       replace hbr := hbr.trans (hb.mono hbr.size)
                       replace hbf := hbf.trans (hb.mono hbf.size)
                       replace hbT := hbT.trans (hb.mono hbT.size)
                       have hbw2 := hbw.kept hb
                       clear hb
                       obtain ⟨ex0, ex1, ex2, ex3, ex4, ex5, ex6, ex7⟩ := hbx.c8
                       have ee0 := hbe.cell 0 _ rfl
                       rcases Decidable.em (y.mode = 7) with q3 | q3
                       ·have f7 : (y.mode != 7) = false := by simp [q3]
                        have hA2 : Hid (∀ k, k < i + 1 → goodN e 1 e.nodes[k]! = true) := Lib.hid (fun k hk => by
                          by_cases e9 : k = i
                          ·rw [e9, HY.out]; simp [goodN, q3]
                          ·exact hA.out k (by omega))
                        clear q3
                        go_wp2_with fail
                        go_roundg (gk - 1)
                        case measure => omega
                        case rel => exact ⟨i + 1, by omega, by go_num, hA2, hbr⟩
                       have f7 : (y.mode != 7) = true := by simp [q3]
                       rcases Decidable.em (y.feat < 0) with q1 | q1
                       ·skip
                        have hbad : goodN e 1 e.nodes[i]! = false := by rw [HY.out]; simp [goodN, q3]; omega
                        have hc9 : c = 7 := by rw [← hc.out]; exact checkE_7 S1.out S2.out S3.out S4.out S5.out (good_0.1 (hG.out 0 (by omega))) (not_true good_1 (good_bad hil hbad))
                        subst hc9
                        clear hc hA hG hbad
                        clear q3
                        have ew := hbw2.cell 1 _ rfl
                        go_wp2_with fail
                        go_ret2
                        exact ⟨rfl, hbf⟩
                       rcases Decidable.em (y.feat ≥ e.feats) with q2 | q2
                       ·skip
                        have hbad : goodN e 1 e.nodes[i]! = false := by rw [HY.out]; simp [goodN, q3]; omega
                        have hc9 : c = 7 := by rw [← hc.out]; exact checkE_7 S1.out S2.out S3.out S4.out S5.out (good_0.1 (hG.out 0 (by omega))) (not_true good_1 (good_bad hil hbad))
                        subst hc9
                        clear hc hA hG hbad
                        clear q3
                        have ew := hbw2.cell 1 _ rfl
                        go_wp2_with fail
                        go_ret2
                        exact ⟨rfl, hbf⟩
                       have hA2 : Hid (∀ k, k < i + 1 → goodN e 1 e.nodes[k]! = true) := Lib.hid (fun k hk => by
                         by_cases e9 : k = i
                         ·rw [e9, HY.out]; simp [goodN, q3]; omega
                         ·exact hA.out k (by omega))
                       clear q3
                       go_wp2_with fail
                       go_roundg (gk - 1)
                       case measure => omega
                       case rel => exact ⟨i + 1, by omega, by go_num, hA2, hbr⟩
                      ·have hz : ¬ (i : Int) < (e.nodes.length : Int) := by omega
                       have ee5 := hbe.cell 5 _ rfl
                       have hG2 : Hid (∀ j, j < 1 + 1 → ∀ k, k < e.nodes.length → goodN e j e.nodes[k]! = true) := Lib.hid (fun j hj k hk => by
                        by_cases e9 : j = 1
                        ·rw [e9]; exact hA.out k (by omega)
                        ·exact hG.out j (by omega) k hk)
                       clear hA hG
                       go_wp2_with fail
                       go_roundg (gq - 1)
                       case measure => omega
                       case rel => exact ⟨1 + 1, by omega, by first | rfl | go_num, hG2, hbq.trans (hbr.mono hbq.size)⟩
                    ·as_aux_lemma =>
                     have ee5 := hbe.cell 5 _ rfl
                     go_wp2_with fail
                     go_loopg [10] e.nodes.length (fun gg iv wr => ∃ (i : Nat), i + gg = e.nodes.length ∧ iv = .int .i64 (i : Int) ∧ Hid (∀ k, k < i → goodN e 2 e.nodes[k]! = true) ∧ Below w5.heap.size w5 wr)
                     case atStart => exact ⟨0, by omega, rfl, Lib.hid (fun k hk => absurd hk (Nat.not_lt_zero _)), Below.refl _ _⟩
                     case round =>
                      clear ee5
                      obtain ⟨i, hi, rfl, hA, hbr⟩ := hrel
                      replace hbe := hbe.kept hbr
                      replace hbw := hbw.kept hbr
                      replace hE := hE.below hbr
                      replace hbf := hbf.trans (hbr.mono hbf.size)
                      replace hbT := hbT.trans (hbr.mono hbT.size)
                      by_cases hil : i < e.nodes.length
                      ·have hz : (i : Int) < (e.nodes.length : Int) := by omega
                       have hz0 : (0 : Int) ≤ (i : Int) := by omega
                       obtain ⟨nb, noff, rfl⟩ := h2.addr hil
                       obtain ⟨y, hy⟩ : ∃ y, e.nodes[i] = y := ⟨_, rfl⟩
                       have hyw := h8 y (by rw [← hy]; exact List.getElem_mem hil)
                       obtain ⟨c0, c1, c2, c3, c4, c5, c6, c7⟩ := (NdAt.of hE.nodes hil hy).c8
                       have HY : Hid (e.nodes[i]! = y) := Lib.hid (by rw [getElem!_pos e.nodes i hil, hy])
                       clear hy
                       have ee5 := hbe.cell 5 _ rfl
                       obtain ⟨v2, hwE, hb, px, hpE, hbx⟩ := boxN wr y
                       have HW := Lib.hid hwE; clear hwE
                       go_upto_region 29 with fail
                       rw [← HW.out, ← hpE]
                       clear HW hpE c0 c1 c2 c3 c4 c5 c6 c7 ee5
                       replace hbe := hbe.kept hb
                       replace hE := hE.below hb
                       replace hbr := hbr.trans (hb.mono hbr.size)
                       replace hbf := hbf.trans (hb.mono hbf.size)
                       replace hbT := hbT.trans (hb.mono hbT.size)
                       have hbw2 := hbw.kept hb
                       clear hb
                       obtain ⟨ex0, ex1, ex2, ex3, ex4, ex5, ex6, ex7⟩ := hbx.c8
                       have hv64 := hyw.v
                       rcases Decidable.em ((y.val : Int) ≥ 4294967296) with q1 | q1
                       ·rcases Decidable.em (y.mode = 7) with q3 | q3
                        ·have f7 : (y.mode != 7) = false := by simp [q3]
                         have hbad : goodN e 2 e.nodes[i]! = false := by rw [HY.out]; simp [goodN, q3]; omega
                         have hc9 : c = 8 := by rw [← hc.out]; exact checkE_8 S1.out S2.out S3.out S4.out S5.out (good_0.1 (hG.out 0 (by omega))) (good_1.1 (hG.out 1 (by omega))) (bad_8 (good_bad hil hbad))
                         subst hc9
                         clear hc hA hG hbad
                         clear q3
                         have ew := hbw2.cell 2 _ rfl
                         go_wp2_with fail
                         go_ret2
                         exact ⟨rfl, hbf⟩
                        ·have f7 : (y.mode != 7) = true := by simp [q3]
                         have hbad : goodN e 2 e.nodes[i]! = false := by rw [HY.out]; simp [goodN, q3]; omega
                         have hc9 : c = 8 := by rw [← hc.out]; exact checkE_8 S1.out S2.out S3.out S4.out S5.out (good_0.1 (hG.out 0 (by omega))) (good_1.1 (hG.out 1 (by omega))) (bad_8 (good_bad hil hbad))
                         subst hc9
                         clear hc hA hG hbad
                         clear q3
                         have ew := hbw2.cell 2 _ rfl
                         go_wp2_with fail
                         go_ret2
                         exact ⟨rfl, hbf⟩
                       rcases Decidable.em (y.mode = 7) with q3 | q3
                       ·have f7 : (y.mode != 7) = false := by simp [q3]
                        have hA2 : Hid (∀ k, k < i + 1 → goodN e 2 e.nodes[k]! = true) := Lib.hid (fun k hk => by
                          by_cases e9 : k = i
                          ·rw [e9, HY.out]; simp [goodN, q3]; omega
                          ·exact hA.out k (by omega))
                        clear q3
                        go_wp2_with fail
                        go_roundg (gk - 1)
                        case measure => omega
                        case rel => exact ⟨i + 1, by omega, by go_num, hA2, hbr⟩
                       have f7 : (y.mode != 7) = true := by simp [q3]
                       obtain ⟨r, hr⟩ : ∃ r, finP y.val = r := ⟨_, rfl⟩
                       have hF := fun W => rfinite_any y.val r W hv64 (Lib.hid hr)
                       cases r with
                       | true =>
                        have hA2 : Hid (∀ k, k < i + 1 → goodN e 2 e.nodes[k]! = true) := Lib.hid (fun k hk => by
                          by_cases e9 : k = i
                          ·rw [e9, HY.out]; simp [goodN, q3, hr]; omega
                          ·exact hA.out k (by omega))
                        clear q3 hr
                        go_wp2_with (go_at_call 99; refine (hF _).mono ?_; rintro e9 w7 ⟨rfl, hb⟩)
                        go_roundg (gk - 1)
                        case measure => omega
                        case rel => exact ⟨i + 1, by omega, by go_num, hA2, hbr.trans (hb.mono hbr.size)⟩
                       | false =>
                        have hbad : goodN e 2 e.nodes[i]! = false := by rw [HY.out]; simp [goodN, q3, hr]
                        have hc9 : c = 8 := by rw [← hc.out]; exact checkE_8 S1.out S2.out S3.out S4.out S5.out (good_0.1 (hG.out 0 (by omega))) (good_1.1 (hG.out 1 (by omega))) (bad_8 (good_bad hil hbad))
                        subst hc9
                        clear hc hA hG hbad
                        clear q3 hr
                        have ew := hbw2.cell 2 _ rfl
                        have hlw := hbw2.lt
                        go_wp2_with (go_at_call 99; refine (hF _).mono ?_; rintro e9 w7 ⟨rfl, hb⟩; replace ew := (hb.cell (p := ⟨pw, 2, none⟩) hlw).trans ew)
                        go_ret2
                        exact ⟨rfl, hbf.trans (hb.mono hbf.size)⟩
                      ·have hz : ¬ (i : Int) < (e.nodes.length : Int) := by omega
                       have ee5 := hbe.cell 5 _ rfl
                       have hG2 : Hid (∀ j, j < 2 + 1 → ∀ k, k < e.nodes.length → goodN e j e.nodes[k]! = true) := Lib.hid (fun j hj k hk => by
                        by_cases e9 : j = 2
                        ·rw [e9]; exact hA.out k (by omega)
                        ·exact hG.out j (by omega) k hk)
                       clear hA hG
                       go_wp2_with fail
                       go_roundg (gq - 1)
                       case measure => omega
                       case rel => exact ⟨2 + 1, by omega, by first | rfl | go_num, hG2, hbq.trans (hbr.mono hbq.size)⟩
                    ·as_aux_lemma =>
                     have ee5 := hbe.cell 5 _ rfl
                     go_wp2_with fail
                     go_loopg [10] e.nodes.length (fun gg iv wr => ∃ (i : Nat), i + gg = e.nodes.length ∧ iv = .int .i64 (i : Int) ∧ Hid (∀ k, k < i → goodN e 3 e.nodes[k]! = true) ∧ Below w5.heap.size w5 wr)
                     case atStart => exact ⟨0, by omega, rfl, Lib.hid (fun k hk => absurd hk (Nat.not_lt_zero _)), Below.refl _ _⟩
                     case round =>
                      clear ee5
                      obtain ⟨i, hi, rfl, hA, hbr⟩ := hrel
                      replace hbe := hbe.kept hbr
                      replace hbw := hbw.kept hbr
                      replace hE := hE.below hbr
                      replace hbf := hbf.trans (hbr.mono hbf.size)
                      replace hbT := hbT.trans (hbr.mono hbT.size)
                      by_cases hil : i < e.nodes.length
                      ·have hz : (i : Int) < (e.nodes.length : Int) := by omega
                       have hz0 : (0 : Int) ≤ (i : Int) := by omega
                       obtain ⟨nb, noff, rfl⟩ := h2.addr hil
                       obtain ⟨y, hy⟩ : ∃ y, e.nodes[i] = y := ⟨_, rfl⟩
                       have hyw := h8 y (by rw [← hy]; exact List.getElem_mem hil)
                       obtain ⟨c0, c1, c2, c3, c4, c5, c6, c7⟩ := (NdAt.of hE.nodes hil hy).c8
                       have HY : Hid (e.nodes[i]! = y) := Lib.hid (by rw [getElem!_pos e.nodes i hil, hy])
                       clear hy
                       have ee5 := hbe.cell 5 _ rfl
                       obtain ⟨v2, hwE, hb, px, hpE, hbx⟩ := boxN wr y
                       have HW := Lib.hid hwE; clear hwE
                       go_upto_region 29 with fail
                       rw [← HW.out, ← hpE]
                       clear HW hpE c0 c1 c2 c3 c4 c5 c6 c7 ee5
                       replace hbe := hbe.kept hb
                       replace hE := hE.below hb
                       replace hbr := hbr.trans (hb.mono hbr.size)
                       replace hbf := hbf.trans (hb.mono hbf.size)
                       replace hbT := hbT.trans (hb.mono hbT.size)
                       have hbw2 := hbw.kept hb
                       clear hb
                       obtain ⟨ex0, ex1, ex2, ex3, ex4, ex5, ex6, ex7⟩ := hbx.c8
                       obtain ⟨ee0, ee1, ee2, ee3, ee4, ee5, ee6⟩ := hbe.c7
                       rcases Decidable.em (y.mode = 7) with q3 | q3
                       ·have f7 : (y.mode != 7) = false := by simp [q3]
                        have hA2 : Hid (∀ k, k < i + 1 → goodN e 3 e.nodes[k]! = true) := Lib.hid (fun k hk => by
                          by_cases e9 : k = i
                          ·rw [e9, HY.out]; simp [goodN, q3]
                          ·exact hA.out k (by omega))
                        clear q3
                        go_wp2_with fail
                        go_roundg (gk - 1)
                        case measure => omega
                        case rel => exact ⟨i + 1, by omega, by go_num, hA2, hbr⟩
                       have f7 : (y.mode != 7) = true := by simp [q3]
                       obtain ⟨ra, hra⟩ : ∃ r, fidx (findE e.nodes y.tree y.tru) = r := ⟨_, rfl⟩
                       have hPa := fun W h => rplace_any (ensV e bo bc (some ⟨nb, noff, none⟩) nc lo lc) e bo bc (some ⟨nb, noff, none⟩) nc lo lc y.tree y.tru ra W h (Lib.hid hra)
                       obtain ⟨rb, hrb⟩ : ∃ r, fidx (findE e.nodes y.tree y.fls) = r := ⟨_, rfl⟩
                       have hPb := fun W h => rplace_any (ensV e bo bc (some ⟨nb, noff, none⟩) nc lo lc) e bo bc (some ⟨nb, noff, none⟩) nc lo lc y.tree y.fls rb W h (Lib.hid hrb)
                       have sa := fidx_some (findE e.nodes y.tree y.tru)
                       rw [hra] at sa
                       have sb := fidx_some (findE e.nodes y.tree y.fls)
                       rw [hrb] at sb
                       have hlp := hbe.lt
                       have hlx := hbx.lt
                       rcases Decidable.em (ra < 0) with q1 | q1
                       ·have s9 := sa.1 q1
                        have hbad : goodN e 3 e.nodes[i]! = false := by rw [HY.out]; simp [goodN, q3, s9]
                        have hc9 : c = 9 := by rw [← hc.out]; exact checkE_9 S1.out S2.out S3.out S4.out S5.out (good_0.1 (hG.out 0 (by omega))) (good_1.1 (hG.out 1 (by omega))) (good_2.1 (hG.out 2 (by omega))) (not_true good_3 (good_bad hil hbad))
                        subst hc9
                        clear hc hA hG hbad
                        clear q3 s9 sa sb hra hrb
                        have ew := hbw2.cell 3 _ rfl
                        have hlw := hbw2.lt
                        go_wp2_with (first | (go_at_call 37; (with_reducible refine (hPa _ hE).mono ?_); rintro e9 w7 ⟨rfl, hb⟩; replace ee0 := (hb.cell (p := ⟨pe, 0, none⟩) hlp).trans ee0; replace ee1 := (hb.cell (p := ⟨pe, 1, none⟩) hlp).trans ee1; replace ee2 := (hb.cell (p := ⟨pe, 2, none⟩) hlp).trans ee2; replace ee3 := (hb.cell (p := ⟨pe, 3, none⟩) hlp).trans ee3; replace ee4 := (hb.cell (p := ⟨pe, 4, none⟩) hlp).trans ee4; replace ee5 := (hb.cell (p := ⟨pe, 5, none⟩) hlp).trans ee5; replace ee6 := (hb.cell (p := ⟨pe, 6, none⟩) hlp).trans ee6; replace ex0 := (hb.cell (p := ⟨px, 0, none⟩) hlx).trans ex0; replace ex5 := (hb.cell (p := ⟨px, 5, none⟩) hlx).trans ex5; replace ex6 := (hb.cell (p := ⟨px, 6, none⟩) hlx).trans ex6; replace ew := (hb.cell (p := ⟨pw, 3, none⟩) hlw).trans ew; replace hlw := Nat.lt_of_lt_of_le hlw hb.size; replace hlp := Nat.lt_of_lt_of_le hlp hb.size; replace hlx := Nat.lt_of_lt_of_le hlx hb.size; replace hE := hE.below hb; replace hbr := hbr.trans (hb.mono hbr.size); replace hbf := hbf.trans (hb.mono hbf.size); clear hb))
                        go_ret2
                        exact ⟨rfl, hbf⟩
                       rcases Decidable.em (rb < 0) with q2 | q2
                       ·have s9 := sb.1 q2
                        have hbad : goodN e 3 e.nodes[i]! = false := by rw [HY.out]; simp [goodN, q3, s9]
                        have hc9 : c = 9 := by rw [← hc.out]; exact checkE_9 S1.out S2.out S3.out S4.out S5.out (good_0.1 (hG.out 0 (by omega))) (good_1.1 (hG.out 1 (by omega))) (good_2.1 (hG.out 2 (by omega))) (not_true good_3 (good_bad hil hbad))
                        subst hc9
                        clear hc hA hG hbad
                        clear q3 s9 sa sb hra hrb
                        have ew := hbw2.cell 3 _ rfl
                        have hlw := hbw2.lt
                        go_wp2_with (first | (go_at_call 37; (with_reducible refine (hPa _ hE).mono ?_); rintro e9 w7 ⟨rfl, hb⟩; replace ee0 := (hb.cell (p := ⟨pe, 0, none⟩) hlp).trans ee0; replace ee1 := (hb.cell (p := ⟨pe, 1, none⟩) hlp).trans ee1; replace ee2 := (hb.cell (p := ⟨pe, 2, none⟩) hlp).trans ee2; replace ee3 := (hb.cell (p := ⟨pe, 3, none⟩) hlp).trans ee3; replace ee4 := (hb.cell (p := ⟨pe, 4, none⟩) hlp).trans ee4; replace ee5 := (hb.cell (p := ⟨pe, 5, none⟩) hlp).trans ee5; replace ee6 := (hb.cell (p := ⟨pe, 6, none⟩) hlp).trans ee6; replace ex0 := (hb.cell (p := ⟨px, 0, none⟩) hlx).trans ex0; replace ex5 := (hb.cell (p := ⟨px, 5, none⟩) hlx).trans ex5; replace ex6 := (hb.cell (p := ⟨px, 6, none⟩) hlx).trans ex6; replace ew := (hb.cell (p := ⟨pw, 3, none⟩) hlw).trans ew; replace hlw := Nat.lt_of_lt_of_le hlw hb.size; replace hlp := Nat.lt_of_lt_of_le hlp hb.size; replace hlx := Nat.lt_of_lt_of_le hlx hb.size; replace hE := hE.below hb; replace hbr := hbr.trans (hb.mono hbr.size); replace hbf := hbf.trans (hb.mono hbf.size); clear hb) | (go_at_call 37; (with_reducible refine (hPb _ hE).mono ?_); rintro e9 w7 ⟨rfl, hb⟩; replace ee0 := (hb.cell (p := ⟨pe, 0, none⟩) hlp).trans ee0; replace ee1 := (hb.cell (p := ⟨pe, 1, none⟩) hlp).trans ee1; replace ee2 := (hb.cell (p := ⟨pe, 2, none⟩) hlp).trans ee2; replace ee3 := (hb.cell (p := ⟨pe, 3, none⟩) hlp).trans ee3; replace ee4 := (hb.cell (p := ⟨pe, 4, none⟩) hlp).trans ee4; replace ee5 := (hb.cell (p := ⟨pe, 5, none⟩) hlp).trans ee5; replace ee6 := (hb.cell (p := ⟨pe, 6, none⟩) hlp).trans ee6; replace ex0 := (hb.cell (p := ⟨px, 0, none⟩) hlx).trans ex0; replace ex5 := (hb.cell (p := ⟨px, 5, none⟩) hlx).trans ex5; replace ex6 := (hb.cell (p := ⟨px, 6, none⟩) hlx).trans ex6; replace ew := (hb.cell (p := ⟨pw, 3, none⟩) hlw).trans ew; replace hlw := Nat.lt_of_lt_of_le hlw hb.size; replace hlp := Nat.lt_of_lt_of_le hlp hb.size; replace hlx := Nat.lt_of_lt_of_le hlx hb.size; replace hE := hE.below hb; replace hbr := hbr.trans (hb.mono hbr.size); replace hbf := hbf.trans (hb.mono hbf.size); clear hb))
                        go_ret2
                        exact ⟨rfl, hbf⟩
                       have s9 := sa.2 q1
                       have s8 := sb.2 q2
                       rcases Decidable.em (y.tru = y.fls) with q4 | q4
                       ·have f8 : (y.tru == y.fls) = true := by simp [q4]
                        have hbad : goodN e 3 e.nodes[i]! = false := by rw [HY.out]; simp [goodN, q3, q4]
                        have hc9 : c = 9 := by rw [← hc.out]; exact checkE_9 S1.out S2.out S3.out S4.out S5.out (good_0.1 (hG.out 0 (by omega))) (good_1.1 (hG.out 1 (by omega))) (good_2.1 (hG.out 2 (by omega))) (not_true good_3 (good_bad hil hbad))
                        subst hc9
                        clear hc hA hG hbad
                        clear q3 q4 s9 s8 sa sb hra hrb
                        have ew := hbw2.cell 3 _ rfl
                        have hlw := hbw2.lt
                        go_wp2_with (first | (go_at_call 37; (with_reducible refine (hPa _ hE).mono ?_); rintro e9 w7 ⟨rfl, hb⟩; replace ee0 := (hb.cell (p := ⟨pe, 0, none⟩) hlp).trans ee0; replace ee1 := (hb.cell (p := ⟨pe, 1, none⟩) hlp).trans ee1; replace ee2 := (hb.cell (p := ⟨pe, 2, none⟩) hlp).trans ee2; replace ee3 := (hb.cell (p := ⟨pe, 3, none⟩) hlp).trans ee3; replace ee4 := (hb.cell (p := ⟨pe, 4, none⟩) hlp).trans ee4; replace ee5 := (hb.cell (p := ⟨pe, 5, none⟩) hlp).trans ee5; replace ee6 := (hb.cell (p := ⟨pe, 6, none⟩) hlp).trans ee6; replace ex0 := (hb.cell (p := ⟨px, 0, none⟩) hlx).trans ex0; replace ex5 := (hb.cell (p := ⟨px, 5, none⟩) hlx).trans ex5; replace ex6 := (hb.cell (p := ⟨px, 6, none⟩) hlx).trans ex6; replace ew := (hb.cell (p := ⟨pw, 3, none⟩) hlw).trans ew; replace hlw := Nat.lt_of_lt_of_le hlw hb.size; replace hlp := Nat.lt_of_lt_of_le hlp hb.size; replace hlx := Nat.lt_of_lt_of_le hlx hb.size; replace hE := hE.below hb; replace hbr := hbr.trans (hb.mono hbr.size); replace hbf := hbf.trans (hb.mono hbf.size); clear hb) | (go_at_call 37; (with_reducible refine (hPb _ hE).mono ?_); rintro e9 w7 ⟨rfl, hb⟩; replace ee0 := (hb.cell (p := ⟨pe, 0, none⟩) hlp).trans ee0; replace ee1 := (hb.cell (p := ⟨pe, 1, none⟩) hlp).trans ee1; replace ee2 := (hb.cell (p := ⟨pe, 2, none⟩) hlp).trans ee2; replace ee3 := (hb.cell (p := ⟨pe, 3, none⟩) hlp).trans ee3; replace ee4 := (hb.cell (p := ⟨pe, 4, none⟩) hlp).trans ee4; replace ee5 := (hb.cell (p := ⟨pe, 5, none⟩) hlp).trans ee5; replace ee6 := (hb.cell (p := ⟨pe, 6, none⟩) hlp).trans ee6; replace ex0 := (hb.cell (p := ⟨px, 0, none⟩) hlx).trans ex0; replace ex5 := (hb.cell (p := ⟨px, 5, none⟩) hlx).trans ex5; replace ex6 := (hb.cell (p := ⟨px, 6, none⟩) hlx).trans ex6; replace ew := (hb.cell (p := ⟨pw, 3, none⟩) hlw).trans ew; replace hlw := Nat.lt_of_lt_of_le hlw hb.size; replace hlp := Nat.lt_of_lt_of_le hlp hb.size; replace hlx := Nat.lt_of_lt_of_le hlx hb.size; replace hE := hE.below hb; replace hbr := hbr.trans (hb.mono hbr.size); replace hbf := hbf.trans (hb.mono hbf.size); clear hb))
                        go_ret2
                        exact ⟨rfl, hbf⟩
                       ·have f8 : (y.tru == y.fls) = false := by simp [q4]
                        have hA2 : Hid (∀ k, k < i + 1 → goodN e 3 e.nodes[k]! = true) := Lib.hid (fun k hk => by
                          by_cases e9 : k = i
                          ·rw [e9, HY.out]; simp [goodN, q3, q4, s9, s8]
                          ·exact hA.out k (by omega))
                        clear q3 q4 s9 s8 sa sb hra hrb
                        go_wp2_with (first | (go_at_call 37; (with_reducible refine (hPa _ hE).mono ?_); rintro e9 w7 ⟨rfl, hb⟩; replace ee0 := (hb.cell (p := ⟨pe, 0, none⟩) hlp).trans ee0; replace ee1 := (hb.cell (p := ⟨pe, 1, none⟩) hlp).trans ee1; replace ee2 := (hb.cell (p := ⟨pe, 2, none⟩) hlp).trans ee2; replace ee3 := (hb.cell (p := ⟨pe, 3, none⟩) hlp).trans ee3; replace ee4 := (hb.cell (p := ⟨pe, 4, none⟩) hlp).trans ee4; replace ee5 := (hb.cell (p := ⟨pe, 5, none⟩) hlp).trans ee5; replace ee6 := (hb.cell (p := ⟨pe, 6, none⟩) hlp).trans ee6; replace ex0 := (hb.cell (p := ⟨px, 0, none⟩) hlx).trans ex0; replace ex5 := (hb.cell (p := ⟨px, 5, none⟩) hlx).trans ex5; replace ex6 := (hb.cell (p := ⟨px, 6, none⟩) hlx).trans ex6; replace hlp := Nat.lt_of_lt_of_le hlp hb.size; replace hlx := Nat.lt_of_lt_of_le hlx hb.size; replace hE := hE.below hb; replace hbr := hbr.trans (hb.mono hbr.size); replace hbf := hbf.trans (hb.mono hbf.size); clear hb) | (go_at_call 37; (with_reducible refine (hPb _ hE).mono ?_); rintro e9 w7 ⟨rfl, hb⟩; replace ee0 := (hb.cell (p := ⟨pe, 0, none⟩) hlp).trans ee0; replace ee1 := (hb.cell (p := ⟨pe, 1, none⟩) hlp).trans ee1; replace ee2 := (hb.cell (p := ⟨pe, 2, none⟩) hlp).trans ee2; replace ee3 := (hb.cell (p := ⟨pe, 3, none⟩) hlp).trans ee3; replace ee4 := (hb.cell (p := ⟨pe, 4, none⟩) hlp).trans ee4; replace ee5 := (hb.cell (p := ⟨pe, 5, none⟩) hlp).trans ee5; replace ee6 := (hb.cell (p := ⟨pe, 6, none⟩) hlp).trans ee6; replace ex0 := (hb.cell (p := ⟨px, 0, none⟩) hlx).trans ex0; replace ex5 := (hb.cell (p := ⟨px, 5, none⟩) hlx).trans ex5; replace ex6 := (hb.cell (p := ⟨px, 6, none⟩) hlx).trans ex6; replace hlp := Nat.lt_of_lt_of_le hlp hb.size; replace hlx := Nat.lt_of_lt_of_le hlx hb.size; replace hE := hE.below hb; replace hbr := hbr.trans (hb.mono hbr.size); replace hbf := hbf.trans (hb.mono hbf.size); clear hb))
                        go_roundg (gk - 1)
                        case measure => omega
                        case rel => exact ⟨i + 1, by omega, by go_num, hA2, hbr⟩
                      ·have hz : ¬ (i : Int) < (e.nodes.length : Int) := by omega
                       have ee5 := hbe.cell 5 _ rfl
                       have hG2 : Hid (∀ j, j < 3 + 1 → ∀ k, k < e.nodes.length → goodN e j e.nodes[k]! = true) := Lib.hid (fun j hj k hk => by
                        by_cases e9 : j = 3
                        ·rw [e9]; exact hA.out k (by omega)
                        ·exact hG.out j (by omega) k hk)
                       clear hA hG
                       go_wp2_with fail
                       go_roundg (gq - 1)
                       case measure => omega
                       case rel => exact ⟨3 + 1, by omega, by first | rfl | go_num, hG2, hbq.trans (hbr.mono hbq.size)⟩
                    ·as_aux_lemma =>
                     have S6 : Hid (everyE e.nodes true (fun n => decide (1 ≤ n.mode ∧ n.mode ≤ 7)) = true) := Lib.hid (good_0.1 (hG.out 0 (by omega)))
                     have S7 : Hid (everyE e.nodes false (fun n => decide (0 ≤ n.feat ∧ n.feat < e.feats)) = true) := Lib.hid (good_1.1 (hG.out 1 (by omega)))
                     have S8 : Hid (everyE e.nodes false (fun n => finP n.val) = true ∧ everyE e.nodes true (fun n => decide (n.val < 4294967296)) = true) := Lib.hid (good_2.1 (hG.out 2 (by omega)))
                     have S9 : Hid (kidE e.nodes = true) := Lib.hid (good_3.1 (hG.out 3 (by omega)))
                     clear hG hbw
                     have ee5 := hbe.cell 5 _ rfl
                     go_wp2_with fail
                     go_loopg [13] e.nodes.length (fun gg iv wr => ∃ (i : Nat), i + gg = e.nodes.length ∧ iv = .int .i64 (i : Int) ∧ Hid (∀ k, k < i → parR e.nodes e.nodes[k]!.tree e.nodes[k]!.node ≤ 1) ∧ Below w5.heap.size w5 wr)
                     case atStart => exact ⟨0, by omega, rfl, Lib.hid (fun k hk => absurd hk (Nat.not_lt_zero _)), Below.refl _ _⟩
                     case round =>
                      clear ee5
                      obtain ⟨i, hi, rfl, hA, hbr⟩ := hrel
                      replace hbe := hbe.kept hbr
                      replace hE := hE.below hbr
                      replace hbf := hbf.trans (hbr.mono hbf.size)
                      replace hbT := hbT.trans (hbr.mono hbT.size)
                      by_cases hil : i < e.nodes.length
                      ·have hz : (i : Int) < (e.nodes.length : Int) := by omega
                       have hz0 : (0 : Int) ≤ (i : Int) := by omega
                       obtain ⟨nb, noff, rfl⟩ := h2.addr hil
                       obtain ⟨y, hy⟩ : ∃ y, e.nodes[i] = y := ⟨_, rfl⟩
                       have hNd := NdAt.of hE.nodes hil hy
                       have HY : Hid (e.nodes[i]! = y) := Lib.hid (by rw [getElem!_pos e.nodes i hil, hy])
                       clear hy
                       obtain ⟨m, hm⟩ : ∃ m, parR e.nodes y.tree y.node = m := ⟨_, rfl⟩
                       have hP := fun W (h : EnsIs W (ensV e bo bc (some ⟨nb, noff, none⟩) nc lo lc) e bo bc (some ⟨nb, noff, none⟩) nc lo lc) => rparents_any _ e _ _ _ _ _ _ y.tree y.node m W h hlim (Lib.hid hm)
                       have ee5 := hbe.cell 5 _ rfl
                       go_upto_region 37 with fail
                       clear ee5
                       refine wp_region_seq (S := fun w' => BoxL w' pe [.int .i64 e.feats, .int .i64 e.tgts, .string ⟨e.agg.toArray⟩, .string ⟨e.post.toArray⟩, .slice bo e.base.length bc, .slice (some ⟨nb, noff, none⟩) e.nodes.length nc, .slice lo e.leaves.length lc] ∧ NdAt w' nb noff i y) [(true, 0), (true, 1), (true, 2), (true, 3), (true, 4), (true, 5), (true, 6), (true, 7), (true, 8), (true, 9), (true, 10), (true, 11), (true, 12), (false, 13), (true, 14)] (by kernel_rfl) (by kernel_rfl) (by kernel_rfl) (by kernel_rfl) (by kernel_rfl) (fun d _ _ _ _ h => by cases d <;> exact h) ⟨hbe.drew, hNd.drew⟩ (fun _ => ?_)
                       simp only [pickOps, List.append_eq, List.cons_append, List.nil_append, List.getElem?_toArray, List.getElem?_cons_succ, List.getElem?_cons_zero]
                       have hb : Below wr.heap.size wr wr.drew := (Below.refl _ _).drew
                       generalize wr.drew = wd at hb ⊢
                       replace hbe := hbe.kept hb
                       replace hE := hE.below hb
                       replace hNd := hNd.below hb
                       replace hbr := hbr.trans (hb.mono hbr.size)
                       replace hbf := hbf.trans (hb.mono hbf.size)
                       replace hbT := hbT.trans (hb.mono hbT.size)
                       clear hb
                       repeat (first | (refine seq_take (v := ?_) (by rfl) ?_ ?_; rotate_left; (· intro w hSw; (try dsimp only at hSw); obtain ⟨hL0, hN0⟩ := hSw; obtain ⟨ee0, ee1, ee2, ee3, ee4, ee5, ee6⟩ := hL0.c7; clear hL0; obtain ⟨c0, c1, c2, c3, c4, c5, c6, c7⟩ := hN0.c8; clear hN0; go_simp; all_goals with_reducible rfl); (try simp only [Act.put, List.setIfInBounds_toArray, List.set_cons_zero, List.set_cons_succ])) | (refine seq_leave (by rfl) ?_; (try simp only [Act.put, List.setIfInBounds_toArray, List.set_cons_zero, List.set_cons_succ])))
                       refine seq_step (by rfl) (fun K hK => ?_)
                       go_simp
                       go_at_call 100
                       (with_reducible refine (hP _ hE).mono ?_)
                       rintro e9 w7 ⟨rfl, hb⟩
                       replace hbe := hbe.kept hb
                       replace hE := hE.below hb
                       replace hNd := hNd.below hb
                       replace hbr := hbr.trans (hb.mono hbr.size)
                       replace hbf := hbf.trans (hb.mono hbf.size)
                       replace hbT := hbT.trans (hb.mono hbT.size)
                       clear hb
                       first | refine hK.out _ _ ⟨hbe, hNd⟩ (fun _ => ?_) | (go_wp2_with fail; refine hK.out _ _ ⟨hbe, hNd⟩ (fun _ => ?_))
                       clear hK K
                       (try simp only [Act.put, List.setIfInBounds_toArray, List.set_cons_zero, List.set_cons_succ])
                       repeat (first | (refine seq_take (v := ?_) (by rfl) ?_ ?_; rotate_left; (· intro w hSw; (try dsimp only at hSw); obtain ⟨hL0, hN0⟩ := hSw; obtain ⟨ee0, ee1, ee2, ee3, ee4, ee5, ee6⟩ := hL0.c7; clear hL0; obtain ⟨c0, c1, c2, c3, c4, c5, c6, c7⟩ := hN0.c8; clear hN0; go_simp; all_goals with_reducible rfl); (try simp only [Act.put, List.setIfInBounds_toArray, List.set_cons_zero, List.set_cons_succ])) | (refine seq_leave (by rfl) ?_; (try simp only [Act.put, List.setIfInBounds_toArray, List.set_cons_zero, List.set_cons_succ])))
                       refine seq_end ?_
                       rcases Decidable.em ((m : Int) > 1) with q1 | q1
                       ·have hP0 : parsR e.nodes = false := List.all_eq_false.2 ⟨i, List.mem_range.2 hil, by rw [HY.out, hm]; simp; omega⟩
                        have hc9 : c = 10 := by rw [← hc.out]; exact checkE_10 S1.out S2.out S3.out S4.out S5.out S6.out S7.out S8.out S9.out (by rw [← forest_two S5.out S9.out]; unfold forestR; rw [hP0]; rfl)
                        subst hc9
                        clear hP0 hm hA
                        clear hc
                        go_wp2_with fail
                        go_ret2
                        exact ⟨rfl, hbf⟩
                       ·have hA2 : Hid (∀ k, k < i + 1 → parR e.nodes e.nodes[k]!.tree e.nodes[k]!.node ≤ 1) := Lib.hid (fun k hk => by
                         by_cases e9 : k = i
                         ·rw [e9, HY.out, hm]; omega
                         ·exact hA.out k (by omega))
                        clear hA hm
                        go_wp2_with fail
                        go_roundg (gk - 1)
                        case measure => omega
                        case rel => exact ⟨i + 1, by omega, by go_num, hA2, hbr⟩
                      ·as_aux_lemma =>
                       have hz : ¬ (i : Int) < (e.nodes.length : Int) := by omega
                       have S10 : Hid (parsR e.nodes = true) := Lib.hid (List.all_eq_true.2 fun k hk => decide_eq_true (hA.out k (by have := List.mem_range.1 hk; omega)))
                       clear hA
                       obtain ⟨w6, hwN⟩ : ∃ x, x = wr := ⟨_, rfl⟩
                       subst hwN
                       have ee5 := hbe.cell 5 _ rfl
                       go_wp2_with fail
                       go_loopg [14] ts.length (fun gg iv wr => ∃ (i : Nat), i + gg = ts.length ∧ iv = .int .i64 (i : Int) ∧ Hid (∀ k, k < i → treeR e.nodes (ts[k]?.getD 0) = true) ∧ Below w6.heap.size w6 wr)
                       case atStart => exact ⟨0, by omega, rfl, Lib.hid (fun k hk => absurd hk (Nat.not_lt_zero _)), Below.refl _ _⟩
                       case round =>
                        clear ee5
                        obtain ⟨i, hi, rfl, hA, hbr⟩ := hrel
                        replace hbe := hbe.kept hbr
                        replace hE := hE.below hbr
                        replace hbf := hbf.trans (hbr.mono hbf.size)
                        replace hbT := hbT.trans (hbr.mono hbT.size)
                        by_cases hil : i < ts.length
                        ·as_aux_lemma =>
                         have hz : (i : Int) < (ts.length : Int) := by omega
                         have hz0 : (0 : Int) ≤ (i : Int) := by omega
                         obtain ⟨tb, toff, rfl, htb, htc⟩ := hI9.at'.2 i hil
                         obtain ⟨t, ht⟩ : ∃ t, ts[i]?.getD 0 = t := ⟨_, rfl⟩
                         rw [ht] at htc
                         have HTT := Lib.hid ht
                         clear ht
                         have htm : Hid (t ∈ treesE e.nodes) := Lib.hid (by rw [HTS.out, ← HTT.out, List.getElem?_eq_getElem hil]; exact List.getElem_mem hil)
                         replace htc := (hbT.cell (p := ⟨tb, toff + i, none⟩) htb).trans htc
                         have htl9 : tb < wr.heap.size := Nat.lt_of_lt_of_le htb hbT.size
                         obtain ⟨v6, hwN⟩ : ∃ x, x = wr := ⟨_, rfl⟩
                         subst hwN
                         have hbq := hbr
                         clear hbr
                         obtain ⟨gq, hgq⟩ : ∃ go, go = gk := ⟨_, rfl⟩
                         subst hgq
                         have ee5 := hbe.cell 5 _ rfl
                         go_wp2_with fail
                         go_loopg [15, 16, 17, 18] e.nodes.length (fun gg nv rv ov kv wr => ∃ (k n r o : Nat), k + gg = e.nodes.length ∧ kv = .int .i64 (k : Int) ∧ nv = .int .i64 (n : Int) ∧ rv = .int .i64 (r : Int) ∧ ov = .int .i64 (o : Int) ∧ Hid (cntK e.nodes t k = n ∧ (rtsK e.nodes t k).length = r ∧ (rtsK e.nodes t k).getLast?.getD 0 = o) ∧ n ≤ k ∧ r ≤ k ∧ Below v6.heap.size v6 wr)
                         case atStart => exact ⟨0, 0, 0, 0, by omega, rfl, rfl, rfl, rfl, Lib.hid ⟨rfl, rfl, rfl⟩, by omega, by omega, Below.refl _ _⟩
                         case round =>
                          clear ee5
                          obtain ⟨k, n, r, o, hk, rfl, rfl, rfl, rfl, hR, hnk, hrk, hbr⟩ := hrel
                          replace hbe := hbe.kept hbr
                          replace hE := hE.below hbr
                          replace htc := (hbr.cell (p := ⟨tb, toff + i, none⟩) htl9).trans htc
                          replace htl9 := Nat.lt_of_lt_of_le htl9 hbr.size
                          replace hbf := hbf.trans (hbr.mono hbf.size)
                          replace hbT := hbT.trans (hbr.mono hbT.size)
                          by_cases hkl : k < e.nodes.length
                          ·as_aux_lemma =>
                           have hkz : (k : Int) < (e.nodes.length : Int) := by omega
                           have hkz0 : (0 : Int) ≤ (k : Int) := by omega
                           obtain ⟨nb, noff, rfl⟩ := h2.addr hkl
                           obtain ⟨y, hy⟩ : ∃ y, e.nodes[k] = y := ⟨_, rfl⟩
                           have hNd := NdAt.of hE.nodes hkl hy
                           have HY : Hid (e.nodes[k]! = y) := Lib.hid (by rw [getElem!_pos e.nodes k hkl, hy])
                           clear hy
                           have ee5 := hbe.cell 5 _ rfl
                           go_upto_region 46 with fail
                           clear ee5
                           refine wp_region_seq (S := fun w' => BoxL w' pe [.int .i64 e.feats, .int .i64 e.tgts, .string ⟨e.agg.toArray⟩, .string ⟨e.post.toArray⟩, .slice bo e.base.length bc, .slice (some ⟨nb, noff, none⟩) e.nodes.length nc, .slice lo e.leaves.length lc] ∧ NdAt w' nb noff k y ∧ w'.cell? ⟨tb, toff + i, none⟩ = some (.int .i64 t)) [(true, 0), (true, 1), (true, 2), (true, 3), (true, 4), (true, 5), (true, 6), (true, 7), (true, 8), (true, 9), (true, 10)] (by as_aux_lemma => kernel_rfl) (by as_aux_lemma => kernel_rfl) (by as_aux_lemma => kernel_rfl) (by as_aux_lemma => kernel_rfl) (by as_aux_lemma => kernel_rfl) (fun d _ _ _ _ h => by cases d <;> exact h) ⟨hbe.drew, hNd.drew, (by first | exact htc | simpa using htc)⟩ (fun _ => ?_)
                           simp only [pickOps, List.append_eq, List.cons_append, List.nil_append, List.getElem?_toArray, List.getElem?_cons_succ, List.getElem?_cons_zero]
                           have hb : Below wr.heap.size wr wr.drew := (Below.refl _ _).drew
                           generalize wr.drew = wd at hb ⊢
                           replace hbe := hbe.kept hb
                           replace hE := hE.below hb
                           replace hNd := hNd.below hb
                           replace hbr := hbr.trans (hb.mono hbr.size)
                           replace hbf := hbf.trans (hb.mono hbf.size)
                           replace hbT := hbT.trans (hb.mono hbT.size)
                           replace htc := (hb.cell (p := ⟨tb, toff + i, none⟩) htl9).trans htc
                           replace htl9 := Nat.lt_of_lt_of_le htl9 hb.size
                           clear hb
                           repeat (first | (refine seq_take (v := ?_) (by rfl) ?_ ?_; rotate_left; (· intro w hSw; (try dsimp only at hSw); obtain ⟨hL0, hN0, ecx⟩ := hSw; obtain ⟨ee0, ee1, ee2, ee3, ee4, ee5, ee6⟩ := hL0.c7; clear hL0; obtain ⟨c0, c1, c2, c3, c4, c5, c6, c7⟩ := hN0.c8; clear hN0; go_simp; all_goals with_reducible rfl); (try simp only [Act.put, List.setIfInBounds_toArray, List.set_cons_zero, List.set_cons_succ])) | (refine seq_leave (by rfl) ?_; (try simp only [Act.put, List.setIfInBounds_toArray, List.set_cons_zero, List.set_cons_succ])))
                           refine seq_end ?_
                           rcases Decidable.em (y.tree = t) with q1 | q1
                           ·have f1 : (y.tree == t) = true := by simp [q1]
                            obtain ⟨m, hm⟩ : ∃ m, parR e.nodes t y.node = m := ⟨_, rfl⟩
                            have hP := fun W (h : EnsIs W (ensV e bo bc (some ⟨nb, noff, none⟩) nc lo lc) e bo bc (some ⟨nb, noff, none⟩) nc lo lc) => rparents_any _ e _ _ _ _ _ _ t y.node m W h hlim (Lib.hid hm)
                            go_upto_region 48 with fail
                            generalize hwd : wd = we at *
                            clear hwd
                            refine wp_region_seq (S := fun w' => BoxL w' pe [.int .i64 e.feats, .int .i64 e.tgts, .string ⟨e.agg.toArray⟩, .string ⟨e.post.toArray⟩, .slice bo e.base.length bc, .slice (some ⟨nb, noff, none⟩) e.nodes.length nc, .slice lo e.leaves.length lc] ∧ NdAt w' nb noff k y ∧ w'.cell? ⟨tb, toff + i, none⟩ = some (.int .i64 t)) [(true, 0), (true, 1), (true, 2), (true, 3), (true, 4), (true, 5), (true, 6), (true, 7), (true, 8), (true, 9), (true, 10), (false, 11), (true, 12)] (by as_aux_lemma => kernel_rfl) (by as_aux_lemma => kernel_rfl) (by as_aux_lemma => kernel_rfl) (by as_aux_lemma => kernel_rfl) (by as_aux_lemma => kernel_rfl) (fun d _ _ _ _ h => by cases d <;> exact h) ⟨hbe.drew, hNd.drew, (by first | exact htc | simpa using htc)⟩ (fun _ => ?_)
                            simp only [pickOps, List.append_eq, List.cons_append, List.nil_append, List.getElem?_toArray, List.getElem?_cons_succ, List.getElem?_cons_zero]
                            have hb : Below we.heap.size we we.drew := (Below.refl _ _).drew
                            generalize we.drew = wd at hb ⊢
                            replace hbe := hbe.kept hb
                            replace hE := hE.below hb
                            replace hNd := hNd.below hb
                            replace hbr := hbr.trans (hb.mono hbr.size)
                            replace hbf := hbf.trans (hb.mono hbf.size)
                            replace hbT := hbT.trans (hb.mono hbT.size)
                            replace htc := (hb.cell (p := ⟨tb, toff + i, none⟩) htl9).trans htc
                            replace htl9 := Nat.lt_of_lt_of_le htl9 hb.size
                            clear hb
                            repeat (first | (refine seq_take (v := ?_) (by rfl) ?_ ?_; rotate_left; (· intro w hSw; (try dsimp only at hSw); obtain ⟨hL0, hN0, ecx⟩ := hSw; obtain ⟨ee0, ee1, ee2, ee3, ee4, ee5, ee6⟩ := hL0.c7; clear hL0; obtain ⟨c0, c1, c2, c3, c4, c5, c6, c7⟩ := hN0.c8; clear hN0; go_simp; all_goals with_reducible rfl); (try simp only [Act.put, List.setIfInBounds_toArray, List.set_cons_zero, List.set_cons_succ])) | (refine seq_leave (by rfl) ?_; (try simp only [Act.put, List.setIfInBounds_toArray, List.set_cons_zero, List.set_cons_succ])))
                            refine seq_step (by rfl) (fun K hK => ?_)
                            go_simp
                            go_at_call 100
                            (with_reducible refine (hP _ hE).mono ?_)
                            rintro e9 w7 ⟨rfl, hb⟩
                            replace hbe := hbe.kept hb
                            replace hE := hE.below hb
                            replace hNd := hNd.below hb
                            replace hbr := hbr.trans (hb.mono hbr.size)
                            replace hbf := hbf.trans (hb.mono hbf.size)
                            replace hbT := hbT.trans (hb.mono hbT.size)
                            replace htc := (hb.cell (p := ⟨tb, toff + i, none⟩) htl9).trans htc
                            replace htl9 := Nat.lt_of_lt_of_le htl9 hb.size
                            clear hb
                            first | refine hK.out _ _ ⟨hbe, hNd, (by first | exact htc | simpa using htc)⟩ (fun _ => ?_) | (go_wp2_with fail; refine hK.out _ _ ⟨hbe, hNd, (by first | exact htc | simpa using htc)⟩ (fun _ => ?_))
                            clear hK K
                            (try simp only [Act.put, List.setIfInBounds_toArray, List.set_cons_zero, List.set_cons_succ])
                            repeat (first | (refine seq_take (v := ?_) (by rfl) ?_ ?_; rotate_left; (· intro w hSw; (try dsimp only at hSw); obtain ⟨hL0, hN0, ecx⟩ := hSw; obtain ⟨ee0, ee1, ee2, ee3, ee4, ee5, ee6⟩ := hL0.c7; clear hL0; obtain ⟨c0, c1, c2, c3, c4, c5, c6, c7⟩ := hN0.c8; clear hN0; go_simp; all_goals with_reducible rfl); (try simp only [Act.put, List.setIfInBounds_toArray, List.set_cons_zero, List.set_cons_succ])) | (refine seq_leave (by rfl) ?_; (try simp only [Act.put, List.setIfInBounds_toArray, List.set_cons_zero, List.set_cons_succ])))
                            refine seq_end ?_
                            rcases Decidable.em (m = 0) with q2 | q2
                            ·have f2 : ((m : Int) == 0) = true := by simp [q2]
                             have hR2 := Lib.hid (rts_yes (ns := e.nodes) (t := t) (k := k) hR.out (by rw [HY.out]; exact q1) (by rw [HY.out, hm]; exact q2))
                             clear hR q1 q2 hm
                             go_wp2_with fail
                             go_roundg (gk - 1)
                             case measure => omega
                             case rel => exact ⟨k + 1, n + 1, r + 1, k, by omega, by go_num, by go_num, by go_num, rfl, hR2, by omega, by omega, hbr⟩
                            ·have f2 : ((m : Int) == 0) = false := by rw [beq_eq_false_iff_ne]; omega
                             have hR2 := Lib.hid (rts_no (ns := e.nodes) (t := t) (k := k) hR.out (by rw [HY.out]; exact q1) (by rw [HY.out, hm]; exact q2))
                             clear hR q1 q2 hm
                             go_wp2_with fail
                             go_roundg (gk - 1)
                             case measure => omega
                             case rel => exact ⟨k + 1, n + 1, r, o, by omega, by go_num, by go_num, rfl, rfl, hR2, by omega, by omega, hbr⟩
                           ·have f1 : (y.tree == t) = false := by simp [q1]
                            have hR2 := Lib.hid (rts_off (ns := e.nodes) (t := t) (k := k) hR.out (by rw [HY.out]; exact q1))
                            clear hR q1
                            go_wp2_with fail
                            go_roundg (gk - 1)
                            case measure => omega
                            case rel => exact ⟨k + 1, n, r, o, by omega, by go_num, rfl, rfl, rfl, hR2, by omega, by omega, hbr⟩
                          ·as_aux_lemma =>
                           have hkz : ¬ (k : Int) < (e.nodes.length : Int) := by omega
                           obtain rfl : k = e.nodes.length := by omega
                           obtain ⟨hr1, hr2, hr3⟩ := hR.out
                           have HR := hR
                           clear hR
                           have ee5 := hbe.cell 5 _ rfl
                           rcases Decidable.em (r = 1) with q1 | q1
                           ·have f1 : ((r : Int) != 1) = false := by simp [q1]
                            have hol : o < e.nodes.length := by
                             have h9 : (rtsK e.nodes t e.nodes.length).length = 1 := hr2.trans q1
                             obtain ⟨x, hx⟩ := List.length_eq_one_iff.1 h9
                             rw [hx] at hr3
                             have h10 : x ∈ rtsK e.nodes t e.nodes.length := by rw [hx]; simp
                             have h11 := List.mem_range.1 (List.mem_filter.1 h10).1
                             have h12 : x = o := by simpa using hr3
                             omega
                            obtain ⟨⟨Aq, Dq⟩, hAD⟩ : ∃ x, reachE e.nodes 40 o = x := ⟨_, rfl⟩
                            have hAl := reach_lim e.nodes 40 o
                            have hDl := reach_le e.nodes 40 o
                            rw [hAD] at hAl hDl
                            simp only at hAl hDl
                            have hRe := fun W h => rreached_any (ensV e bo bc no nc lo lc) e bo bc no nc lo lc (num_ok S5.out S9.out) 40 (Nat.le_refl _) o Aq Dq W h hol (Lib.hid hAD)
                            have e40 : ((40 : Nat) : Int) = 40 := rfl
                            rw [e40] at hRe
                            clear e40
                            have HTR : Hid (treeR e.nodes t = (decide (Aq = n) && decide (Dq ≤ 40))) := Lib.hid (by
                             unfold treeR
                             rw [show rootsR e.nodes t = rtsK e.nodes t e.nodes.length from rfl, hr2, hr3, hAD, show cntTr e.nodes t = cntK e.nodes t e.nodes.length from rfl, hr1, q1]
                             simp)
                            clear q1 hr1 hr2 hr3 hAD HR
                            have ee0 := hbe.cell 0 _ rfl
                            have ee1 := hbe.cell 1 _ rfl
                            have ee2 := hbe.cell 2 _ rfl
                            have ee3 := hbe.cell 3 _ rfl
                            have ee4 := hbe.cell 4 _ rfl
                            have ee6 := hbe.cell 6 _ rfl
                            rcases Decidable.em (Aq = n) with q2 | q2
                            ·have f2 : ((Aq : Int) != (n : Int)) = false := by simp [q2]
                             rcases Decidable.em ((Dq : Int) > 40) with q3 | q3
                             ·have hT0 : treeR e.nodes t = false := by rw [HTR.out]; simp; omega
                              have hc9 : c = 10 := by rw [← hc.out]; exact checkE_10 S1.out S2.out S3.out S4.out S5.out S6.out S7.out S8.out S9.out (by rw [← forest_two S5.out S9.out]; unfold forestR; rw [show (treesE e.nodes).all (treeR e.nodes) = false from List.all_eq_false.2 ⟨t, htm.out, by rw [hT0]; simp⟩, Bool.and_false])
                              subst hc9
                              clear hT0 HTR q2 hA
                              clear hc
                              go_wp2_with (go_at_call 101; (with_reducible refine (hRe _ hE).mono ?_); rintro e9 w7 ⟨rfl, hb⟩)
                              go_ret2
                              exact ⟨rfl, hbf.trans (hb.mono hbf.size)⟩
                             ·have hA2 : Hid (∀ k, k < i + 1 → treeR e.nodes (ts[k]?.getD 0) = true) := Lib.hid (fun k hk => by
                               by_cases e9 : k = i
                               ·rw [e9, HTT.out, HTR.out, q2]; simp; omega
                               ·exact hA.out k (by omega))
                              clear hA HTR q2
                              go_wp2_with (go_at_call 101; (with_reducible refine (hRe _ hE).mono ?_); rintro e9 w7 ⟨rfl, hb⟩)
                              go_roundg (gq - 1)
                              case measure => omega
                              case rel => exact ⟨i + 1, by omega, by go_num, hA2, hbq.trans ((hbr.trans (hb.mono hbr.size)).mono hbq.size)⟩
                            ·have f2 : ((Aq : Int) != (n : Int)) = true := by rw [bne_iff_ne]; omega
                             have hT0 : treeR e.nodes t = false := by rw [HTR.out]; simp [q2]
                             have hc9 : c = 10 := by rw [← hc.out]; exact checkE_10 S1.out S2.out S3.out S4.out S5.out S6.out S7.out S8.out S9.out (by rw [← forest_two S5.out S9.out]; unfold forestR; rw [show (treesE e.nodes).all (treeR e.nodes) = false from List.all_eq_false.2 ⟨t, htm.out, by rw [hT0]; simp⟩, Bool.and_false])
                             subst hc9
                             clear hT0 HTR q2 hA
                             clear hc
                             go_wp2_with (go_at_call 101; (with_reducible refine (hRe _ hE).mono ?_); rintro e9 w7 ⟨rfl, hb⟩)
                             go_ret2
                             exact ⟨rfl, hbf.trans (hb.mono hbf.size)⟩
                           ·have f1 : ((r : Int) != 1) = true := by rw [bne_iff_ne]; omega
                            have hT0 : treeR e.nodes t = false := by
                             unfold treeR
                             rw [show rootsR e.nodes t = rtsK e.nodes t e.nodes.length from rfl, hr2]
                             simp [q1]
                            have hc9 : c = 10 := by rw [← hc.out]; exact checkE_10 S1.out S2.out S3.out S4.out S5.out S6.out S7.out S8.out S9.out (by rw [← forest_two S5.out S9.out]; unfold forestR; rw [show (treesE e.nodes).all (treeR e.nodes) = false from List.all_eq_false.2 ⟨t, htm.out, by rw [hT0]; simp⟩, Bool.and_false])
                            subst hc9
                            clear hT0 q1 hr1 hr2 hr3 HR hA
                            clear hc
                            go_wp2_with fail
                            go_ret2
                            exact ⟨rfl, hbf⟩
                        ·as_aux_lemma =>
                         have hz : ¬ (i : Int) < (ts.length : Int) := by omega
                         have S10b : Hid (forestE e.nodes = true) := Lib.hid (by
                          rw [← forest_two S5.out S9.out]
                          unfold forestR
                          rw [S10.out, Bool.true_and, List.all_eq_true]
                          intro t ht
                          rw [HTS.out] at ht
                          obtain ⟨k, hk, rfl⟩ := List.mem_iff_getElem.1 ht
                          have h9 := hA.out k (by omega)
                          rwa [List.getElem?_eq_getElem hk] at h9)
                         clear hA
                         obtain ⟨w8, hwN⟩ : ∃ x, x = wr := ⟨_, rfl⟩
                         subst hwN
                         have ee6 := hbe.cell 6 _ rfl
                         go_wp2_with fail
                         go_loopg [21] e.leaves.length (fun gg iv wr => ∃ (i : Nat), i + gg = e.leaves.length ∧ iv = .int .i64 (i : Int) ∧ Hid (∀ k, k < i → leafB e e.leaves[k]! = false) ∧ Below w8.heap.size w8 wr)
                         case atStart => exact ⟨0, by omega, rfl, Lib.hid (fun k hk => absurd hk (Nat.not_lt_zero _)), Below.refl _ _⟩
                         case round =>
                          clear ee6
                          obtain ⟨i, hi, rfl, hA, hbr⟩ := hrel
                          replace hbe := hbe.kept hbr
                          replace hE := hE.below hbr
                          replace hbf := hbf.trans (hbr.mono hbf.size)
                          replace hbT := hbT.trans (hbr.mono hbT.size)
                          by_cases hil : i < e.leaves.length
                          ·as_aux_lemma =>
                           have hz : (i : Int) < (e.leaves.length : Int) := by omega
                           have hz0 : (0 : Int) ≤ (i : Int) := by omega
                           obtain ⟨lb, loff, rfl⟩ := h4.addr hil
                           obtain ⟨z, hy⟩ : ∃ z, e.leaves[i] = z := ⟨_, rfl⟩
                           have hzw := h9 z (by rw [← hy]; exact List.getElem_mem hil)
                           obtain ⟨c0, c1, c2, c3⟩ := RowC.c4 h4 hbf hil z hy
                           have HZ : Hid (e.leaves[i]! = z) := Lib.hid (by rw [getElem!_pos e.leaves i hil, hy])
                           have HZM : Hid (z ∈ e.leaves) := Lib.hid (by rw [← hy]; exact List.getElem_mem hil)
                           clear hy
                           have ee6 := hbe.cell 6 _ rfl
                           obtain ⟨v2, hwE⟩ : ∃ W, W = wr.alloc (.cells #[.int .i64 z.tree, .int .i64 z.node, .int .i64 z.tgt, .int .u64 (z.wt : Int)] 137) := ⟨_, rfl⟩
                           have hb : Below wr.heap.size wr v2 := by rw [hwE]; exact (Below.refl _ wr).alloc (Nat.le_refl _) _
                           obtain ⟨px, hpE⟩ : ∃ p, p = wr.heap.size := ⟨_, rfl⟩
                           have hbx : BoxL v2 px [.int .i64 z.tree, .int .i64 z.node, .int .i64 z.tgt, .int .u64 (z.wt : Int)] := by rw [hwE, hpE]; exact BoxL.new wr _ _
                           have HW := Lib.hid hwE; clear hwE
                           go_upto_region 59 with fail
                           rw [← HW.out, ← hpE]
                           clear HW hpE c0 c1 c2 c3 ee6
                           replace hbe := hbe.kept hb
                           replace hE := hE.below hb
                           replace hbr := hbr.trans (hb.mono hbr.size)
                           replace hbf := hbf.trans (hb.mono hbf.size)
                           replace hbT := hbT.trans (hb.mono hbT.size)
                           clear hb
                           obtain ⟨x, hx⟩ : ∃ x, findE e.nodes z.tree z.node = x := ⟨_, rfl⟩
                           have hP := fun W h => rplace_any (ensV e bo bc no nc (some ⟨lb, loff, none⟩) lc) e bo bc no nc (some ⟨lb, loff, none⟩) lc z.tree z.node (fidx x) W h (Lib.hid (by rw [hx]))
                           obtain ⟨ee0, ee1, ee2, ee3, ee4, ee5, ee6⟩ := hbe.c7
                           have ex0 := hbx.cell 0 _ rfl
                           have ex1 := hbx.cell 1 _ rfl
                           have ex2 := hbx.cell 2 _ rfl
                           have ex3 := hbx.cell 3 _ rfl
                           go_upto_region 60 with (go_at_call 37; (with_reducible refine (hP _ hE).mono ?_); rintro e9 w7 ⟨rfl, hb⟩)
                           clear ee0 ee1 ee2 ee3 ee4 ee5 ee6
                           clear ex0 ex1 ex2 ex3 hP
                           replace hbe := hbe.kept hb
                           replace hbx := hbx.kept hb
                           replace hE := hE.below hb
                           replace hbr := hbr.trans (hb.mono hbr.size)
                           replace hbf := hbf.trans (hb.mono hbf.size)
                           replace hbT := hbT.trans (hb.mono hbT.size)
                           clear hb
                           have ee1 := hbe.cell 1 _ rfl
                           have ee5 := hbe.cell 5 _ rfl
                           have ex2 := hbx.cell 2 _ rfl
                           cases x with
                           | none =>
                            have HB := Lib.hid (leafB_none hx)
                            have f1 : fidx none < 0 := by decide
                            have e1 : fidx none = -1 := rfl
                            rw [e1]
                            clear hx f1 e1
                            have hB1 : leafB e z = true := HB.out
                            have S11 : Hid (leafE e = false) := Lib.hid (by rw [leafE_eq, Bool.not_eq_false', List.any_eq_true]; exact ⟨z, HZM.out, hB1⟩)
                            clear hB1 HB hA
                            have hc9 : c = 11 := by rw [← hc.out]; exact checkE_11 S1.out S2.out S3.out S4.out S5.out S6.out S7.out S8.out S9.out S10b.out S11.out
                            subst hc9
                            clear hc
                            go_wp2_with fail
                            go_ret2
                            exact ⟨rfl, hbf⟩
                           | some p =>
                            have HB := Lib.hid (leafB_some hx)
                            have e1 : fidx (some p) = (p : Int) := rfl
                            rw [e1]
                            clear e1
                            have hpl := findE_lt hx
                            clear hx
                            have f1 : ¬ (p : Int) < 0 := by omega
                            have f2 : (p : Int) < (e.nodes.length : Int) := by omega
                            have f3 : (0 : Int) ≤ (p : Int) := by omega
                            obtain ⟨nb, noff, rfl⟩ := h2.addr hpl
                            obtain ⟨y, hy⟩ : ∃ y, e.nodes[p] = y := ⟨_, rfl⟩
                            have hNd := NdAt.of hE.nodes hpl hy
                            have HY : Hid (e.nodes[p]! = y) := Lib.hid (by rw [getElem!_pos e.nodes p hpl, hy])
                            clear hy
                            obtain ⟨c0, c1, c2, c3, c4, c5, c6, c7⟩ := hNd.c8
                            clear c0 c1 c2 c4 c5 c6 c7
                            rcases Decidable.em (y.mode = 7) with q1 | q1
                            ·have g1 : (y.mode != 7) = false := by simp [q1]
                             rcases Decidable.em (z.tgt < 0) with q2 | q2
                             ·skip
                              have hB1 : leafB e z = true := by rw [HB.out]; simp [HY.out, q1, q2]
                              have S11 : Hid (leafE e = false) := Lib.hid (by rw [leafE_eq, Bool.not_eq_false', List.any_eq_true]; exact ⟨z, HZM.out, hB1⟩)
                              clear hB1 HB hA
                              have hc9 : c = 11 := by rw [← hc.out]; exact checkE_11 S1.out S2.out S3.out S4.out S5.out S6.out S7.out S8.out S9.out S10b.out S11.out
                              subst hc9
                              clear q1
                              clear hc
                              go_wp2_with fail
                              go_ret2
                              exact ⟨rfl, hbf⟩
                             rcases Decidable.em (z.tgt ≥ e.tgts) with q3 | q3
                             ·skip
                              have hB1 : leafB e z = true := by rw [HB.out]; simp [HY.out, q1] <;> omega
                              have S11 : Hid (leafE e = false) := Lib.hid (by rw [leafE_eq, Bool.not_eq_false', List.any_eq_true]; exact ⟨z, HZM.out, hB1⟩)
                              clear hB1 HB hA
                              have hc9 : c = 11 := by rw [← hc.out]; exact checkE_11 S1.out S2.out S3.out S4.out S5.out S6.out S7.out S8.out S9.out S10b.out S11.out
                              subst hc9
                              clear q1
                              clear hc
                              go_wp2_with fail
                              go_ret2
                              exact ⟨rfl, hbf⟩
                             have hA2 : Hid (∀ k, k < i + 1 → leafB e e.leaves[k]! = false) := Lib.hid (fun k hk => by
                              by_cases e9 : k = i
                              ·rw [e9, HZ.out, HB.out]; simp [HY.out, q1] <;> omega
                              ·exact hA.out k (by omega))
                             clear hA HB q1
                             go_wp2_with fail
                             go_roundg (gk - 1)
                             case measure => omega
                             case rel => exact ⟨i + 1, by omega, by go_num, hA2, hbr⟩
                            ·have g1 : (y.mode != 7) = true := by simp [q1]
                             have hB1 : leafB e z = true := by rw [HB.out]; simp [HY.out, q1]
                             have S11 : Hid (leafE e = false) := Lib.hid (by rw [leafE_eq, Bool.not_eq_false', List.any_eq_true]; exact ⟨z, HZM.out, hB1⟩)
                             clear hB1 HB hA
                             have hc9 : c = 11 := by rw [← hc.out]; exact checkE_11 S1.out S2.out S3.out S4.out S5.out S6.out S7.out S8.out S9.out S10b.out S11.out
                             subst hc9
                             clear q1
                             clear hc
                             go_wp2_with fail
                             go_ret2
                             exact ⟨rfl, hbf⟩
                          ·as_aux_lemma =>
                           have hz : ¬ (i : Int) < (e.leaves.length : Int) := by omega
                           have S11 : Hid (leafE e = true) := Lib.hid (by
                            rw [leafE_eq, Bool.not_eq_true', List.any_eq_false]
                            intro z hz9
                            obtain ⟨k, hk, rfl⟩ := List.mem_iff_getElem.1 hz9
                            have h10 := hA.out k (by omega)
                            rw [getElem!_pos e.leaves k hk] at h10
                            rw [h10]; simp)
                           clear hA
                           obtain ⟨w9, hwN⟩ : ∃ x, x = wr := ⟨_, rfl⟩
                           subst hwN
                           have ee6 := hbe.cell 6 _ rfl
                           go_wp2_with fail
                           go_loopg [24] e.leaves.length (fun gg iv wr => ∃ (i : Nat), i + gg = e.leaves.length ∧ iv = .int .i64 (i : Int) ∧ Hid (∀ k, k < i → finP e.leaves[k]!.wt = true) ∧ Below w9.heap.size w9 wr)
                           case atStart => exact ⟨0, by omega, rfl, Lib.hid (fun k hk => absurd hk (Nat.not_lt_zero _)), Below.refl _ _⟩
                           case round =>
                            clear ee6
                            obtain ⟨i, hi, rfl, hA, hbr⟩ := hrel
                            replace hbe := hbe.kept hbr
                            replace hE := hE.below hbr
                            replace hbf := hbf.trans (hbr.mono hbf.size)
                            replace hbT := hbT.trans (hbr.mono hbT.size)
                            by_cases hil : i < e.leaves.length
                            ·as_aux_lemma =>
                             have hz : (i : Int) < (e.leaves.length : Int) := by omega
                             have hz0 : (0 : Int) ≤ (i : Int) := by omega
                             obtain ⟨lb, loff, rfl⟩ := h4.addr hil
                             obtain ⟨z, hy⟩ : ∃ z, e.leaves[i] = z := ⟨_, rfl⟩
                             have hzw := h9 z (by rw [← hy]; exact List.getElem_mem hil)
                             obtain ⟨c0, c1, c2, c3⟩ := RowC.c4 h4 hbf hil z hy
                             have HZ : Hid (e.leaves[i]! = z) := Lib.hid (by rw [getElem!_pos e.leaves i hil, hy])
                             have HZM : Hid (z ∈ e.leaves) := Lib.hid (by rw [← hy]; exact List.getElem_mem hil)
                             clear hy
                             have ee6 := hbe.cell 6 _ rfl
                             obtain ⟨r, hr⟩ : ∃ r, finP z.wt = r := ⟨_, rfl⟩
                             have hv64 := hzw.v
                             have hF := fun W => rfinite_any z.wt r W hv64 (Lib.hid hr)
                             cases r with
                             | true =>
                              have hA2 : Hid (∀ k, k < i + 1 → finP e.leaves[k]!.wt = true) := Lib.hid (fun k hk => by
                               by_cases e9 : k = i
                               ·rw [e9, HZ.out, hr]
                               ·exact hA.out k (by omega))
                              clear hA hr
                              go_wp2_with (go_at_call 99; refine (hF _).mono ?_; rintro e9 w7 ⟨rfl, hb⟩)
                              go_roundg (gk - 1)
                              case measure => omega
                              case rel => exact ⟨i + 1, by omega, by go_num, hA2, hbr.trans (hb.mono hbr.size)⟩
                             | false =>
                              have S12 : Hid (e.leaves.any (fun l => !finP l.wt) = true) := Lib.hid (by rw [List.any_eq_true]; exact ⟨z, HZM.out, by rw [hr]; rfl⟩)
                              clear hA hr
                              have hc9 : c = 12 := by rw [← hc.out]; exact checkE_12 S1.out S2.out S3.out S4.out S5.out S6.out S7.out S8.out S9.out S10b.out S11.out S12.out
                              subst hc9
                              clear hc
                              go_wp2_with (go_at_call 99; refine (hF _).mono ?_; rintro e9 w7 ⟨rfl, hb⟩)
                              go_ret2
                              exact ⟨rfl, hbf.trans (hb.mono hbf.size)⟩
                            ·as_aux_lemma =>
                             have hz : ¬ (i : Int) < (e.leaves.length : Int) := by omega
                             have S12 : Hid (e.leaves.any (fun l => !finP l.wt) = false) := Lib.hid (by
                              rw [List.any_eq_false]
                              intro z hz9
                              obtain ⟨k, hk, rfl⟩ := List.mem_iff_getElem.1 hz9
                              have h10 := hA.out k (by omega)
                              rw [getElem!_pos e.leaves k hk] at h10
                              rw [h10]; simp)
                             clear hA
                             have ee6 := hbe.cell 6 _ rfl
                             have hc9 : c = 0 := by rw [← hc.out]; exact checkE_0 S1.out S2.out S3.out S4.out S5.out S6.out S7.out S8.out S9.out S10b.out S11.out S12.out
                             subst hc9
                             clear hc
                             go_wp2_with fail
                             go_ret2
                             exact ⟨rfl, hbf⟩
end Go.Proofs.YtcpfanpcdkoiaaaGreat
