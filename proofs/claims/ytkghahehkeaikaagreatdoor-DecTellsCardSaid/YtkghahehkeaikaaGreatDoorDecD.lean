/-
  Literals (4): count, Places, Finite, Text.
-/
import Derived.Test.YtkghahehkeaikaaGreatDoorDecA
import Derived.Test.YtkghahehkeaikaaGreatDoorRepN
import Derived.Deep.DeepCutAuto
import Derived.WalkMore
import Derived.Laws.StructEq
namespace Go.Proofs.YtkghahehkeaikaaGreatDoor
open Go.RowKit
set_option linter.unusedVariables false
set_option linter.unusedSimpArgs false
attribute [local go_sem] field_nat

theorem ret_tmp_nat {fn : Func} {s t : Nat} {R : Ending → World → Prop} {a : Act} {w : World} {p : Addr} {v u : Value} (hres : fn.results = #[.tmp t, .cell s 25]) (hp : a.tmps.getD s undef = .pointer (some p)) (hu : a.tmps.getD t undef = u) (hc : w.cell? p = some v) (hd : a.defers = []) (hR : R (.returned (.tuple #[u, .agg #[v]])) w) : bodyPost Tryz.prog fn R .ret a w := by
  refine bodyPost_ret (v := .tuple #[u, .agg #[v]]) ?_ hd hR
  have hp' : a.tmps[s]?.getD undef = .pointer (some p) := by simpa using hp
  have hu' : a.tmps[t]?.getD undef = u := by simpa using hu
  simp only [results, hres]
  simp [Sem.run_bind, Sem.run_pure, Result.andThen, hp', hu', asAddr, load_nat hc]

set_option maxRecDepth 100000 in
set_option maxHeartbeats 1000000 in
/-- count: how often, and what is left. -/
theorem count_any (v : Value) (b n : Nat) (w : World) (h : NatIs w v n) (hb1 : 1 < b) (hb2 : b < 1000) (hn0 : 0 < n) (hln : (limbs n).length ≤ 100000) (hc9 : cnt b n < 9223372036854775807) :
    Calls Tryz.prog 40 #[v, .int .u64 (b : Int)] w fun e w' => ∃ r, e = .returned (.tuple #[.int .i64 (cnt b n : Nat), r]) ∧ NatIs w' r (crest b n) ∧ Below w.heap.size w w' := by
  obtain ⟨nO, nL, nC, rfl⟩ := h.form
  obtain ⟨w0, hw0⟩ : ∃ w0, w0 = ((w.alloc (.cells #[.slice nO nL nC] 25)).alloc (.cells #[.slice none 0 0] 25)) := ⟨_, rfl⟩
  have hbf : Below w.heap.size w w0 := by rw [hw0]; exact (((Below.refl _ w).alloc (Nat.le_refl _) _).alloc (by simp <;> omega) _)
  obtain ⟨pn, hpn⟩ : ∃ p, p = w.heap.size := ⟨_, rfl⟩
  have hbn : Box w0 pn (Value.slice nO nL nC) := by rw [hw0, hpn]; exact ⟨by go_simp, by go_simp, by simp <;> omega⟩
  obtain ⟨pr, hpr⟩ : ∃ p, p = w.heap.size + 1 := ⟨_, rfl⟩
  have hbr : Box w0 pr (Value.slice none 0 0) := by rw [hw0, hpr]; exact ⟨by go_simp, by go_simp, by simp <;> omega⟩
  have HP : Hid (w.heap.size ≤ pn ∧ pn < pr) := Lib.hid (by omega)
  replace h := h.below hbf
  have HW := Lib.hid hw0; clear hw0
  go_enter Tryz.func40, Tryz.ntmps40
  go_upto_region 1 with fail
  rw [← HW.out, ← hpr, ← hpn]
  clear hpn hpr HW
  (try go_step3)
  go_wp2_with fail
  (try go_step3)
  (try go_wp2_with fail)
  go_loopg [6] (cnt b n) (fun gg kv wr => ∃ (m k : Nat) (mO : Option Addr) (mL mC : Nat), kv = .int .i64 (k : Int) ∧ gg = cnt b m ∧ k + cnt b m = cnt b n ∧ crest b m = crest b n ∧ 0 < m ∧ m ≤ n ∧ Box wr pn (.slice mO mL mC) ∧ Box wr pr (.slice none 0 0) ∧ NatIs wr (.agg #[.slice mO mL mC]) m ∧ Below w.heap.size w wr)
  case atStart => exact ⟨n, 0, nO, nL, nC, rfl, rfl, by omega, rfl, hn0, Nat.le_refl _, hbn, hbr, h, hbf⟩
  clear hbn hbr h hbf
  case round =>
    obtain ⟨m, k, mO, mL, mC, rfl, hg, hk, hcr, hm0, hmn, hbn, hbr, hm, hbf⟩ := hrel
    have hlm : (limbs m).length ≤ 100000 := Nat.le_trans (limbs_length_mono hmn) hln
    have HG := Lib.hid hg
    have HK := Lib.hid hk
    have HCR := Lib.hid hcr
    have HB : Hid (¬ b = 0) := Lib.hid (by omega)
    clear hg hk hcr
    have en := hbn.cell
    (try go_wp2_with fail)
    clear en
    refine wp_region_seqF (S := fun w' => Box w' pn (Value.slice mO mL mC)) [⟨8, 7, .cells #[.slice none 0 0] 25⟩, ⟨9, 8, .cells #[.slice none 0 0] 25⟩] [(true, 0), (true, 1), (false, 2), (false, 3), (true, 4), (true, 5), (true, 6), (true, 7)] [(false, 10), (false, 11), (true, 12)] (by kernel_rfl) (by kernel_rfl) (by kernel_rfl) (by kernel_rfl) (by kernel_rfl) (by kernel_rfl) (by decide) (by decide) (by kernel_rfl) (by rfl) ?_ (fun w8 o8 h8 => ?_) (fun d _ _ _ _ h => by cases d <;> exact h) hbn.drew ?_
    · intro f hf; simp only [List.mem_cons, List.not_mem_nil, or_false] at hf; rcases hf with rfl | rfl <;> exact FlOk.alloc rfl rfl rfl (fun f w => by go_simp)
    · exact Box.kept h8 ((Below.refl _ _).alloc (Nat.le_refl _) _)
    obtain ⟨B9, hB9⟩ : ∃ B, B = wr.heap.size := ⟨_, rfl⟩
    rw [← hB9]
    simp only [pickOps, List.append_eq, List.cons_append, List.nil_append, List.getElem?_toArray, List.getElem?_cons_succ, List.getElem?_cons_zero]
    have HB9 : Hid (w.heap.size ≤ B9 ∧ pr < B9) := Lib.hid (by have h1 := hbf.size; have h2r := hbr.lt; rw [hB9]; omega)
    clear hB9
    have hb : Below wr.heap.size wr wr.drew := (Below.refl _ _).drew
    generalize wr.drew = w1 at hb ⊢
    replace hbn := hbn.kept hb
    replace hbr := hbr.kept hb
    replace hm := hm.below hb
    replace hbf := hbf.trans (hb.mono hbf.size)
    clear hb
    repeat (refine seqF_take (v := ?_) (fun t => by rfl) ?_ ?_; rotate_left; (· intro a9 h9 w hSw; (try dsimp only at hSw); obtain ⟨x7, x8, rfl⟩ : ∃ x y, a9 = (Act.put _ (some 7) x).put (some 8) y := ⟨_, _, h9.two⟩; clear h9; obtain ⟨en, _, _⟩ := hSw; (try simp only [Act.put, List.setIfInBounds_toArray, List.set_cons_zero, List.set_cons_succ]); go_simp; all_goals with_reducible rfl); (try simp only [Act.put, List.setIfInBounds_toArray, List.set_cons_zero, List.set_cons_succ]))
    refine seqF_step (fun t => by rfl) (fun a9 w2 h9 hb hS9 K hK => ?_)
    obtain ⟨x7, x8, rfl⟩ : ∃ x y, a9 = (Act.put _ (some 7) x).put (some 8) y := ⟨_, _, h9.two⟩
    clear h9 hS9
    (try simp only [Act.put, List.setIfInBounds_toArray, List.set_cons_zero, List.set_cons_succ] at hK); (try simp only [Act.put, List.setIfInBounds_toArray, List.set_cons_zero, List.set_cons_succ])
    replace hbn := hbn.kept hb
    replace hbr := hbr.kept hb
    replace hm := hm.below hb
    replace hbf := hbf.trans (hb.mono hbf.size)
    clear hb
    go_simp
    go_at_call 23
    (with_reducible refine (of_any b _ (by omega)).mono ?_)
    rintro e w3 ⟨r9, rfl, ho, hb⟩
    obtain ⟨oO, oL, oC, rfl⟩ := ho.form
    replace hbn := hbn.kept hb
    replace hbr := hbr.kept hb
    replace hm := hm.below hb
    replace hbf := hbf.trans (hb.mono hbf.size)
    have hbK := hb; clear hb
    first | refine hK.out _ _ hbn hbK ?_ | (go_wp2_with fail; refine hK.out _ _ hbn hbK ?_)
    clear hK K hbK
    (try simp only [Act.put, List.setIfInBounds_toArray, List.set_cons_zero, List.set_cons_succ])
    refine seqF_step (fun t => by rfl) (fun a9 w4 h9 hb hS9 K hK => ?_)
    obtain ⟨x7, x8, rfl⟩ : ∃ x y, a9 = (Act.put _ (some 7) x).put (some 8) y := ⟨_, _, h9.two⟩
    clear h9 hS9
    (try simp only [Act.put, List.setIfInBounds_toArray, List.set_cons_zero, List.set_cons_succ] at hK); (try simp only [Act.put, List.setIfInBounds_toArray, List.set_cons_zero, List.set_cons_succ])
    replace hbn := hbn.kept hb
    replace hbr := hbr.kept hb
    replace hm := hm.below hb
    replace ho := ho.below hb
    replace hbf := hbf.trans (hb.mono hbf.size)
    clear hb
    go_simp
    go_at_call 44
    (with_reducible refine (divmod_any _ _ m b _ hm ho (by omega) (Nat.le_trans (limbs_bound (n := b) (by omega) (Nat.le_refl 1)) (by decide))).mono ?_)
    rintro e w5 ⟨r9, s9, rfl, hx, hy, hb⟩
    obtain ⟨xO, xL, xC, rfl⟩ := hx.form
    obtain ⟨yO, yL, yC, rfl⟩ := hy.form
    replace hbn := hbn.kept hb
    replace hbr := hbr.kept hb
    replace hm := hm.below hb
    replace ho := ho.below hb
    replace hbf := hbf.trans (hb.mono hbf.size)
    have hbK := hb; clear hb
    first | refine hK.out _ _ hbn hbK ?_ | (go_wp2_with fail; refine hK.out _ _ hbn hbK ?_)
    clear hK K hbK
    (try simp only [Act.put, List.setIfInBounds_toArray, List.set_cons_zero, List.set_cons_succ])
    repeat (refine seqF_take (v := ?_) (fun t => by rfl) ?_ ?_; rotate_left; (· intro a9 h9 w hSw; (try dsimp only at hSw); obtain ⟨x7, x8, rfl⟩ : ∃ x y, a9 = (Act.put _ (some 7) x).put (some 8) y := ⟨_, _, h9.two⟩; clear h9; obtain ⟨en, _, _⟩ := hSw; (try simp only [Act.put, List.setIfInBounds_toArray, List.set_cons_zero, List.set_cons_succ]); go_simp; all_goals with_reducible rfl); (try simp only [Act.put, List.setIfInBounds_toArray, List.set_cons_zero, List.set_cons_succ]))
    refine seqF_end (fun a9 w6 h9 hb hS9 hAt hNe => ?_)
    obtain ⟨x7, x8, rfl⟩ : ∃ x y, a9 = (Act.put _ (some 7) x).put (some 8) y := ⟨_, _, h9.two⟩
    clear h9 hS9
    (try simp only [Act.put, List.setIfInBounds_toArray, List.set_cons_zero, List.set_cons_succ])
    (try simp only [Act.put, List.setIfInBounds_toArray, List.set_cons_zero, List.set_cons_succ] at hAt hNe)
    replace hbn := hbn.kept hb
    replace hbr := hbr.kept hb
    replace hm := hm.below hb
    replace ho := ho.below hb
    replace hx := hx.below hb
    replace hy := hy.below hb
    replace hbf := hbf.trans (hb.mono hbf.size)
    clear hb
    obtain ⟨pq, hxq, hgq, hhq⟩ := (hAt ⟨8, 7, .cells #[.slice none 0 0] 25⟩ (by simp)).slot rfl
    have hbq := box_heap hhq; clear hhq
    replace hxq : x7 = _ := hxq
    obtain ⟨ps, hxs, hgs, hhs⟩ := (hAt ⟨9, 8, .cells #[.slice none 0 0] 25⟩ (by simp)).slot rfl
    have hbs := box_heap hhs; clear hhs
    replace hxs : x8 = _ := hxs
    have hneqs : Hid (pq ≠ ps) := Lib.hid fun h7 => hNe ⟨8, 7, .cells #[.slice none 0 0] 25⟩ (by simp) ⟨9, 8, .cells #[.slice none 0 0] 25⟩ (by simp) (by decide) (show x7 = x8 by rw [hxq, hxs, h7])
    clear hAt hNe
    subst hxq
    subst hxs
    replace HP : Hid (w.heap.size ≤ pn ∧ pn < pr ∧ pr < pq ∧ pr < ps) := Lib.hid (by have h1 := HP.out; have h2 := HB9.out; omega)
    clear HB9 hgq hgs
    simp only [pickOps, List.append_eq, List.cons_append, List.nil_append, List.getElem?_toArray, List.getElem?_cons_succ, List.getElem?_cons_zero]
    refine seq_step (by rfl) (fun K hK => ?_)
    have eq := hbq.cell
    have fq := hbq.free
    go_simp
    clear eq fq
    obtain ⟨w7, hwE⟩ : ∃ W, W = w6.setCell ⟨pq, 0, none⟩ (Value.slice xO xL xC) := ⟨_, rfl⟩
    rw [← hwE]
    replace hm := hm.setS (u := (Value.slice xO xL xC)) hbq; rw [← hwE] at hm
    replace ho := ho.setS (u := (Value.slice xO xL xC)) hbq; rw [← hwE] at ho
    replace hx := hx.setS (u := (Value.slice xO xL xC)) hbq; rw [← hwE] at hx
    replace hy := hy.setS (u := (Value.slice xO xL xC)) hbq; rw [← hwE] at hy
    replace hbn := hbn.setOther (show pn ≠ pq by have := HP.out; omega) 0 (Value.slice xO xL xC); rw [← hwE] at hbn
    replace hbr := hbr.setOther (show pr ≠ pq by have := HP.out; omega) 0 (Value.slice xO xL xC); rw [← hwE] at hbr
    replace hbs := hbs.setOther (Hid.out hneqs).symm 0 (Value.slice xO xL xC); rw [← hwE] at hbs
    replace hbf := hbf.setCell (p := ⟨pq, 0, none⟩) (show w.heap.size ≤ pq by have := HP.out; omega) (Value.slice xO xL xC); rw [← hwE] at hbf
    replace hbq := hbq.set (Value.slice xO xL xC); rw [← hwE] at hbq; clear hwE
    first | refine hK.out _ _ hbn (fun _ => ?_) | (go_wp2_with fail; refine hK.out _ _ hbn (fun _ => ?_))
    clear hK K
    (try simp only [Act.put, List.setIfInBounds_toArray, List.set_cons_zero, List.set_cons_succ])
    refine seq_step (by rfl) (fun K hK => ?_)
    have es := hbs.cell
    have fs := hbs.free
    go_simp
    clear es fs
    obtain ⟨w8, hwE⟩ : ∃ W, W = w7.setCell ⟨ps, 0, none⟩ (Value.slice yO yL yC) := ⟨_, rfl⟩
    rw [← hwE]
    replace hm := hm.setS (u := (Value.slice yO yL yC)) hbs; rw [← hwE] at hm
    replace ho := ho.setS (u := (Value.slice yO yL yC)) hbs; rw [← hwE] at ho
    replace hx := hx.setS (u := (Value.slice yO yL yC)) hbs; rw [← hwE] at hx
    replace hy := hy.setS (u := (Value.slice yO yL yC)) hbs; rw [← hwE] at hy
    replace hbn := hbn.setOther (show pn ≠ ps by have := HP.out; omega) 0 (Value.slice yO yL yC); rw [← hwE] at hbn
    replace hbr := hbr.setOther (show pr ≠ ps by have := HP.out; omega) 0 (Value.slice yO yL yC); rw [← hwE] at hbr
    replace hbq := hbq.setOther (Hid.out hneqs) 0 (Value.slice yO yL yC); rw [← hwE] at hbq
    replace hbf := hbf.setCell (p := ⟨ps, 0, none⟩) (show w.heap.size ≤ ps by have := HP.out; omega) (Value.slice yO yL yC); rw [← hwE] at hbf
    replace hbs := hbs.set (Value.slice yO yL yC); rw [← hwE] at hbs; clear hwE
    first | refine hK.out _ _ hbn (fun _ => ?_) | (go_wp2_with fail; refine hK.out _ _ hbn (fun _ => ?_))
    clear hK K
    (try simp only [Act.put, List.setIfInBounds_toArray, List.set_cons_zero, List.set_cons_succ])
    repeat (first | (refine seq_take (v := ?_) (by rfl) ?_ ?_; rotate_left; (· intro w hSw; (try dsimp only at hSw); obtain ⟨en, _, _⟩ := hSw; go_simp; all_goals with_reducible rfl); (try simp only [Act.put, List.setIfInBounds_toArray, List.set_cons_zero, List.set_cons_succ])) | (refine seq_leave (by rfl) ?_; (try simp only [Act.put, List.setIfInBounds_toArray, List.set_cons_zero, List.set_cons_succ])))
    refine seq_end ?_
    rw [if_neg HB.out] at hy
    by_cases hz : m % b = 0
    case pos =>
      have hc := cnt_more (b := b) (n := m) (by omega) hm0 hz
      have HC1 := Lib.hid hc.1
      have HC2 := Lib.hid hc.2
      clear hc
      have hkb : k < 9223372036854775807 := by have h1 := HK.out; omega
      have hq0 : 0 < m / b := Nat.div_pos (Nat.le_of_dvd hm0 (Nat.dvd_of_mod_eq_zero hz)) (by omega)
      have hqn : m / b ≤ n := Nat.le_trans (Nat.div_le_self _ _) hmn
      have es := hbs.cell
      have en := hbn.cell
      have eq := hbq.cell
      go_wp2_with fail
      refine (zero_is _ _ _ hy hz).mono ?_
      rintro e w9 ⟨rfl, hb⟩
      clear es en eq
      replace hbn := hbn.kept hb
      replace hbr := hbr.kept hb
      replace hbq := hbq.kept hb
      replace hbs := hbs.kept hb
      replace hm := hm.below hb
      replace ho := ho.below hb
      replace hx := hx.below hb
      replace hy := hy.below hb
      replace hbf := hbf.trans (hb.mono hbf.size)
      clear hb
      have eq := hbq.cell
      have en := hbn.cell
      have fn := hbn.free
      go_wp2_with fail
      clear eq en fn
      obtain ⟨w10, hwE⟩ : ∃ W, W = w9.setCell ⟨pn, 0, none⟩ (Value.slice xO xL xC) := ⟨_, rfl⟩
      rw [← hwE]
      replace hm := hm.setS (u := (Value.slice xO xL xC)) hbn; rw [← hwE] at hm
      replace ho := ho.setS (u := (Value.slice xO xL xC)) hbn; rw [← hwE] at ho
      replace hx := hx.setS (u := (Value.slice xO xL xC)) hbn; rw [← hwE] at hx
      replace hy := hy.setS (u := (Value.slice xO xL xC)) hbn; rw [← hwE] at hy
      replace hbr := hbr.setOther (show pr ≠ pn by have := HP.out; omega) 0 (Value.slice xO xL xC); rw [← hwE] at hbr
      replace hbq := hbq.setOther (show pq ≠ pn by have := HP.out; omega) 0 (Value.slice xO xL xC); rw [← hwE] at hbq
      replace hbs := hbs.setOther (show ps ≠ pn by have := HP.out; omega) 0 (Value.slice xO xL xC); rw [← hwE] at hbs
      replace hbf := hbf.setCell (p := ⟨pn, 0, none⟩) (show w.heap.size ≤ pn by have := HP.out; omega) (Value.slice xO xL xC); rw [← hwE] at hbf
      replace hbn := hbn.set (Value.slice xO xL xC); rw [← hwE] at hbn; clear hwE
      go_roundg (gk - 1)
      case measure => have h1 := HG.out; have h2 := HC1.out; omega
      case rel => exact ⟨m / b, k + 1, _, _, _, by go_num, by have h1 := HG.out; have h2 := HC1.out; omega, by have h1 := HK.out; have h2 := HC1.out; omega, HC2.out.symm.trans HCR.out, hq0, hqn, hbn, hbr, hx, hbf⟩
    case neg =>
      have hc := cnt_end (b := b) (n := m) hz
      have hke : k = cnt b n := by rw [← HK.out, hc.1]; omega
      have hme : m = crest b n := by rw [← HCR.out, hc.2]
      subst hke
      have HME := Lib.hid hme
      clear hc hme
      have es := hbs.cell
      have en := hbn.cell
      have eq := hbq.cell
      go_wp2_with fail
      refine (zero_no _ _ _ hy hz).mono ?_
      rintro e w9 ⟨rfl, hb⟩
      clear es en eq
      replace hbn := hbn.kept hb
      replace hbr := hbr.kept hb
      replace hbq := hbq.kept hb
      replace hbs := hbs.kept hb
      replace hm := hm.below hb
      replace ho := ho.below hb
      replace hx := hx.below hb
      replace hy := hy.below hb
      replace hbf := hbf.trans (hb.mono hbf.size)
      clear hb
      have en := hbn.cell
      go_wp2_with fail
      clear en
      refine wp_region_seq (S := fun w' => Box w' pn (Value.slice mO mL mC)) [(true, 0), (true, 1), (true, 2), (false, 3)] (by kernel_rfl) (by kernel_rfl) (by kernel_rfl) (by kernel_rfl) (by kernel_rfl) (fun d _ _ _ _ h => by cases d <;> exact h) hbn.drew (fun _ => ?_)
      simp only [pickOps, List.append_eq, List.cons_append, List.nil_append, List.getElem?_toArray, List.getElem?_cons_succ, List.getElem?_cons_zero]
      have hb : Below w9.heap.size w9 w9.drew := (Below.refl _ _).drew
      generalize w9.drew = w10 at hb ⊢
      replace hbn := hbn.kept hb
      replace hbr := hbr.kept hb
      replace hbq := hbq.kept hb
      replace hbs := hbs.kept hb
      replace hm := hm.below hb
      replace ho := ho.below hb
      replace hx := hx.below hb
      replace hy := hy.below hb
      replace hbf := hbf.trans (hb.mono hbf.size)
      clear hb
      repeat (first | (refine seq_take (v := ?_) (by rfl) ?_ ?_; rotate_left; (· intro w hSw; (try dsimp only at hSw); obtain ⟨en, _, _⟩ := hSw; go_simp; all_goals with_reducible rfl); (try simp only [Act.put, List.setIfInBounds_toArray, List.set_cons_zero, List.set_cons_succ])) | (refine seq_leave (by rfl) ?_; (try simp only [Act.put, List.setIfInBounds_toArray, List.set_cons_zero, List.set_cons_succ])))
      refine seq_step (by rfl) (fun K hK => ?_)
      have er := hbr.cell
      have fr := hbr.free
      go_simp
      clear er fr
      obtain ⟨w11, hwE⟩ : ∃ W, W = w10.setCell ⟨pr, 0, none⟩ (Value.slice mO mL mC) := ⟨_, rfl⟩
      rw [← hwE]
      replace hm := hm.setS (u := (Value.slice mO mL mC)) hbr; rw [← hwE] at hm
      replace ho := ho.setS (u := (Value.slice mO mL mC)) hbr; rw [← hwE] at ho
      replace hx := hx.setS (u := (Value.slice mO mL mC)) hbr; rw [← hwE] at hx
      replace hy := hy.setS (u := (Value.slice mO mL mC)) hbr; rw [← hwE] at hy
      replace hbn := hbn.setOther (show pn ≠ pr by have := HP.out; omega) 0 (Value.slice mO mL mC); rw [← hwE] at hbn
      replace hbq := hbq.setOther (show pq ≠ pr by have := HP.out; omega) 0 (Value.slice mO mL mC); rw [← hwE] at hbq
      replace hbs := hbs.setOther (show ps ≠ pr by have := HP.out; omega) 0 (Value.slice mO mL mC); rw [← hwE] at hbs
      replace hbf := hbf.setCell (p := ⟨pr, 0, none⟩) (show w.heap.size ≤ pr by have := HP.out; omega) (Value.slice mO mL mC); rw [← hwE] at hbf
      replace hbr := hbr.set (Value.slice mO mL mC); rw [← hwE] at hbr; clear hwE
      first | refine hK.out _ _ hbn (fun _ => ?_) | (go_wp2_with fail; refine hK.out _ _ hbn (fun _ => ?_))
      clear hK K
      (try simp only [Act.put, List.setIfInBounds_toArray, List.set_cons_zero, List.set_cons_succ])
      refine seq_end ?_
      have en := hbn.cell
      have er := hbr.cell
      have fr := hbr.free
      (try go_wp2_with fail)
      (try rw [Exit.noGoto_ret])
      exact ret_tmp_nat rfl rfl rfl er rfl ⟨_, rfl, by rw [← HME.out]; exact hm, hbf⟩

theorem ncmp_one (va vb : Value) (a : Nat) (w : World) (ha : NatIs w va a) (hb : NatIs w vb 1) (h : a = 1) : Calls Tryz.prog 42 #[va, vb] w fun e w' => e = .returned (.int .i64 0) ∧ Below w.heap.size w w' := by
  have h1 := cmp_any va vb a 1 w ha hb
  rwa [show cmpI a 1 = 0 by unfold cmpI; rw [h]; rfl] at h1
theorem ncmp_more (va vb : Value) (a : Nat) (w : World) (ha : NatIs w va a) (hb : NatIs w vb 1) (h : 1 < a) : Calls Tryz.prog 42 #[va, vb] w fun e w' => e = .returned (.int .i64 1) ∧ Below w.heap.size w w' := by
  have h1 := cmp_any va vb a 1 w ha hb
  rwa [show cmpI a 1 = 1 by unfold cmpI; rw [if_neg (by omega), if_pos h]] at h1
theorem left25_pos (q : Rat) : 0 < left25 q := (cnt_eq (b := 5) (by decide) (crest 2 q.den) (cnt_eq (b := 2) (by decide) q.den (den_pos q)).2.2).2.2
theorem cnt_small {b n K : Nat} (hb : 1 < b) (hn : 0 < n) (h : (limbs n).length ≤ K) : cnt b n ≤ 32 * K := by
  have h1 := cnt_eq hb n hn
  have h2 : 2 ^ cnt b n ≤ b ^ cnt b n := Nat.pow_le_pow_left (by omega) _
  have h3 : b ^ cnt b n ≤ n := by
    have := Nat.mul_le_mul (Nat.le_refl (b ^ cnt b n)) (show 1 ≤ crest b n from h1.2.2)
    rw [Nat.mul_one, ← h1.1] at this; exact this
  have h4 := lt_pow_limbs n
  have h5 : 4294967296 ^ (limbs n).length ≤ 4294967296 ^ K := Nat.pow_le_pow_right (by decide) h
  have h6 : 4294967296 ^ K = 2 ^ (32 * K) := by rw [Nat.pow_mul]
  have h7 : 2 ^ cnt b n < 2 ^ (32 * K) := by omega
  exact Nat.le_of_lt ((Nat.pow_lt_pow_iff_right (by decide)).1 h7)

theorem cnt_b (v : Value) (b n x u : Nat) (w : World) (h : NatIs w v n) (hb1 : 1 < b) (hb2 : b < 1000) (hn0 : 0 < n) (hln : (limbs n).length ≤ 100000) (hc9 : x < 9223372036854775807) (hx : Hid (x = cnt b n)) (hu : Hid (u = crest b n)) :
    Calls Tryz.prog 40 #[v, .int .u64 (b : Int)] w fun e w' => ∃ r, e = .returned (.tuple #[.int .i64 (x : Nat), r]) ∧ NatIs w' r u ∧ Below w.heap.size w w' := by
  have := count_any v b n w h hb1 hb2 hn0 hln (by rw [← hx.out]; exact hc9)
  rwa [← hx.out, ← hu.out] at this

set_option maxRecDepth 100000 in
set_option maxHeartbeats 1000000 in
/-- Places. -/
theorem places_yes (v : Value) (q : Rat) (w : World) (h : QIs w v q) (hqb : (limbs q.den).length ≤ 1300) (hf : fin q = true) : Calls Tryz.prog 13 #[v] w fun e w' => e = .returned (.tuple #[.int .i64 (places q : Nat), .bool true]) ∧ Below w.heap.size w w' := by
  obtain ⟨qB, qxO, qxL, qxC, qyO, qyL, qyC, rfl, hS, hqx, hqy⟩ := h.form
  have HqS := Lib.hid hS; clear hS
  have h2 := cnt_eq (b := 2) (by decide) q.den (den_pos q)
  obtain ⟨_, _, hr0⟩ := h2
  obtain ⟨x, hx⟩ : ∃ x, x = cnt 2 q.den := ⟨_, rfl⟩
  obtain ⟨u, hu⟩ : ∃ u, u = crest 2 q.den := ⟨_, rfl⟩
  have hul : (limbs u).length ≤ 1300 := by rw [hu]; exact Nat.le_trans (limbs_length_mono (crest_le 2 _ (by decide))) hqb
  obtain ⟨y, hy⟩ : ∃ y, y = cnt 5 u := ⟨_, rfl⟩
  have hx9 : x ≤ 32 * 1300 := by rw [hx]; exact cnt_small (by decide) (den_pos q) hqb
  have hy9 : y ≤ 32 * 1300 := by rw [hy]; exact cnt_small (by decide) (by rw [hu]; exact hr0) hul
  have HL : Hid (left25 q = crest 5 u) := Lib.hid (by rw [hu]; rfl)
  have HPL : Hid (places q = max x y) := Lib.hid (by rw [hx, hy, hu]; rfl)
  rw [← hu] at hr0
  have HX := Lib.hid hx
  have HU := Lib.hid hu
  have HY := Lib.hid hy
  clear hx hu hy
  obtain ⟨w0, hw0⟩ : ∃ w0, w0 = (w.alloc (.cells #[.bool qB, .slice qxO qxL qxC, .slice qyO qyL qyC] 27)) := ⟨_, rfl⟩
  have hbf : Below w.heap.size w w0 := by rw [hw0]; exact ((Below.refl _ w).alloc (Nat.le_refl _) _)
  obtain ⟨pq, hpq⟩ : ∃ p, p = w.heap.size := ⟨_, rfl⟩
  have hbq : Box3 w0 pq (Value.bool qB) (Value.slice qxO qxL qxC) (Value.slice qyO qyL qyC) := by rw [hw0, hpq]; exact ⟨by go_simp, by go_simp, by go_simp, by go_simp, by go_simp, by go_simp⟩
  have HP : Hid (w.heap.size ≤ pq) := Lib.hid (by omega)
  replace h := h.below hbf
  replace hqx := hqx.below hbf
  replace hqy := hqy.below hbf
  have HW := Lib.hid hw0; clear hw0
  go_enter Tryz.func13, Tryz.ntmps13
  go_upto_region 1 with fail
  rw [← HW.out, ← hpq]
  clear hpq HW
  have eq0 := hbq.c0
  have eq1 := hbq.c1
  have eq2 := hbq.c2
  go_wp2_with fail
  refine (den_any _ q _ h).mono ?_
  rintro e w1 ⟨r9, rfl, hd, hb⟩
  clear eq0 eq1 eq2
  replace hbq := hbq.kept hb
  replace h := h.below hb
  replace hqx := hqx.below hb
  replace hqy := hqy.below hb
  replace hbf := hbf.trans (hb.mono hbf.size)
  clear hb
  obtain ⟨dO, dL, dC, rfl⟩ := hd.form
  go_wp2_with fail
  refine (cnt_b _ 2 q.den x u _ hd (by decide) (by decide) (den_pos q) (Nat.le_trans hqb (by decide)) (by omega) HX HU).mono ?_
  rintro e w2 ⟨r9, rfl, hn, hb⟩
  replace hbq := hbq.kept hb
  replace h := h.below hb
  replace hqx := hqx.below hb
  replace hqy := hqy.below hb
  replace hd := hd.below hb
  replace hbf := hbf.trans (hb.mono hbf.size)
  clear hb
  obtain ⟨nO, nL, nC, rfl⟩ := hn.form
  obtain ⟨w3, hwE⟩ : ∃ W, W = (w2.alloc (.cells #[.slice nO nL nC] 25)) := ⟨_, rfl⟩
  have hb : Below w2.heap.size w2 w3 := by rw [hwE]; exact ((Below.refl _ w2).alloc (Nat.le_refl _) _)
  obtain ⟨pn, hpn⟩ : ∃ p, p = w2.heap.size := ⟨_, rfl⟩
  have hbn : Box w3 pn (Value.slice nO nL nC) := by rw [hwE, hpn]; exact ⟨by go_simp, by go_simp, by simp <;> omega⟩
  replace HP : Hid (w.heap.size ≤ pq ∧ pq < pn) := Lib.hid (by have h1 := HP.out; have h9 := hbf.size; have h2q := hbq.lt; omega)
  have HW := Lib.hid hwE; clear hwE
  go_upto_region 2 with fail
  rw [← HW.out, ← hpn]
  clear hpn HW
  replace hbq := hbq.kept hb
  replace h := h.below hb
  replace hqx := hqx.below hb
  replace hqy := hqy.below hb
  replace hd := hd.below hb
  replace hn := hn.below hb
  replace hbf := hbf.trans (hb.mono hbf.size)
  clear hb
  obtain ⟨z, hz⟩ : ∃ z, z = crest 5 u := ⟨_, rfl⟩
  have HZ := Lib.hid hz
  have hzl : z = left25 q := by rw [hz, HL.out]
  clear hz
  have en := hbn.cell
  go_wp2_with fail
  refine (cnt_b _ 5 u y z _ hn (by decide) (by decide) hr0 (Nat.le_trans hul (by decide)) (by omega) HY HZ).mono ?_
  rintro e w4 ⟨r9, rfl, hm, hb⟩
  clear en
  replace hbq := hbq.kept hb
  replace hbn := hbn.kept hb
  replace h := h.below hb
  replace hqx := hqx.below hb
  replace hqy := hqy.below hb
  replace hd := hd.below hb
  replace hn := hn.below hb
  replace hbf := hbf.trans (hb.mono hbf.size)
  clear hb
  obtain ⟨mO, mL, mC, rfl⟩ := hm.form
  have en := hbn.cell
  have fn := hbn.free
  go_upto_region 3 with fail
  clear en fn
  obtain ⟨w5, hwE⟩ : ∃ W, W = w4.setCell ⟨pn, 0, none⟩ (Value.slice mO mL mC) := ⟨_, rfl⟩
  rw [← hwE]
  replace h := h.setS (u := (Value.slice mO mL mC)) hbn; rw [← hwE] at h
  replace hqx := hqx.setS (u := (Value.slice mO mL mC)) hbn; rw [← hwE] at hqx
  replace hqy := hqy.setS (u := (Value.slice mO mL mC)) hbn; rw [← hwE] at hqy
  replace hd := hd.setS (u := (Value.slice mO mL mC)) hbn; rw [← hwE] at hd
  replace hn := hn.setS (u := (Value.slice mO mL mC)) hbn; rw [← hwE] at hn
  replace hm := hm.setS (u := (Value.slice mO mL mC)) hbn; rw [← hwE] at hm
  replace hbq := hbq.setOther (show pq ≠ pn by have := HP.out; omega) 0 (Value.slice mO mL mC); rw [← hwE] at hbq
  replace hbf := hbf.setCell (p := ⟨pn, 0, none⟩) (show w.heap.size ≤ pn by have := HP.out; omega) (Value.slice mO mL mC); rw [← hwE] at hbf
  replace hbn := hbn.set (Value.slice mO mL mC); rw [← hwE] at hbn; clear hwE
  have hz1 : z = 1 := by rw [hzl]; exact of_decide_eq_true hf
  refine wp_region_seq (S := fun w' => Box w' pn (Value.slice mO mL mC)) [(true, 0), (false, 1), (false, 2), (true, 3)] (by kernel_rfl) (by kernel_rfl) (by kernel_rfl) (by kernel_rfl) (by kernel_rfl) (fun d _ _ _ _ h => by cases d <;> exact h) hbn.drew (fun _ => ?_)
  simp only [pickOps, List.append_eq, List.cons_append, List.nil_append, List.getElem?_toArray, List.getElem?_cons_succ, List.getElem?_cons_zero]
  have hb : Below w5.heap.size w5 w5.drew := (Below.refl _ _).drew
  generalize w5.drew = w6 at hb ⊢
  replace hbq := hbq.kept hb
  replace hbn := hbn.kept hb
  replace h := h.below hb
  replace hqx := hqx.below hb
  replace hqy := hqy.below hb
  replace hd := hd.below hb
  replace hn := hn.below hb
  replace hm := hm.below hb
  replace hbf := hbf.trans (hb.mono hbf.size)
  clear hb
  repeat (first | (refine seq_take (v := ?_) (by rfl) ?_ ?_; rotate_left; (· intro w hSw; (try dsimp only at hSw); obtain ⟨en, _, _⟩ := hSw; go_simp; all_goals with_reducible rfl); (try simp only [Act.put, List.setIfInBounds_toArray, List.set_cons_zero, List.set_cons_succ])) | (refine seq_leave (by rfl) ?_; (try simp only [Act.put, List.setIfInBounds_toArray, List.set_cons_zero, List.set_cons_succ])))
  refine seq_step (by rfl) (fun K hK => ?_)
  go_simp
  go_at_call 23
  (with_reducible refine (of_one _).mono ?_)
  rintro e w7 ⟨r9, rfl, ho, hb⟩
  obtain ⟨oO, oL, oC, rfl⟩ := ho.form
  replace hbq := hbq.kept hb
  replace hbn := hbn.kept hb
  replace h := h.below hb
  replace hqx := hqx.below hb
  replace hqy := hqy.below hb
  replace hd := hd.below hb
  replace hn := hn.below hb
  replace hm := hm.below hb
  replace hbf := hbf.trans (hb.mono hbf.size)
  clear hb
  first | refine hK.out _ _ hbn (fun _ => ?_) | (go_wp2_with fail; refine hK.out _ _ hbn (fun _ => ?_))
  clear hK K
  (try simp only [Act.put, List.setIfInBounds_toArray, List.set_cons_zero, List.set_cons_succ])
  refine seq_step (by rfl) (fun K hK => ?_)
  go_simp
  go_at_call 42
  (with_reducible refine (ncmp_one _ _ z _ hm ho hz1).mono ?_)
  rintro e w8 ⟨rfl, hb⟩
  replace hbq := hbq.kept hb
  replace hbn := hbn.kept hb
  replace h := h.below hb
  replace hqx := hqx.below hb
  replace hqy := hqy.below hb
  replace hd := hd.below hb
  replace hn := hn.below hb
  replace hm := hm.below hb
  replace ho := ho.below hb
  replace hbf := hbf.trans (hb.mono hbf.size)
  clear hb
  first | refine hK.out _ _ hbn (fun _ => ?_) | (go_wp2_with fail; refine hK.out _ _ hbn (fun _ => ?_))
  clear hK K
  (try simp only [Act.put, List.setIfInBounds_toArray, List.set_cons_zero, List.set_cons_succ])
  repeat (first | (refine seq_take (v := ?_) (by rfl) ?_ ?_; rotate_left; (· intro w hSw; (try dsimp only at hSw); obtain ⟨en, _, _⟩ := hSw; go_simp; all_goals with_reducible rfl); (try simp only [Act.put, List.setIfInBounds_toArray, List.set_cons_zero, List.set_cons_succ])) | (refine seq_leave (by rfl) ?_; (try simp only [Act.put, List.setIfInBounds_toArray, List.set_cons_zero, List.set_cons_succ])))
  refine seq_end ?_
  have hmx : max (x : Int) (y : Int) = ((places q : Nat) : Int) := by rw [HPL.out]; omega
  have HMX := Lib.hid hmx
  clear hmx
  go_wp2_with fail
  go_ret2
  exact ⟨by rw [← HMX.out]; rfl, hbf⟩

set_option maxRecDepth 100000 in
set_option maxHeartbeats 1000000 in
/-- Places. -/
theorem places_no (v : Value) (q : Rat) (w : World) (h : QIs w v q) (hqb : (limbs q.den).length ≤ 1300) (hf : fin q = false) : Calls Tryz.prog 13 #[v] w fun e w' => e = .returned (.tuple #[.int .i64 0, .bool false]) ∧ Below w.heap.size w w' := by
  obtain ⟨qB, qxO, qxL, qxC, qyO, qyL, qyC, rfl, hS, hqx, hqy⟩ := h.form
  have HqS := Lib.hid hS; clear hS
  have h2 := cnt_eq (b := 2) (by decide) q.den (den_pos q)
  obtain ⟨_, _, hr0⟩ := h2
  obtain ⟨x, hx⟩ : ∃ x, x = cnt 2 q.den := ⟨_, rfl⟩
  obtain ⟨u, hu⟩ : ∃ u, u = crest 2 q.den := ⟨_, rfl⟩
  have hul : (limbs u).length ≤ 1300 := by rw [hu]; exact Nat.le_trans (limbs_length_mono (crest_le 2 _ (by decide))) hqb
  obtain ⟨y, hy⟩ : ∃ y, y = cnt 5 u := ⟨_, rfl⟩
  have hx9 : x ≤ 32 * 1300 := by rw [hx]; exact cnt_small (by decide) (den_pos q) hqb
  have hy9 : y ≤ 32 * 1300 := by rw [hy]; exact cnt_small (by decide) (by rw [hu]; exact hr0) hul
  have HL : Hid (left25 q = crest 5 u) := Lib.hid (by rw [hu]; rfl)
  have HPL : Hid (places q = max x y) := Lib.hid (by rw [hx, hy, hu]; rfl)
  rw [← hu] at hr0
  have HX := Lib.hid hx
  have HU := Lib.hid hu
  have HY := Lib.hid hy
  clear hx hu hy
  obtain ⟨w0, hw0⟩ : ∃ w0, w0 = (w.alloc (.cells #[.bool qB, .slice qxO qxL qxC, .slice qyO qyL qyC] 27)) := ⟨_, rfl⟩
  have hbf : Below w.heap.size w w0 := by rw [hw0]; exact ((Below.refl _ w).alloc (Nat.le_refl _) _)
  obtain ⟨pq, hpq⟩ : ∃ p, p = w.heap.size := ⟨_, rfl⟩
  have hbq : Box3 w0 pq (Value.bool qB) (Value.slice qxO qxL qxC) (Value.slice qyO qyL qyC) := by rw [hw0, hpq]; exact ⟨by go_simp, by go_simp, by go_simp, by go_simp, by go_simp, by go_simp⟩
  have HP : Hid (w.heap.size ≤ pq) := Lib.hid (by omega)
  replace h := h.below hbf
  replace hqx := hqx.below hbf
  replace hqy := hqy.below hbf
  have HW := Lib.hid hw0; clear hw0
  go_enter Tryz.func13, Tryz.ntmps13
  go_upto_region 1 with fail
  rw [← HW.out, ← hpq]
  clear hpq HW
  have eq0 := hbq.c0
  have eq1 := hbq.c1
  have eq2 := hbq.c2
  go_wp2_with fail
  refine (den_any _ q _ h).mono ?_
  rintro e w1 ⟨r9, rfl, hd, hb⟩
  clear eq0 eq1 eq2
  replace hbq := hbq.kept hb
  replace h := h.below hb
  replace hqx := hqx.below hb
  replace hqy := hqy.below hb
  replace hbf := hbf.trans (hb.mono hbf.size)
  clear hb
  obtain ⟨dO, dL, dC, rfl⟩ := hd.form
  go_wp2_with fail
  refine (cnt_b _ 2 q.den x u _ hd (by decide) (by decide) (den_pos q) (Nat.le_trans hqb (by decide)) (by omega) HX HU).mono ?_
  rintro e w2 ⟨r9, rfl, hn, hb⟩
  replace hbq := hbq.kept hb
  replace h := h.below hb
  replace hqx := hqx.below hb
  replace hqy := hqy.below hb
  replace hd := hd.below hb
  replace hbf := hbf.trans (hb.mono hbf.size)
  clear hb
  obtain ⟨nO, nL, nC, rfl⟩ := hn.form
  obtain ⟨w3, hwE⟩ : ∃ W, W = (w2.alloc (.cells #[.slice nO nL nC] 25)) := ⟨_, rfl⟩
  have hb : Below w2.heap.size w2 w3 := by rw [hwE]; exact ((Below.refl _ w2).alloc (Nat.le_refl _) _)
  obtain ⟨pn, hpn⟩ : ∃ p, p = w2.heap.size := ⟨_, rfl⟩
  have hbn : Box w3 pn (Value.slice nO nL nC) := by rw [hwE, hpn]; exact ⟨by go_simp, by go_simp, by simp <;> omega⟩
  replace HP : Hid (w.heap.size ≤ pq ∧ pq < pn) := Lib.hid (by have h1 := HP.out; have h9 := hbf.size; have h2q := hbq.lt; omega)
  have HW := Lib.hid hwE; clear hwE
  go_upto_region 2 with fail
  rw [← HW.out, ← hpn]
  clear hpn HW
  replace hbq := hbq.kept hb
  replace h := h.below hb
  replace hqx := hqx.below hb
  replace hqy := hqy.below hb
  replace hd := hd.below hb
  replace hn := hn.below hb
  replace hbf := hbf.trans (hb.mono hbf.size)
  clear hb
  obtain ⟨z, hz⟩ : ∃ z, z = crest 5 u := ⟨_, rfl⟩
  have HZ := Lib.hid hz
  have hzl : z = left25 q := by rw [hz, HL.out]
  clear hz
  have en := hbn.cell
  go_wp2_with fail
  refine (cnt_b _ 5 u y z _ hn (by decide) (by decide) hr0 (Nat.le_trans hul (by decide)) (by omega) HY HZ).mono ?_
  rintro e w4 ⟨r9, rfl, hm, hb⟩
  clear en
  replace hbq := hbq.kept hb
  replace hbn := hbn.kept hb
  replace h := h.below hb
  replace hqx := hqx.below hb
  replace hqy := hqy.below hb
  replace hd := hd.below hb
  replace hn := hn.below hb
  replace hbf := hbf.trans (hb.mono hbf.size)
  clear hb
  obtain ⟨mO, mL, mC, rfl⟩ := hm.form
  have en := hbn.cell
  have fn := hbn.free
  go_upto_region 3 with fail
  clear en fn
  obtain ⟨w5, hwE⟩ : ∃ W, W = w4.setCell ⟨pn, 0, none⟩ (Value.slice mO mL mC) := ⟨_, rfl⟩
  rw [← hwE]
  replace h := h.setS (u := (Value.slice mO mL mC)) hbn; rw [← hwE] at h
  replace hqx := hqx.setS (u := (Value.slice mO mL mC)) hbn; rw [← hwE] at hqx
  replace hqy := hqy.setS (u := (Value.slice mO mL mC)) hbn; rw [← hwE] at hqy
  replace hd := hd.setS (u := (Value.slice mO mL mC)) hbn; rw [← hwE] at hd
  replace hn := hn.setS (u := (Value.slice mO mL mC)) hbn; rw [← hwE] at hn
  replace hm := hm.setS (u := (Value.slice mO mL mC)) hbn; rw [← hwE] at hm
  replace hbq := hbq.setOther (show pq ≠ pn by have := HP.out; omega) 0 (Value.slice mO mL mC); rw [← hwE] at hbq
  replace hbf := hbf.setCell (p := ⟨pn, 0, none⟩) (show w.heap.size ≤ pn by have := HP.out; omega) (Value.slice mO mL mC); rw [← hwE] at hbf
  replace hbn := hbn.set (Value.slice mO mL mC); rw [← hwE] at hbn; clear hwE
  have hz1 : 1 < z := by have h1 := left25_pos q; have h2 : ¬ left25 q = 1 := of_decide_eq_false hf; rw [hzl]; omega
  refine wp_region_seq (S := fun w' => Box w' pn (Value.slice mO mL mC)) [(true, 0), (false, 1), (false, 2), (true, 3)] (by kernel_rfl) (by kernel_rfl) (by kernel_rfl) (by kernel_rfl) (by kernel_rfl) (fun d _ _ _ _ h => by cases d <;> exact h) hbn.drew (fun _ => ?_)
  simp only [pickOps, List.append_eq, List.cons_append, List.nil_append, List.getElem?_toArray, List.getElem?_cons_succ, List.getElem?_cons_zero]
  have hb : Below w5.heap.size w5 w5.drew := (Below.refl _ _).drew
  generalize w5.drew = w6 at hb ⊢
  replace hbq := hbq.kept hb
  replace hbn := hbn.kept hb
  replace h := h.below hb
  replace hqx := hqx.below hb
  replace hqy := hqy.below hb
  replace hd := hd.below hb
  replace hn := hn.below hb
  replace hm := hm.below hb
  replace hbf := hbf.trans (hb.mono hbf.size)
  clear hb
  repeat (first | (refine seq_take (v := ?_) (by rfl) ?_ ?_; rotate_left; (· intro w hSw; (try dsimp only at hSw); obtain ⟨en, _, _⟩ := hSw; go_simp; all_goals with_reducible rfl); (try simp only [Act.put, List.setIfInBounds_toArray, List.set_cons_zero, List.set_cons_succ])) | (refine seq_leave (by rfl) ?_; (try simp only [Act.put, List.setIfInBounds_toArray, List.set_cons_zero, List.set_cons_succ])))
  refine seq_step (by rfl) (fun K hK => ?_)
  go_simp
  go_at_call 23
  (with_reducible refine (of_one _).mono ?_)
  rintro e w7 ⟨r9, rfl, ho, hb⟩
  obtain ⟨oO, oL, oC, rfl⟩ := ho.form
  replace hbq := hbq.kept hb
  replace hbn := hbn.kept hb
  replace h := h.below hb
  replace hqx := hqx.below hb
  replace hqy := hqy.below hb
  replace hd := hd.below hb
  replace hn := hn.below hb
  replace hm := hm.below hb
  replace hbf := hbf.trans (hb.mono hbf.size)
  clear hb
  first | refine hK.out _ _ hbn (fun _ => ?_) | (go_wp2_with fail; refine hK.out _ _ hbn (fun _ => ?_))
  clear hK K
  (try simp only [Act.put, List.setIfInBounds_toArray, List.set_cons_zero, List.set_cons_succ])
  refine seq_step (by rfl) (fun K hK => ?_)
  go_simp
  go_at_call 42
  (with_reducible refine (ncmp_more _ _ z _ hm ho hz1).mono ?_)
  rintro e w8 ⟨rfl, hb⟩
  replace hbq := hbq.kept hb
  replace hbn := hbn.kept hb
  replace h := h.below hb
  replace hqx := hqx.below hb
  replace hqy := hqy.below hb
  replace hd := hd.below hb
  replace hn := hn.below hb
  replace hm := hm.below hb
  replace ho := ho.below hb
  replace hbf := hbf.trans (hb.mono hbf.size)
  clear hb
  first | refine hK.out _ _ hbn (fun _ => ?_) | (go_wp2_with fail; refine hK.out _ _ hbn (fun _ => ?_))
  clear hK K
  (try simp only [Act.put, List.setIfInBounds_toArray, List.set_cons_zero, List.set_cons_succ])
  repeat (first | (refine seq_take (v := ?_) (by rfl) ?_ ?_; rotate_left; (· intro w hSw; (try dsimp only at hSw); obtain ⟨en, _, _⟩ := hSw; go_simp; all_goals with_reducible rfl); (try simp only [Act.put, List.setIfInBounds_toArray, List.set_cons_zero, List.set_cons_succ])) | (refine seq_leave (by rfl) ?_; (try simp only [Act.put, List.setIfInBounds_toArray, List.set_cons_zero, List.set_cons_succ])))
  refine seq_end ?_
  go_wp2_with fail
  go_ret2
  exact ⟨rfl, hbf⟩

theorem places_b (v : Value) (q : Rat) (p : Nat) (is : Bool) (w : World) (h : QIs w v q) (hqb : (limbs q.den).length ≤ 1300) (hf : Hid (is = fin q)) (hp : Hid (p = if is = true then places q else 0)) : Calls Tryz.prog 13 #[v] w fun e w' => e = .returned (.tuple #[.int .i64 (p : Nat), .bool is]) ∧ Below w.heap.size w w' := by
  have h1 := hf.out
  have h2 := hp.out
  cases is
  · rw [h2]; exact places_no v q w h hqb h1.symm
  · rw [h2]; exact places_yes v q w h hqb h1.symm

set_option maxRecDepth 100000 in
set_option maxHeartbeats 1000000 in
/-- Finite. -/
theorem finite_b (v : Value) (q : Rat) (is : Bool) (w : World) (h : QIs w v q) (hqb : (limbs q.den).length ≤ 1300) (hf : Hid (is = fin q)) : Calls Tryz.prog 16 #[v] w fun e w' => e = .returned (.bool is) ∧ Below w.heap.size w w' := by
  obtain ⟨qB, qxO, qxL, qxC, qyO, qyL, qyC, rfl, hS, hqx, hqy⟩ := h.form
  have HqS := Lib.hid hS; clear hS
  obtain ⟨p, hp⟩ : ∃ p, p = if is = true then places q else 0 := ⟨_, rfl⟩
  have HPP := Lib.hid hp
  clear hp
  obtain ⟨w0, hw0⟩ : ∃ w0, w0 = (w.alloc (.cells #[.bool qB, .slice qxO qxL qxC, .slice qyO qyL qyC] 27)) := ⟨_, rfl⟩
  have hbf : Below w.heap.size w w0 := by rw [hw0]; exact ((Below.refl _ w).alloc (Nat.le_refl _) _)
  obtain ⟨pq, hpq⟩ : ∃ p, p = w.heap.size := ⟨_, rfl⟩
  have hbq : Box3 w0 pq (Value.bool qB) (Value.slice qxO qxL qxC) (Value.slice qyO qyL qyC) := by rw [hw0, hpq]; exact ⟨by go_simp, by go_simp, by go_simp, by go_simp, by go_simp, by go_simp⟩
  have HP : Hid (w.heap.size ≤ pq) := Lib.hid (by omega)
  replace h := h.below hbf
  replace hqx := hqx.below hbf
  replace hqy := hqy.below hbf
  have HW := Lib.hid hw0; clear hw0
  go_enter Tryz.func16, Tryz.ntmps16
  go_upto_region 1 with fail
  rw [← HW.out, ← hpq]
  clear hpq HW
  have eq0 := hbq.c0
  have eq1 := hbq.c1
  have eq2 := hbq.c2
  go_wp2_with fail
  refine (places_b _ q p is _ h hqb hf HPP).mono ?_
  rintro e w1 ⟨rfl, hb⟩
  clear eq0 eq1 eq2
  replace hbq := hbq.kept hb
  replace h := h.below hb
  replace hqx := hqx.below hb
  replace hqy := hqy.below hb
  replace hbf := hbf.trans (hb.mono hbf.size)
  clear hb
  go_wp2_with fail
  go_ret
  exact ⟨rfl, hbf⟩

set_option maxRecDepth 100000 in
set_option maxHeartbeats 1000000 in
/-- Text of no literal. -/
theorem ltext_no (v : Value) (q : Rat) (w : World) (h : QIs w v q) (hqb : (limbs q.den).length ≤ 1300) (hf : fin q = false) : Calls Tryz.prog 14 #[v] w fun e w' => e = .returned (.tuple #[.string ⟨#[]⟩, .int .i64 14]) ∧ Below w.heap.size w w' := by
  obtain ⟨qB, qxO, qxL, qxC, qyO, qyL, qyC, rfl, hS, hqx, hqy⟩ := h.form
  have HqS := Lib.hid hS; clear hS
  obtain ⟨w0, hw0⟩ : ∃ w0, w0 = (w.alloc (.cells #[.bool qB, .slice qxO qxL qxC, .slice qyO qyL qyC] 27)) := ⟨_, rfl⟩
  have hbf : Below w.heap.size w w0 := by rw [hw0]; exact ((Below.refl _ w).alloc (Nat.le_refl _) _)
  obtain ⟨pq, hpq⟩ : ∃ p, p = w.heap.size := ⟨_, rfl⟩
  have hbq : Box3 w0 pq (Value.bool qB) (Value.slice qxO qxL qxC) (Value.slice qyO qyL qyC) := by rw [hw0, hpq]; exact ⟨by go_simp, by go_simp, by go_simp, by go_simp, by go_simp, by go_simp⟩
  have HP : Hid (w.heap.size ≤ pq) := Lib.hid (by omega)
  replace h := h.below hbf
  replace hqx := hqx.below hbf
  replace hqy := hqy.below hbf
  have HW := Lib.hid hw0; clear hw0
  go_enter Tryz.func14, Tryz.ntmps14
  go_upto_region 1 with fail
  rw [← HW.out, ← hpq]
  clear hpq HW
  have eq0 := hbq.c0
  have eq1 := hbq.c1
  have eq2 := hbq.c2
  go_wp2_with fail
  refine (places_no _ q _ h hqb hf).mono ?_
  rintro e w1 ⟨rfl, hb⟩
  clear eq0 eq1 eq2
  replace hbq := hbq.kept hb
  replace h := h.below hb
  replace hqx := hqx.below hb
  replace hqy := hqy.below hb
  replace hbf := hbf.trans (hb.mono hbf.size)
  clear hb
  have eq0 := hbq.c0
  have eq1 := hbq.c1
  have eq2 := hbq.c2
  go_wp2_with fail
  go_ret2
  exact ⟨rfl, hbf⟩

theorem rep_noughts (c : Nat) : Lib.repeatL [48] c = List.replicate c 48 := by
  induction c with
  | zero => rfl
  | succ c ih => rw [List.replicate_succ, ← ih]; rfl
theorem repeat_b (c : Nat) (R : List UInt8) (w : World) (hc : c ≤ 100000) (hR : Hid (R = List.replicate c (48 : UInt8))) :
    Calls Tryz.prog 46 #[.string ⟨#[48]⟩, .int .i64 (c : Nat)] w fun e w' => e = .returned (.string ⟨R.toArray⟩) ∧ Below w.heap.size w w' := by
  rw [hR.out]
  have h := Tryz.strings_Repeat ⟨#[48]⟩ c w (by omega) (by show 1 * c ≤ _; omega)
  rwa [show (⟨#[48]⟩ : ByteArray).data.toList = [48] from rfl, rep_noughts] at h
theorem text_b (v : Value) (n : Nat) (s : List UInt8) (w : World) (h : NatIs w v n) (hl : (limbs n).length ≤ 100000) (hs : Hid (s = str (dec n))) :
    Calls Tryz.prog 33 #[v] w fun e w' => e = .returned (.string ⟨s.toArray⟩) ∧ Below w.heap.size w w' := by
  rw [hs.out]; exact text_any v n w h hl
theorem neg_z (va : Value) (a : Rat) (b : Bool) (w : World) (ha : QIs w va a) (hb : Hid (b = decide (a < 0))) :
    Calls Tryz.prog 47 #[va] w fun e w' => e = .returned (.bool b) ∧ Below w.heap.size w w' := by
  rw [hb.out]; exact neg_any va a w ha

theorem limbs_ten9 (p : Nat) {K : Nat} (h : p < K) : (limbs (10 ^ p)).length ≤ K := limbs_pow10 (Nat.pow_lt_pow_right (by decide) h)

set_option maxRecDepth 100000 in
set_option maxHeartbeats 4000000 in
/-- Text of a literal. -/
theorem ltext_yes (v : Value) (q : Rat) (w : World) (h : QIs w v q) (hqb : QB q 1300) (hqb2 : (limbs q.den).length ≤ 1300) (hf : fin q = true) (hp12 : places q ≤ 1200) (h1 : (dec q.num.natAbs).length ≤ 1200) (h2 : (dec q.den).length ≤ 1200) : Calls Tryz.prog 14 #[v] w fun e w' => e = .returned (.tuple #[.string ⟨(litText q).toArray⟩, .int .i64 0]) ∧ Below w.heap.size w w' := by
  obtain ⟨qB, qxO, qxL, qxC, qyO, qyL, qyC, rfl, hS, hqx, hqy⟩ := h.form
  have HqS := Lib.hid hS; clear hS
  obtain ⟨p, hp⟩ : ∃ p, p = places q := ⟨_, rfl⟩
  have hpl : p ≤ 1200 := by rw [hp]; exact hp12
  have HPP : Hid (p = if true = true then places q else 0) := Lib.hid hp
  have HTX : Hid (litText q = sgn (decide (q < 0)) ++ ptAt p (padTo p (str (dec (litNum q p))))) := Lib.hid (by rw [hp]; rfl)
  have HF : Hid (true = fin q) := Lib.hid hf.symm
  clear hp hf
  obtain ⟨w0, hw0⟩ : ∃ w0, w0 = (w.alloc (.cells #[.bool qB, .slice qxO qxL qxC, .slice qyO qyL qyC] 27)) := ⟨_, rfl⟩
  have hbf : Below w.heap.size w w0 := by rw [hw0]; exact ((Below.refl _ w).alloc (Nat.le_refl _) _)
  obtain ⟨pq, hpq⟩ : ∃ p, p = w.heap.size := ⟨_, rfl⟩
  have hbq : Box3 w0 pq (Value.bool qB) (Value.slice qxO qxL qxC) (Value.slice qyO qyL qyC) := by rw [hw0, hpq]; exact ⟨by go_simp, by go_simp, by go_simp, by go_simp, by go_simp, by go_simp⟩
  have HP : Hid (w.heap.size ≤ pq) := Lib.hid (by omega)
  replace h := h.below hbf
  replace hqx := hqx.below hbf
  replace hqy := hqy.below hbf
  have HW := Lib.hid hw0; clear hw0
  go_enter Tryz.func14, Tryz.ntmps14
  go_upto_region 1 with fail
  rw [← HW.out, ← hpq]
  clear hpq HW
  have eq0 := hbq.c0
  have eq1 := hbq.c1
  have eq2 := hbq.c2
  go_wp2_with fail
  refine (places_b _ q p true _ h hqb2 HF HPP).mono ?_
  rintro e w1 ⟨rfl, hb⟩
  clear eq0 eq1 eq2
  replace hbq := hbq.kept hb
  replace h := h.below hb
  replace hqx := hqx.below hb
  replace hqy := hqy.below hb
  replace hbf := hbf.trans (hb.mono hbf.size)
  clear hb
  have eq0 := hbq.c0
  have eq1 := hbq.c1
  have eq2 := hbq.c2
  go_wp2_with fail
  refine (big_no _ q _ h (hqb.mono (by decide)) h1 h2).mono ?_
  rintro e w2 ⟨rfl, hb⟩
  clear eq0 eq1 eq2
  replace hbq := hbq.kept hb
  replace h := h.below hb
  replace hqx := hqx.below hb
  replace hqy := hqy.below hb
  replace hbf := hbf.trans (hb.mono hbf.size)
  clear hb
  obtain ⟨s9, hs9⟩ : ∃ s, s = decide (q < 0) := ⟨_, rfl⟩
  have HSG := Lib.hid hs9
  clear hs9
  have hqx9 := hqb.1
  have hlw : (limbs (10 ^ p)).length ≤ 1300 := limbs_ten9 p (K := 1300) (by omega)
  have hlm : (limbs (q.num.natAbs * 10 ^ p)).length ≤ 2600 := limbs_mul hqx9 hlw
  have eq0 := hbq.c0
  have eq1 := hbq.c1
  have eq2 := hbq.c2
  go_wp2_with fail
  clear eq0 eq1 eq2
  have eq0 := hbq.c0
  have eq1 := hbq.c1
  have eq2 := hbq.c2
  skip
  clear eq0 eq1 eq2
  refine wp_region_seqF (S := fun w' => Box3 w' pq (Value.bool qB) (Value.slice qxO qxL qxC) (Value.slice qyO qyL qyC)) [⟨12, 6, .cells #[.slice none 0 0] 25⟩, ⟨13, 7, .cells #[.slice none 0 0] 25⟩] [(true, 0), (true, 2), (true, 5), (false, 1), (false, 3), (false, 4), (false, 6), (false, 7), (true, 8), (true, 9), (true, 10), (true, 11)] [(false, 14), (false, 15), (true, 16)] (by kernel_rfl) (by kernel_rfl) (by kernel_rfl) (by kernel_rfl) (by kernel_rfl) (by kernel_rfl) (by decide) (by decide) (by kernel_rfl) (by rfl) ?_ (fun w8 o8 h8 => ?_) (fun d _ _ _ _ h => by cases d <;> exact h) hbq.drew ?_
  · intro f hf; simp only [List.mem_cons, List.not_mem_nil, or_false] at hf; rcases hf with rfl | rfl <;> exact FlOk.alloc rfl rfl rfl (fun f w => by go_simp)
  · exact Box3.kept h8 ((Below.refl _ _).alloc (Nat.le_refl _) _)
  obtain ⟨B9, hB9⟩ : ∃ B, B = w2.heap.size := ⟨_, rfl⟩
  rw [← hB9]
  simp only [pickOps, List.append_eq, List.cons_append, List.nil_append, List.getElem?_toArray, List.getElem?_cons_succ, List.getElem?_cons_zero]
  have HB9 : Hid (w.heap.size ≤ B9 ∧ pq < B9) := Lib.hid (by have h1 := hbf.size; have h2q := hbq.lt; rw [hB9]; omega)
  clear hB9
  have hb : Below w2.heap.size w2 w2.drew := (Below.refl _ _).drew
  generalize w2.drew = w3 at hb ⊢
  replace hbq := hbq.kept hb
  replace h := h.below hb
  replace hqx := hqx.below hb
  replace hqy := hqy.below hb
  replace hbf := hbf.trans (hb.mono hbf.size)
  clear hb
  repeat (refine seqF_take (v := ?_) (fun t => by rfl) ?_ ?_; rotate_left; (· intro a9 h9 w hSw; (try dsimp only at hSw); obtain ⟨x6, x7, rfl⟩ : ∃ x y, a9 = (Act.put _ (some 6) x).put (some 7) y := ⟨_, _, h9.two⟩; clear h9; obtain ⟨eq0, eq1, eq2, _, _, _⟩ := hSw; (try simp only [Act.put, List.setIfInBounds_toArray, List.set_cons_zero, List.set_cons_succ]); go_simp; all_goals with_reducible rfl); (try simp only [Act.put, List.setIfInBounds_toArray, List.set_cons_zero, List.set_cons_succ]))
  refine seqF_step (fun t => by rfl) (fun a9 w4 h9 hb hS9 K hK => ?_)
  obtain ⟨x6, x7, rfl⟩ : ∃ x y, a9 = (Act.put _ (some 6) x).put (some 7) y := ⟨_, _, h9.two⟩
  clear h9 hS9
  (try simp only [Act.put, List.setIfInBounds_toArray, List.set_cons_zero, List.set_cons_succ] at hK); (try simp only [Act.put, List.setIfInBounds_toArray, List.set_cons_zero, List.set_cons_succ])
  replace hbq := hbq.kept hb
  replace h := h.below hb
  replace hqx := hqx.below hb
  replace hqy := hqy.below hb
  replace hbf := hbf.trans (hb.mono hbf.size)
  clear hb
  go_simp
  go_at_call 45
  (with_reducible refine (num_any _ q _ h).mono ?_)
  rintro e w5 ⟨r9, rfl, hna, hb⟩
  obtain ⟨aO, aL, aC, rfl⟩ := hna.form
  replace hbq := hbq.kept hb
  replace h := h.below hb
  replace hqx := hqx.below hb
  replace hqy := hqy.below hb
  replace hbf := hbf.trans (hb.mono hbf.size)
  have hbK := hb; clear hb
  first | refine hK.out _ _ hbq hbK ?_ | (go_wp2_with fail; refine hK.out _ _ hbq hbK ?_)
  clear hK K hbK
  (try simp only [Act.put, List.setIfInBounds_toArray, List.set_cons_zero, List.set_cons_succ])
  refine seqF_step (fun t => by rfl) (fun a9 w6 h9 hb hS9 K hK => ?_)
  obtain ⟨x6, x7, rfl⟩ : ∃ x y, a9 = (Act.put _ (some 6) x).put (some 7) y := ⟨_, _, h9.two⟩
  clear h9 hS9
  (try simp only [Act.put, List.setIfInBounds_toArray, List.set_cons_zero, List.set_cons_succ] at hK); (try simp only [Act.put, List.setIfInBounds_toArray, List.set_cons_zero, List.set_cons_succ])
  replace hbq := hbq.kept hb
  replace h := h.below hb
  replace hqx := hqx.below hb
  replace hqy := hqy.below hb
  replace hna := hna.below hb
  replace hbf := hbf.trans (hb.mono hbf.size)
  clear hb
  go_simp
  go_at_call 28
  (with_reducible refine (power_any p _ (by omega)).mono ?_)
  rintro e w7 ⟨r9, rfl, hnb, hb⟩
  obtain ⟨bO, bL, bC, rfl⟩ := hnb.form
  replace hbq := hbq.kept hb
  replace h := h.below hb
  replace hqx := hqx.below hb
  replace hqy := hqy.below hb
  replace hna := hna.below hb
  replace hbf := hbf.trans (hb.mono hbf.size)
  have hbK := hb; clear hb
  first | refine hK.out _ _ hbq hbK ?_ | (go_wp2_with fail; refine hK.out _ _ hbq hbK ?_)
  clear hK K hbK
  (try simp only [Act.put, List.setIfInBounds_toArray, List.set_cons_zero, List.set_cons_succ])
  refine seqF_step (fun t => by rfl) (fun a9 w8 h9 hb hS9 K hK => ?_)
  obtain ⟨x6, x7, rfl⟩ : ∃ x y, a9 = (Act.put _ (some 6) x).put (some 7) y := ⟨_, _, h9.two⟩
  clear h9 hS9
  (try simp only [Act.put, List.setIfInBounds_toArray, List.set_cons_zero, List.set_cons_succ] at hK); (try simp only [Act.put, List.setIfInBounds_toArray, List.set_cons_zero, List.set_cons_succ])
  replace hbq := hbq.kept hb
  replace h := h.below hb
  replace hqx := hqx.below hb
  replace hqy := hqy.below hb
  replace hna := hna.below hb
  replace hnb := hnb.below hb
  replace hbf := hbf.trans (hb.mono hbf.size)
  clear hb
  go_simp
  go_at_call 29
  (with_reducible refine (mul_any _ _ q.num.natAbs (10 ^ p) _ hna hnb (by omega) (by omega)).mono ?_)
  rintro e w9 ⟨r9, rfl, hnm, hb⟩
  obtain ⟨mO, mL, mC, rfl⟩ := hnm.form
  replace hbq := hbq.kept hb
  replace h := h.below hb
  replace hqx := hqx.below hb
  replace hqy := hqy.below hb
  replace hna := hna.below hb
  replace hnb := hnb.below hb
  replace hbf := hbf.trans (hb.mono hbf.size)
  have hbK := hb; clear hb
  first | refine hK.out _ _ hbq hbK ?_ | (go_wp2_with fail; refine hK.out _ _ hbq hbK ?_)
  clear hK K hbK
  (try simp only [Act.put, List.setIfInBounds_toArray, List.set_cons_zero, List.set_cons_succ])
  refine seqF_step (fun t => by rfl) (fun a9 w10 h9 hb hS9 K hK => ?_)
  obtain ⟨x6, x7, rfl⟩ : ∃ x y, a9 = (Act.put _ (some 6) x).put (some 7) y := ⟨_, _, h9.two⟩
  clear h9 hS9
  (try simp only [Act.put, List.setIfInBounds_toArray, List.set_cons_zero, List.set_cons_succ] at hK); (try simp only [Act.put, List.setIfInBounds_toArray, List.set_cons_zero, List.set_cons_succ])
  replace hbq := hbq.kept hb
  replace h := h.below hb
  replace hqx := hqx.below hb
  replace hqy := hqy.below hb
  replace hna := hna.below hb
  replace hnb := hnb.below hb
  replace hnm := hnm.below hb
  replace hbf := hbf.trans (hb.mono hbf.size)
  clear hb
  go_simp
  go_at_call 41
  (with_reducible refine (den_any _ q _ h).mono ?_)
  rintro e w11 ⟨r9, rfl, hnd, hb⟩
  obtain ⟨dO, dL, dC, rfl⟩ := hnd.form
  replace hbq := hbq.kept hb
  replace h := h.below hb
  replace hqx := hqx.below hb
  replace hqy := hqy.below hb
  replace hna := hna.below hb
  replace hnb := hnb.below hb
  replace hnm := hnm.below hb
  replace hbf := hbf.trans (hb.mono hbf.size)
  have hbK := hb; clear hb
  first | refine hK.out _ _ hbq hbK ?_ | (go_wp2_with fail; refine hK.out _ _ hbq hbK ?_)
  clear hK K hbK
  (try simp only [Act.put, List.setIfInBounds_toArray, List.set_cons_zero, List.set_cons_succ])
  refine seqF_step (fun t => by rfl) (fun a9 w12 h9 hb hS9 K hK => ?_)
  obtain ⟨x6, x7, rfl⟩ : ∃ x y, a9 = (Act.put _ (some 6) x).put (some 7) y := ⟨_, _, h9.two⟩
  clear h9 hS9
  (try simp only [Act.put, List.setIfInBounds_toArray, List.set_cons_zero, List.set_cons_succ] at hK); (try simp only [Act.put, List.setIfInBounds_toArray, List.set_cons_zero, List.set_cons_succ])
  replace hbq := hbq.kept hb
  replace h := h.below hb
  replace hqx := hqx.below hb
  replace hqy := hqy.below hb
  replace hna := hna.below hb
  replace hnb := hnb.below hb
  replace hnm := hnm.below hb
  replace hnd := hnd.below hb
  replace hbf := hbf.trans (hb.mono hbf.size)
  clear hb
  go_simp
  go_at_call 44
  (with_reducible refine (divmod_any _ _ (q.num.natAbs * 10 ^ p) q.den _ hnm hnd (by omega) (by omega)).mono ?_)
  rintro e w13 ⟨r9, s9, rfl, hx, hy, hb⟩
  obtain ⟨xO, xL, xC, rfl⟩ := hx.form
  obtain ⟨yO, yL, yC, rfl⟩ := hy.form
  replace hbq := hbq.kept hb
  replace h := h.below hb
  replace hqx := hqx.below hb
  replace hqy := hqy.below hb
  replace hna := hna.below hb
  replace hnb := hnb.below hb
  replace hnm := hnm.below hb
  replace hnd := hnd.below hb
  replace hbf := hbf.trans (hb.mono hbf.size)
  have hbK := hb; clear hb
  first | refine hK.out _ _ hbq hbK ?_ | (go_wp2_with fail; refine hK.out _ _ hbq hbK ?_)
  clear hK K hbK
  (try simp only [Act.put, List.setIfInBounds_toArray, List.set_cons_zero, List.set_cons_succ])
  repeat (refine seqF_take (v := ?_) (fun t => by rfl) ?_ ?_; rotate_left; (· intro a9 h9 w hSw; (try dsimp only at hSw); obtain ⟨x6, x7, rfl⟩ : ∃ x y, a9 = (Act.put _ (some 6) x).put (some 7) y := ⟨_, _, h9.two⟩; clear h9; obtain ⟨eq0, eq1, eq2, _, _, _⟩ := hSw; (try simp only [Act.put, List.setIfInBounds_toArray, List.set_cons_zero, List.set_cons_succ]); go_simp; all_goals with_reducible rfl); (try simp only [Act.put, List.setIfInBounds_toArray, List.set_cons_zero, List.set_cons_succ]))
  refine seqF_end (fun a9 w14 h9 hb hS9 hAt hNe => ?_)
  obtain ⟨x6, x7, rfl⟩ : ∃ x y, a9 = (Act.put _ (some 6) x).put (some 7) y := ⟨_, _, h9.two⟩
  clear h9 hS9
  (try simp only [Act.put, List.setIfInBounds_toArray, List.set_cons_zero, List.set_cons_succ])
  (try simp only [Act.put, List.setIfInBounds_toArray, List.set_cons_zero, List.set_cons_succ] at hAt hNe)
  replace hbq := hbq.kept hb
  replace h := h.below hb
  replace hqx := hqx.below hb
  replace hqy := hqy.below hb
  replace hna := hna.below hb
  replace hnb := hnb.below hb
  replace hnm := hnm.below hb
  replace hnd := hnd.below hb
  replace hx := hx.below hb
  replace hy := hy.below hb
  replace hbf := hbf.trans (hb.mono hbf.size)
  clear hb
  obtain ⟨pn, hxn, hgn, hhn⟩ := (hAt ⟨12, 6, .cells #[.slice none 0 0] 25⟩ (by simp)).slot rfl
  have hbn := box_heap hhn; clear hhn
  replace hxn : x6 = _ := hxn
  obtain ⟨pt, hxt, hgt, hht⟩ := (hAt ⟨13, 7, .cells #[.slice none 0 0] 25⟩ (by simp)).slot rfl
  have hbt := box_heap hht; clear hht
  replace hxt : x7 = _ := hxt
  have hnent : Hid (pn ≠ pt) := Lib.hid fun h7 => hNe ⟨12, 6, .cells #[.slice none 0 0] 25⟩ (by simp) ⟨13, 7, .cells #[.slice none 0 0] 25⟩ (by simp) (by decide) (show x6 = x7 by rw [hxn, hxt, h7])
  clear hAt hNe
  subst hxn
  subst hxt
  replace HP : Hid (w.heap.size ≤ pq ∧ pq < pn ∧ pq < pt) := Lib.hid (by have h1 := HP.out; have h2 := HB9.out; omega)
  clear HB9 hgn hgt
  simp only [pickOps, List.append_eq, List.cons_append, List.nil_append, List.getElem?_toArray, List.getElem?_cons_succ, List.getElem?_cons_zero]
  refine seq_step (by rfl) (fun K hK => ?_)
  have en := hbn.cell
  have fn := hbn.free
  go_simp
  clear en fn
  obtain ⟨w15, hwE⟩ : ∃ W, W = w14.setCell ⟨pn, 0, none⟩ (Value.slice xO xL xC) := ⟨_, rfl⟩
  rw [← hwE]
  replace h := h.setS (u := (Value.slice xO xL xC)) hbn; rw [← hwE] at h
  replace hqx := hqx.setS (u := (Value.slice xO xL xC)) hbn; rw [← hwE] at hqx
  replace hqy := hqy.setS (u := (Value.slice xO xL xC)) hbn; rw [← hwE] at hqy
  replace hna := hna.setS (u := (Value.slice xO xL xC)) hbn; rw [← hwE] at hna
  replace hnb := hnb.setS (u := (Value.slice xO xL xC)) hbn; rw [← hwE] at hnb
  replace hnm := hnm.setS (u := (Value.slice xO xL xC)) hbn; rw [← hwE] at hnm
  replace hnd := hnd.setS (u := (Value.slice xO xL xC)) hbn; rw [← hwE] at hnd
  replace hx := hx.setS (u := (Value.slice xO xL xC)) hbn; rw [← hwE] at hx
  replace hy := hy.setS (u := (Value.slice xO xL xC)) hbn; rw [← hwE] at hy
  replace hbq := hbq.setOther (show pq ≠ pn by have := HP.out; omega) 0 (Value.slice xO xL xC); rw [← hwE] at hbq
  replace hbt := hbt.setOther (Hid.out hnent).symm 0 (Value.slice xO xL xC); rw [← hwE] at hbt
  replace hbf := hbf.setCell (p := ⟨pn, 0, none⟩) (show w.heap.size ≤ pn by have := HP.out; omega) (Value.slice xO xL xC); rw [← hwE] at hbf
  replace hbn := hbn.set (Value.slice xO xL xC); rw [← hwE] at hbn; clear hwE
  first | refine hK.out _ _ hbq (fun _ => ?_) | (go_wp2_with fail; refine hK.out _ _ hbq (fun _ => ?_))
  clear hK K
  (try simp only [Act.put, List.setIfInBounds_toArray, List.set_cons_zero, List.set_cons_succ])
  refine seq_step (by rfl) (fun K hK => ?_)
  have et := hbt.cell
  have ft := hbt.free
  go_simp
  clear et ft
  obtain ⟨w16, hwE⟩ : ∃ W, W = w15.setCell ⟨pt, 0, none⟩ (Value.slice yO yL yC) := ⟨_, rfl⟩
  rw [← hwE]
  replace h := h.setS (u := (Value.slice yO yL yC)) hbt; rw [← hwE] at h
  replace hqx := hqx.setS (u := (Value.slice yO yL yC)) hbt; rw [← hwE] at hqx
  replace hqy := hqy.setS (u := (Value.slice yO yL yC)) hbt; rw [← hwE] at hqy
  replace hna := hna.setS (u := (Value.slice yO yL yC)) hbt; rw [← hwE] at hna
  replace hnb := hnb.setS (u := (Value.slice yO yL yC)) hbt; rw [← hwE] at hnb
  replace hnm := hnm.setS (u := (Value.slice yO yL yC)) hbt; rw [← hwE] at hnm
  replace hnd := hnd.setS (u := (Value.slice yO yL yC)) hbt; rw [← hwE] at hnd
  replace hx := hx.setS (u := (Value.slice yO yL yC)) hbt; rw [← hwE] at hx
  replace hy := hy.setS (u := (Value.slice yO yL yC)) hbt; rw [← hwE] at hy
  replace hbq := hbq.setOther (show pq ≠ pt by have := HP.out; omega) 0 (Value.slice yO yL yC); rw [← hwE] at hbq
  replace hbn := hbn.setOther (Hid.out hnent) 0 (Value.slice yO yL yC); rw [← hwE] at hbn
  replace hbf := hbf.setCell (p := ⟨pt, 0, none⟩) (show w.heap.size ≤ pt by have := HP.out; omega) (Value.slice yO yL yC); rw [← hwE] at hbf
  replace hbt := hbt.set (Value.slice yO yL yC); rw [← hwE] at hbt; clear hwE
  first | refine hK.out _ _ hbq (fun _ => ?_) | (go_wp2_with fail; refine hK.out _ _ hbq (fun _ => ?_))
  clear hK K
  (try simp only [Act.put, List.setIfInBounds_toArray, List.set_cons_zero, List.set_cons_succ])
  repeat (first | (refine seq_take (v := ?_) (by rfl) ?_ ?_; rotate_left; (· intro w hSw; (try dsimp only at hSw); obtain ⟨eq0, eq1, eq2, _, _, _⟩ := hSw; go_simp; all_goals with_reducible rfl); (try simp only [Act.put, List.setIfInBounds_toArray, List.set_cons_zero, List.set_cons_succ])) | (refine seq_leave (by rfl) ?_; (try simp only [Act.put, List.setIfInBounds_toArray, List.set_cons_zero, List.set_cons_succ])))
  refine seq_end ?_
  have hx2 : NatIs w16 (.agg #[.slice xO xL xC]) (litNum q p) := hx
  obtain ⟨v9, hv9⟩ : ∃ v, v = litNum q p := ⟨_, rfl⟩
  rw [← hv9] at hx2
  have hlv : (limbs v9).length ≤ 2600 := by rw [hv9]; exact Nat.le_trans (limbs_length_mono (Nat.div_le_self _ _)) hlm
  obtain ⟨s, hs⟩ : ∃ s, s = str (dec v9) := ⟨_, rfl⟩
  have HS := Lib.hid hs
  have hsl : s.length ≤ 26001 := by rw [hs]; exact dec_limbsK hlv (by decide)
  have HV := Lib.hid hv9
  clear hv9 hs
  have en := hbn.cell
  have eq0 := hbq.c0
  have eq1 := hbq.c1
  have eq2 := hbq.c2
  go_wp2_with fail
  refine (text_b _ v9 s _ hx2 (by omega) HS).mono ?_
  rintro e w17 ⟨rfl, hb⟩
  clear en eq0 eq1 eq2
  replace hbq := hbq.kept hb
  replace hbn := hbn.kept hb
  replace hbt := hbt.kept hb
  replace h := h.below hb
  replace hqx := hqx.below hb
  replace hqy := hqy.below hb
  replace hna := hna.below hb
  replace hnb := hnb.below hb
  replace hnm := hnm.below hb
  replace hnd := hnd.below hb
  replace hx := hx.below hb
  replace hy := hy.below hb
  replace hx2 := hx2.below hb
  replace hbf := hbf.trans (hb.mono hbf.size)
  clear hb
  obtain ⟨c, hc⟩ : ∃ c, c = p + 1 - s.length := ⟨_, rfl⟩
  have hmx : max ((p : Int) + 1 - (s.length : Int)) 0 = ((c : Nat) : Int) := by omega
  have hc9 : c ≤ 100000 := by omega
  have HC := Lib.hid hc
  clear hc
  obtain ⟨R, hR⟩ : ∃ R, R = List.replicate c (48 : UInt8) := ⟨_, rfl⟩
  have HRR := Lib.hid hR
  have hrl : R.length = c := by rw [hR, List.length_replicate]
  clear hR
  have eq0 := hbq.c0
  have eq1 := hbq.c1
  have eq2 := hbq.c2
  go_wp2_with fail
  refine (repeat_b c R _ hc9 HRR).mono ?_
  rintro e w18 ⟨rfl, hb⟩
  clear eq0 eq1 eq2
  replace hbq := hbq.kept hb
  replace hbn := hbn.kept hb
  replace hbt := hbt.kept hb
  replace h := h.below hb
  replace hqx := hqx.below hb
  replace hqy := hqy.below hb
  replace hna := hna.below hb
  replace hnb := hnb.below hb
  replace hnm := hnm.below hb
  replace hnd := hnd.below hb
  replace hx := hx.below hb
  replace hy := hy.below hb
  replace hx2 := hx2.below hb
  replace hbf := hbf.trans (hb.mono hbf.size)
  clear hb
  obtain ⟨S, hS⟩ : ∃ S, S = R ++ s := ⟨_, rfl⟩
  have hap : (⟨R.toArray⟩ ++ ⟨s.toArray⟩ : ByteArray) = ⟨S.toArray⟩ := by rw [hS]; exact bytes_append _ _
  have hSP : S = padTo p (str (dec (litNum q p))) := by rw [hS, HRR.out, HC.out, HS.out, HV.out]; rfl
  have HSP := Lib.hid hSP
  have hrl2 : R.length ≤ 100000 := by omega
  have hSl : p + 1 ≤ S.length ∧ S.length ≤ 200000 := by rw [hS, List.length_append]; have := HC.out; omega
  obtain ⟨hS1, hS2⟩ := hSl
  clear hS hSP hmx
  by_cases hp0 : 0 < p
  case pos =>
    obtain ⟨A, hA⟩ : ∃ A, A = S.take (S.length - p) := ⟨_, rfl⟩
    obtain ⟨B, hB⟩ : ∃ B, B = S.drop (S.length - p) := ⟨_, rfl⟩
    obtain ⟨k, hk⟩ : ∃ k, k = S.length - p := ⟨_, rfl⟩
    have hk1 : (S.length : Int) - (p : Int) = (k : Int) := by omega
    have hk2 : ((k : Nat) : Int) ≤ ((S.length : Nat) : Int) := by omega
    have hk3 : (0 : Int) ≤ ((k : Nat) : Int) := by omega
    have hkw : IntKind.i64.wrap ((k : Nat) : Int) = ((k : Nat) : Int) := by simp [IntKind.wrap, IntKind.bits, IntKind.signed]; omega
    have hx1 : (⟨S.toArray⟩ : ByteArray).extract 0 k = ⟨A.toArray⟩ := by rw [bytes_extract, hA, hk]; simp
    have hx3 : (⟨S.toArray⟩ : ByteArray).extract k S.length = ⟨B.toArray⟩ := by rw [bytes_extract, hB, hk]; simp
    have hlA : A.length ≤ 200000 := by rw [hA, List.length_take]; omega
    have hlB : B.length ≤ 200000 := by rw [hB, List.length_drop]; omega
    obtain ⟨C, hC⟩ : ∃ C, C = A ++ [46] := ⟨_, rfl⟩
    obtain ⟨T, hT⟩ : ∃ T, T = C ++ B := ⟨_, rfl⟩
    have hb1 : (⟨A.toArray⟩ ++ ⟨#[46]⟩ : ByteArray) = ⟨C.toArray⟩ := by rw [hC]; exact bytes_append A [46]
    have hb2 : (⟨C.toArray⟩ ++ ⟨B.toArray⟩ : ByteArray) = ⟨T.toArray⟩ := by rw [hT]; exact bytes_append C B
    have hlC : C.length ≤ 200001 := by rw [hC, List.length_append]; simp; omega
    have hlT : T.length ≤ 400001 := by rw [hT, List.length_append]; omega
    have hg1 : ¬ 9223372036854775807 < A.length + 1 := by omega
    have hg2 : ¬ 9223372036854775807 < C.length + B.length := by omega
    have HPT : Hid (T = ptAt p (padTo p (str (dec (litNum q p))))) := Lib.hid (by rw [← HSP.out]; unfold ptAt; rw [if_pos hp0, hT, hC, hA, hB]; simp)
    clear hA hB hC hT hk
    go_wp2_with fail
    refine wp_region_seq (S := fun w' => True) [(true, 0), (true, 1), (true, 2), (true, 3), (true, 4), (true, 5), (true, 6), (true, 7), (true, 8), (true, 9), (true, 10), (true, 11), (true, 12), (true, 13), (true, 14)] (by kernel_rfl) (by kernel_rfl) (by kernel_rfl) (by kernel_rfl) (by kernel_rfl) (fun d _ _ _ _ h => by cases d <;> exact h) True.intro (fun _ => ?_)
    simp only [pickOps, List.append_eq, List.cons_append, List.nil_append, List.getElem?_toArray, List.getElem?_cons_succ, List.getElem?_cons_zero]
    have hb : Below w18.heap.size w18 w18.drew := (Below.refl _ _).drew
    generalize w18.drew = w19 at hb ⊢
    replace hbq := hbq.kept hb
    replace hbn := hbn.kept hb
    replace hbt := hbt.kept hb
    replace h := h.below hb
    replace hqx := hqx.below hb
    replace hqy := hqy.below hb
    replace hna := hna.below hb
    replace hnb := hnb.below hb
    replace hnm := hnm.below hb
    replace hnd := hnd.below hb
    replace hx := hx.below hb
    replace hy := hy.below hb
    replace hx2 := hx2.below hb
    replace hbf := hbf.trans (hb.mono hbf.size)
    clear hb
    repeat (first | (refine seq_take (v := ?_) (by rfl) ?_ ?_; rotate_left; (· intro w hSw; (try dsimp only at hSw); go_simp; all_goals with_reducible rfl); (try simp only [Act.put, List.setIfInBounds_toArray, List.set_cons_zero, List.set_cons_succ])) | (refine seq_leave (by rfl) ?_; (try simp only [Act.put, List.setIfInBounds_toArray, List.set_cons_zero, List.set_cons_succ])))
    refine seq_end ?_
    cases s9
    case false =>
      have eq0 := hbq.c0
      have eq1 := hbq.c1
      have eq2 := hbq.c2
      go_wp2_with fail
      refine (neg_z _ q false _ h HSG).mono ?_
      rintro e w20 ⟨rfl, hb⟩
      clear eq0 eq1 eq2
      replace hbq := hbq.kept hb
      replace hbn := hbn.kept hb
      replace hbt := hbt.kept hb
      replace h := h.below hb
      replace hqx := hqx.below hb
      replace hqy := hqy.below hb
      replace hna := hna.below hb
      replace hnb := hnb.below hb
      replace hnm := hnm.below hb
      replace hnd := hnd.below hb
      replace hx := hx.below hb
      replace hy := hy.below hb
      replace hx2 := hx2.below hb
      replace hbf := hbf.trans (hb.mono hbf.size)
      clear hb
      go_wp2_with fail
      go_ret2
      exact ⟨by rw [HTX.out, ← HSG.out, ← HPT.out]; rfl, hbf⟩
    case true =>
      have eq0 := hbq.c0
      have eq1 := hbq.c1
      have eq2 := hbq.c2
      go_wp2_with fail
      refine (neg_z _ q true _ h HSG).mono ?_
      rintro e w20 ⟨rfl, hb⟩
      clear eq0 eq1 eq2
      replace hbq := hbq.kept hb
      replace hbn := hbn.kept hb
      replace hbt := hbt.kept hb
      replace h := h.below hb
      replace hqx := hqx.below hb
      replace hqy := hqy.below hb
      replace hna := hna.below hb
      replace hnb := hnb.below hb
      replace hnm := hnm.below hb
      replace hnd := hnd.below hb
      replace hx := hx.below hb
      replace hy := hy.below hb
      replace hx2 := hx2.below hb
      replace hbf := hbf.trans (hb.mono hbf.size)
      clear hb
      have hbp : (⟨#[45]⟩ ++ ⟨T.toArray⟩ : ByteArray) = ⟨(litText q).toArray⟩ := by rw [HTX.out, ← HSG.out, ← HPT.out]; exact bytes_append [45] T
      go_wp2_with fail
      go_ret2
      exact ⟨rfl, hbf⟩
  case neg =>
    have HPT : Hid (S = ptAt p (padTo p (str (dec (litNum q p))))) := Lib.hid (by rw [← HSP.out]; unfold ptAt; rw [if_neg hp0])
    cases s9
    case false =>
      have eq0 := hbq.c0
      have eq1 := hbq.c1
      have eq2 := hbq.c2
      go_wp2_with fail
      refine (neg_z _ q false _ h HSG).mono ?_
      rintro e w19 ⟨rfl, hb⟩
      clear eq0 eq1 eq2
      replace hbq := hbq.kept hb
      replace hbn := hbn.kept hb
      replace hbt := hbt.kept hb
      replace h := h.below hb
      replace hqx := hqx.below hb
      replace hqy := hqy.below hb
      replace hna := hna.below hb
      replace hnb := hnb.below hb
      replace hnm := hnm.below hb
      replace hnd := hnd.below hb
      replace hx := hx.below hb
      replace hy := hy.below hb
      replace hx2 := hx2.below hb
      replace hbf := hbf.trans (hb.mono hbf.size)
      clear hb
      go_wp2_with fail
      go_ret2
      exact ⟨by rw [HTX.out, ← HSG.out, ← HPT.out]; rfl, hbf⟩
    case true =>
      have eq0 := hbq.c0
      have eq1 := hbq.c1
      have eq2 := hbq.c2
      go_wp2_with fail
      refine (neg_z _ q true _ h HSG).mono ?_
      rintro e w19 ⟨rfl, hb⟩
      clear eq0 eq1 eq2
      replace hbq := hbq.kept hb
      replace hbn := hbn.kept hb
      replace hbt := hbt.kept hb
      replace h := h.below hb
      replace hqx := hqx.below hb
      replace hqy := hqy.below hb
      replace hna := hna.below hb
      replace hnb := hnb.below hb
      replace hnm := hnm.below hb
      replace hnd := hnd.below hb
      replace hx := hx.below hb
      replace hy := hy.below hb
      replace hx2 := hx2.below hb
      replace hbf := hbf.trans (hb.mono hbf.size)
      clear hb
      have hbp : (⟨#[45]⟩ ++ ⟨S.toArray⟩ : ByteArray) = ⟨(litText q).toArray⟩ := by rw [HTX.out, ← HSG.out, ← HPT.out]; exact bytes_append [45] S
      go_wp2_with fail
      go_ret2
      exact ⟨rfl, hbf⟩

end Go.Proofs.YtkghahehkeaikaaGreatDoor
