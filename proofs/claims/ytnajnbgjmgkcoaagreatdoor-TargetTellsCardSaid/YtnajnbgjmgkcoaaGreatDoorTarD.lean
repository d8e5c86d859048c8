/-
  Targets: All.
-/
import Derived.Test.YtnajnbgjmgkcoaaGreatDoorTarB
import Derived.Test.YtnajnbgjmgkcoaaGreatDoorBookT
import Derived.Test.YtnajnbgjmgkcoaaGreatDoorSeqT
import Derived.Deep.LoopGhost
namespace Go.Proofs.YtnajnbgjmgkcoaaGreatDoor
open Go.RowKit
set_option linter.unusedVariables false
set_option linter.unusedSimpArgs false
attribute [local go_sem] field_nat

/-- out = append(out, x) as one step of a region. -/
theorem step_append1 {P : Program} {t e : TypeId} {z : Value} {bytes : Nat} (E : Elem P t e z bytes) {w : World} {o : Oper} {a : Act} {K : Act → World → Prop} {Q : Exit → Act → World → Prop} {s x : Operand} {u : Value} {base : Nat} {v : Value} {xs : List Value} {ad : Addr}
    (hown : Owns base e w v xs) (ho : o.op = .call { callee := .builtin .append, args := #[s, x], argTypes := #[t, t] }) (hs : a.eval s = v) (hx : a.eval x = .slice (some ad) 1 1) (hu : w.cell? ad = some u) (h1 : u.oneCell' = true) (hl : (xs.length + 1) * bytes ≤ 140737488355328) (hm : xs.length + 1 ≤ maxLen) (hbase : base ≤ w.heap.size)
    (h : ∀ v' w', Owns base e w' v' (xs ++ [u]) → w.grownBy w' v.ownBlock → K (a.put o.dst v') w') : Oper.wp P o a w K Q := by
  obtain ⟨v', w', hrun, r1, r2, r3, r4⟩ := run_append1 E o.type hown ad 1 u hu h1 hl hm hbase
  unfold Oper.wp
  simp [execOp, ho, resolve, invoke, builtin, hs, hx, hrun, Result.andThen]
  exact h _ _ r1 r2
/-- What a target makes of a list of texts. -/
def tall (mn mx fa co : List UInt8) (c : Int) (ls : List (List UInt8)) : List (List UInt8) := ls.map (tapply mn mx fa co c)
theorem tall_take {mn mx fa co : List UInt8} {c : Int} {ls : List (List UInt8)} {i : Nat} (hi : i < ls.length) : svals (tall mn mx fa co c (ls.take i)) ++ [.string ⟨(tapply mn mx fa co c (ls[i]?.getD [])).toArray⟩] = svals (tall mn mx fa co c (ls.take (i + 1))) := by
  rw [List.take_add_one, List.getElem?_eq_getElem hi]
  unfold svals tall
  rw [List.map_append, List.map_append]; rfl
theorem load_res {w : World} {p : Addr} {v : Value} (hc : w.cell? p = some v) : (loadVar 30 p).run Tryz.prog w = .ok (.agg #[v]) w := by
  simp [go_sem, hc]
theorem ret_res {fn : Func} {s : Nat} {R : Ending → World → Prop} {a : Act} {w : World} {p : Addr} {v : Value} (hres : fn.results = #[.cell s 30]) (hp : a.tmps.getD s undef = .pointer (some p)) (hc : w.cell? p = some v) (hd : a.defers = []) (hR : R (.returned (.agg #[v])) w) : bodyPost Tryz.prog fn R .ret a w := by
  refine bodyPost_ret (v := .agg #[v]) ?_ hd hR
  have hp' : a.tmps[s]?.getD undef = .pointer (some p) := by simpa using hp
  simp only [results, hres]
  simp [Sem.run_bind, Sem.run_pure, Result.andThen, hp', asAddr, load_res hc]

set_option maxRecDepth 100000 in
set_option maxHeartbeats 1000000 in
/-- All. -/
theorem all_any (mn mx fa co : List UInt8) (c : Int) (sv : Value) (ls : List (List UInt8)) (w : World) (hs : Strs w sv ls) (h1 : mn.length ≤ maxL) (h2 : mx.length ≤ maxL) (h3 : fa.length ≤ maxL) (h4 : co.length ≤ maxL) (hn : ls.length ≤ 1000000) (hlen : ∀ l ∈ ls, l.length ≤ maxL) : Calls Tryz.prog 8 #[tgtV mn mx fa co c, .agg #[sv]] w fun e w' => ∃ v, e = .returned (.agg #[v]) ∧ Owns w.heap.size 9 w' v (svals (tall mn mx fa co c ls)) ∧ Below w.heap.size w w' := by
  obtain ⟨ro, rc, rfl, hr1, hr2, hr3⟩ := hs
  unfold maxLen at hr2
  obtain ⟨w0, hw0⟩ : ∃ w0, w0 = (((w.alloc (.cells #[.string ⟨mn.toArray⟩, .string ⟨mx.toArray⟩, .string ⟨fa.toArray⟩, .string ⟨co.toArray⟩, .int .i64 c] 23)).alloc (.cells #[.slice ro ls.length rc] 30)).alloc (.cells #[.slice none 0 0] 30)) := ⟨_, rfl⟩
  have hbf : Below w.heap.size w w0 := by rw [hw0]; exact ((((Below.refl _ w).alloc (Nat.le_refl _) _).alloc (by simp <;> omega) _).alloc (by simp <;> omega) _)
  obtain ⟨pg, hpg⟩ : ∃ p, p = w.heap.size := ⟨_, rfl⟩
  have hbg : Box5 w0 pg (Value.string ⟨mn.toArray⟩) (Value.string ⟨mx.toArray⟩) (Value.string ⟨fa.toArray⟩) (Value.string ⟨co.toArray⟩) (Value.int .i64 c) := by rw [hw0, hpg]; exact ⟨by go_simp, by go_simp, by go_simp, by go_simp, by go_simp, by go_simp, by go_simp, by go_simp, by go_simp, by go_simp⟩
  obtain ⟨pr, hpr⟩ : ∃ p, p = w.heap.size + 1 := ⟨_, rfl⟩
  have hbr : Box w0 pr (Value.slice ro ls.length rc) := by rw [hw0, hpr]; exact ⟨by go_simp, by go_simp, by simp <;> omega⟩
  obtain ⟨po, hpo⟩ : ∃ p, p = w.heap.size + 1 + 1 := ⟨_, rfl⟩
  have hbo : Box w0 po (Value.slice none 0 0) := by rw [hw0, hpo]; exact ⟨by go_simp, by go_simp, by simp <;> omega⟩
  have HP : Hid (w.heap.size ≤ pg ∧ pg < pr ∧ pr < po) := Lib.hid (by omega)
  have HW := Lib.hid hw0; clear hw0
  go_enter Tryz.func8, Tryz.ntmps8
  go_upto_region 1 with fail
  rw [← HW.out, ← hpo, ← hpr, ← hpg]
  clear hpg hpr hpo HW
  obtain ⟨w1, hwE⟩ : ∃ W, W = (w0.alloc (.cells #[.slice none 0 0] 30)) := ⟨_, rfl⟩
  have hb : Below w0.heap.size w0 w1 := by rw [hwE]; exact ((Below.refl _ w0).alloc (Nat.le_refl _) _)
  obtain ⟨pu, hpu⟩ : ∃ p, p = w0.heap.size := ⟨_, rfl⟩
  have hbu : Box w1 pu (Value.slice none 0 0) := by rw [hwE, hpu]; exact ⟨by go_simp, by go_simp, by simp <;> omega⟩
  replace HP : Hid (w.heap.size ≤ pg ∧ pg < pr ∧ pr < po ∧ po < pu) := Lib.hid (by have h1 := HP.out; have h9 := hbf.size; have h2o := hbo.lt; omega)
  have HW := Lib.hid hwE; clear hwE
  go_upto_region 2 with fail
  rw [← HW.out, ← hpu]
  clear hpu HW
  replace hbg := hbg.kept hb
  replace hbr := hbr.kept hb
  replace hbo := hbo.kept hb
  replace hbf := hbf.trans (hb.mono hbf.size)
  clear hb
  have er := hbr.cell
  go_wp2_with fail
  (try go_step3)
  (try go_wp2_with fail)
  (try go_step3)
  (try go_wp2_with fail)
  clear er
  obtain ⟨B0, hB0⟩ : ∃ B, B = w1.heap.size := ⟨_, rfl⟩
  have HB0 : Hid (pu < B0 ∧ pg < B0 ∧ pr < B0 ∧ po < B0 ∧ w.heap.size ≤ B0) := Lib.hid (by have := hbu.lt; have := hbg.lt; have := hbr.lt; have := hbo.lt; have := hbf.size; omega)
  go_loopg [11] ls.length (fun gg iv wr => ∃ (i : Nat) (uo : Option Addr) (ul uc : Nat), i + gg = ls.length ∧ iv = .int .i64 (i : Int) ∧ Box5 wr pg (Value.string ⟨mn.toArray⟩) (Value.string ⟨mx.toArray⟩) (Value.string ⟨fa.toArray⟩) (Value.string ⟨co.toArray⟩) (Value.int .i64 c) ∧ Box wr pr (Value.slice ro ls.length rc) ∧ Box wr po (Value.slice none 0 0) ∧ Box wr pu (.slice uo ul uc) ∧ Owns B0 9 wr (.slice uo ul uc) (svals (tall mn mx fa co c (ls.take i))) ∧ Below w.heap.size w wr ∧ B0 ≤ wr.heap.size)
  case atStart => exact ⟨0, none, 0, 0, by omega, rfl, hbg, hbr, hbo, hbu, Owns.nil _ _ _, hbf, by omega⟩
  clear hbg hbr hbo hbu hbf hB0
  case round =>
    obtain ⟨i, uo, ul, uc, hi, rfl, hbg, hbr, hbo, hbu, hown, hbf, hB0⟩ := hrel
    by_cases hil : i < ls.length
    case pos =>
      rcases hr3 with h | ⟨gb, off, rfl, hgb, hcb⟩
      · rw [h] at hil; simp at hil
      have es := (hbf.cell (p := ⟨gb, off + i, none⟩) hgb).trans (hcb i hil)
      have HTK := Lib.hid (tall_take (mn := mn) (mx := mx) (fa := fa) (co := co) (c := c) hil)
      have hsl : (ls[i]?.getD []).length ≤ maxL := by rw [List.getElem?_eq_getElem hil]; exact hlen _ (List.getElem_mem hil)
      obtain ⟨T9, hT9⟩ : ∃ t, tapply mn mx fa co c (ls[i]?.getD []) = t := ⟨_, rfl⟩
      have HT9 := Lib.hid hT9
      rw [hT9] at HTK
      generalize ls[i]?.getD [] = s at *
      have q1 : (i : Int) < (ls.length : Int) := by omega
      have q2 : (0 : Int) ≤ (i : Int) := by omega
      clear hcb hT9
      go_upto_region 5 with fail
      refine wp_region_seqT (S := fun w' => Box5 w' pg (Value.string ⟨mn.toArray⟩) (Value.string ⟨mx.toArray⟩) (Value.string ⟨fa.toArray⟩) (Value.string ⟨co.toArray⟩) (Value.int .i64 c) ∧ Box w' pu (Value.slice uo ul uc)) [(true, 0), (true, 1), (true, 2), (true, 3), (false, 4), (false, 5), (false, 6), (true, 7)] (by kernel_rfl) (by kernel_rfl) (by kernel_rfl) (by kernel_rfl) (by kernel_rfl) (by kernel_rfl) (fun d _ _ _ _ h => by cases d <;> exact h) ⟨hbg.drew, hbu.drew⟩ (fun _ => ?_)
      simp only [pickOps, List.append_eq, List.cons_append, List.nil_append, List.getElem?_toArray, List.getElem?_cons_succ, List.getElem?_cons_zero]
      have hb : Below wr.heap.size wr wr.drew := (Below.refl _ _).drew
      generalize wr.drew = w2 at hb ⊢
      replace hbg := hbg.kept hb
      replace hbr := hbr.kept hb
      replace hbo := hbo.kept hb
      replace hbu := hbu.kept hb
      replace hown := hown.kept hb
      replace hB0 := Nat.le_trans hB0 (hb).size
      replace hbf := hbf.trans (hb.mono hbf.size)
      clear hb
      repeat (first | (refine seq_take (v := ?_) (by rfl) ?_ ?_; rotate_left; (· intro w hSw; (try dsimp only at hSw); obtain ⟨⟨eg0, eg1, eg2, eg3, eg4, _, _, _, _, _⟩, ⟨eu, _, _⟩⟩ := hSw; go_simp; all_goals with_reducible rfl); (try simp only [Act.put, List.setIfInBounds_toArray, List.set_cons_zero, List.set_cons_succ])) | (refine seq_leave (by rfl) ?_; (try simp only [Act.put, List.setIfInBounds_toArray, List.set_cons_zero, List.set_cons_succ])))
      refine seq_step (by rfl) (fun K hK => ?_)
      go_simp
      go_at_call 11
      (with_reducible refine (apply_t mn mx fa co s T9 c _ HT9 h1 h2 h3 h4 hsl).mono ?_)
      rintro e w3 ⟨rfl, hb⟩
      replace hbg := hbg.kept hb
      replace hbr := hbr.kept hb
      replace hbo := hbo.kept hb
      replace hbu := hbu.kept hb
      replace hown := hown.kept hb
      replace hB0 := Nat.le_trans hB0 (hb).size
      replace hbf := hbf.trans (hb.mono hbf.size)
      clear hb
      first | refine hK.out _ _ ⟨hbg, hbu⟩ (fun _ => ?_) | (go_wp2_with fail; refine hK.out _ _ ⟨hbg, hbu⟩ (fun _ => ?_))
      clear hK K
      (try simp only [Act.put, List.setIfInBounds_toArray, List.set_cons_zero, List.set_cons_succ])
      refine seq_step (by rfl) (fun K hK => ?_)
      go_simp
      obtain ⟨w4, hwE⟩ : ∃ W, W = w3.alloc (.cells #[.string ⟨T9.toArray⟩] 9) := ⟨_, rfl⟩
      have hb : Below w3.heap.size w3 w4 := by rw [hwE]; exact (Below.refl _ _).alloc (Nat.le_refl _) _
      have hcs : w4.cell? ⟨w3.heap.size, 0, none⟩ = some (.string ⟨T9.toArray⟩) := by rw [hwE]; go_simp
      rw [← hwE]
      clear hwE
      replace hbg := hbg.kept hb
      replace hbr := hbr.kept hb
      replace hbo := hbo.kept hb
      replace hbu := hbu.kept hb
      replace hown := hown.kept hb
      replace hB0 := Nat.le_trans hB0 (hb).size
      replace hbf := hbf.trans (hb.mono hbf.size)
      clear hb
      first | refine hK.out _ _ ⟨hbg, hbu⟩ (fun _ => ?_) | (go_wp2_with fail; refine hK.out _ _ ⟨hbg, hbu⟩ (fun _ => ?_))
      clear hK K
      (try simp only [Act.put, List.setIfInBounds_toArray, List.set_cons_zero, List.set_cons_succ])
      refine seq_step (by rfl) (fun K hK => ?_)
      have hxl : (svals (tall mn mx fa co c (ls.take i))).length = i := by simp [svals, tall]; omega
      refine step_append1 ES hown rfl rfl rfl hcs rfl (by rw [hxl]; omega) (by rw [hxl]; unfold maxLen; omega) hB0 ?_
      intro v9 w5 ho9 hg9
      have hbB : Below B0 w4 w5 := ⟨hg9.os, hg9.tape, hg9.output, hg9.size, fun k hk => hg9.block k (by omega) (fun e9 => by have := World.ownsRow.lt hown k e9.symm; omega)⟩
      rw [HTK.out] at ho9
      have hshape := ho9.shape
      obtain ⟨g9, c9, rfl, hgB, hgl⟩ : ∃ g cap, v9 = .slice (some ⟨g, 0, none⟩) (i + 1) cap ∧ B0 ≤ g ∧ g < w5.heap.size := by
        have hl9 : (svals (tall mn mx fa co c (ls.take (i + 1)))).length = i + 1 := by simp [svals, tall]; omega
        rcases hshape with ⟨_, h⟩ | ⟨g, cap, h, k1, k2, _⟩
        · rw [h] at hl9; simp at hl9
        · rw [hl9] at h; exact ⟨g, cap, h, k1, k2⟩
      replace hbg := hbg.block (hbB.block pg (by have := HB0.out; omega))
      replace hbr := hbr.below hbB (by have := HB0.out; omega)
      replace hbo := hbo.below hbB (by have := HB0.out; omega)
      replace hbu := hbu.below hbB (by have := HB0.out; omega)
      replace hbf := hbf.trans (hbB.mono (by have := HB0.out; omega))
      replace hB0 := Nat.le_trans hB0 hbB.size
      clear hown hg9 hbB hshape hcs hxl
      have hown := ho9
      clear ho9
      first | refine hK.out _ _ ⟨hbg, hbu⟩ (fun _ => ?_) | (go_wp2_with fail; refine hK.out _ _ ⟨hbg, hbu⟩ (fun _ => ?_))
      clear hK K
      (try simp only [Act.put, List.setIfInBounds_toArray, List.set_cons_zero, List.set_cons_succ])
      repeat (first | (refine seq_take (v := ?_) (by rfl) ?_ ?_; rotate_left; (· intro w hSw; (try dsimp only at hSw); obtain ⟨⟨eg0, eg1, eg2, eg3, eg4, _, _, _, _, _⟩, ⟨eu, _, _⟩⟩ := hSw; go_simp; all_goals with_reducible rfl); (try simp only [Act.put, List.setIfInBounds_toArray, List.set_cons_zero, List.set_cons_succ])) | (refine seq_leave (by rfl) ?_; (try simp only [Act.put, List.setIfInBounds_toArray, List.set_cons_zero, List.set_cons_succ])))
      refine seq_end ?_
      refine tail_end rfl rfl ?_
      have eu := hbu.cell
      have fu := hbu.free
      go_simp
      have hst : w5.grownBy (w5.setCell ⟨pu, 0, none⟩ (.slice (some ⟨g9, 0, none⟩) (i + 1) c9)) (some pu) := grownBy_set (grownBy_refl _ (some pu)) 0 _
      have hown2 := hown.other hst (by have := HB0.out; omega)
      have hsz2 := Nat.le_trans hB0 hst.size
      clear hst hown
      clear eu fu
      obtain ⟨w6, hwE⟩ : ∃ W, W = w5.setCell ⟨pu, 0, none⟩ (.slice (some ⟨g9, 0, none⟩) (i + 1) c9) := ⟨_, rfl⟩
      rw [← hwE] at hown2 hsz2
      rw [← hwE]
      replace hbg := hbg.setOther (show pg ≠ pu by have := HP.out; omega) 0 (.slice (some ⟨g9, 0, none⟩) (i + 1) c9); rw [← hwE] at hbg
      replace hbr := hbr.setOther (show pr ≠ pu by have := HP.out; omega) 0 (.slice (some ⟨g9, 0, none⟩) (i + 1) c9); rw [← hwE] at hbr
      replace hbo := hbo.setOther (show po ≠ pu by have := HP.out; omega) 0 (.slice (some ⟨g9, 0, none⟩) (i + 1) c9); rw [← hwE] at hbo
      replace hbf := hbf.setCell (p := ⟨pu, 0, none⟩) (show w.heap.size ≤ pu by have := HP.out; omega) (.slice (some ⟨g9, 0, none⟩) (i + 1) c9); rw [← hwE] at hbf
      replace hbu := hbu.set (.slice (some ⟨g9, 0, none⟩) (i + 1) c9); rw [← hwE] at hbu; clear hwE
      go_wp2_with fail
      go_roundg (gk - 1)
      case measure => omega
      case rel => exact ⟨i + 1, some ⟨g9, 0, none⟩, _, _, by omega, by first | rfl | go_num, hbg, hbr, hbo, hbu, hown2, hbf, hsz2⟩
    case neg =>
      have q1 : ¬ (i : Int) < (ls.length : Int) := by omega
      have hti : ls.take i = ls := List.take_of_length_le (by omega)
      rw [hti] at hown
      clear hti
      have eu := hbu.cell
      have eo := hbo.cell
      have fo := hbo.free
      go_wp2_with fail
      have hst : wr.grownBy (wr.setCell ⟨po, 0, none⟩ (.slice uo ul uc)) (some po) := grownBy_set (grownBy_refl _ (some po)) 0 _
      exact ret_res rfl rfl (cell_set eo) rfl ⟨_, rfl, (hown.other hst (by have := HB0.out; omega)).mono (by have := HB0.out; omega), hbf.setCell (p := ⟨po, 0, none⟩) (show w.heap.size ≤ po by have := HP.out; omega) _⟩

end Go.Proofs.YtnajnbgjmgkcoaaGreatDoor
