/-
  MsgWrites: the walk.
-/
import Derived.Test.YtjcldnkgidfifaaLawWe
import Derived.Test.YtjcldnkgidfifaaNeqS
import Derived.Deep.CutBlock
import Derived.Deep.DeepCutAuto
import Derived.Deep.Cut
import Derived.Deep.CutRange
import Derived.Laws.Tables
import Derived.Great.BuildSlice
namespace Go.Proofs.Ytjcldnkgidfifaa
open Go.RowKit Go.Shelf
set_option linter.unusedVariables false
set_option linter.unusedSimpArgs false
attribute [local go_sem] Oper.semAt_some neq_self
theorem count_sum (ts : List (List UInt8)) : ts.length ≤ sumS ts := by
  unfold sumS
  induction ts with
  | nil => exact Nat.le_refl _
  | cons x xs ih => simp only [List.map_cons, List.sum_cons, List.length_cons]; omega
theorem wideP_take {ps : List Nat} {k : Nat} (h : k < ps.length) : wideP (ps.take (k + 1)) = (wideP (ps.take k) || decide (4294967296 ≤ ps[k]?.getD 0)) := by
  unfold wideP
  rw [List.take_succ_eq_append_getElem h, List.any_append, List.getElem?_eq_getElem h]; simp
theorem rowV_of_lent {S : Nat → Prop} {B : Nat} {w : World} {v : Value} {ls : List (List UInt8)} (h : Lent B w v ls) (hS : ∀ k, B ≤ k → ¬ S k) : RowV S w v (svs ls) := by
  obtain ⟨g, cap, rfl, h2, h3, h4, h5, h6, h7⟩ := h.row
  have hn : (svs ls).length = ls.length := by simp [svs]
  refine ⟨some ⟨g, 0, none⟩, cap, by rw [hn], by rw [hn]; omega, h5, .inr ⟨g, 0, rfl, h3, hS g h2, fun i x hx => ?_⟩⟩
  have hi : i < ls.length := by have h8 := (List.getElem?_eq_some_iff.1 hx).1; omega
  rw [Nat.zero_add, h6 i hi, ← hx]
  simp [svs, List.getElem?_eq_getElem hi]
theorem wp_buildAs {P : Program} {o : Oper} {a : Act} {w : World} {K : Act → World → Prop} {Q : Exit → Act → World → Prop} (t : TypeId) (parts : Array (Nat × Operand)) (ho : o.op = .build t parts) (ps : List (Nat × Value)) (cells : Array Value)
    (hp : (parts.map fun (i, x) => (i, a.eval x)).toList = ps) (hb : P.built t ps = some cells) (h : K (a.put o.dst (.agg cells)) w) : o.wp P a w K Q := by
  refine wp_build t parts ho (by rw [hp, hb]; rfl) ?_
  rw [hp, hb]; exact h
theorem wpList_buildAs {P : Program} {ops : Array Oper} {rest : List Oper} {o : Oper} {a : Act} {w : World} {Q : Exit → Act → World → Prop} (hg : o.guard = none) (t : TypeId) (parts : Array (Nat × Operand)) (ho : o.op = .build t parts) (ps : List (Nat × Value)) (cells : Array Value)
    (hp : (parts.map fun (i, x) => (i, a.eval x)).toList = ps) (hb : P.built t ps = some cells) (h : wpList P ops Q rest (a.put o.dst (.agg cells)) w) : wpList P ops Q (o :: rest) a w :=
  wpList_plain hg fun _ hK => wp_buildAs t parts ho ps cells hp hb (hK _ _ h)
theorem field_a (n v : Int) : Try.prog.built 37 [(0, .int .i64 n), (3, .int .u64 v)] = some #[.int .i64 n, .int .i64 0, .int .i64 0, .int .u64 v, .string ⟨#[]⟩] := by kernel_rfl
theorem field_b (n : Int) (d : List UInt8) : Try.prog.built 37 [(0, .int .i64 n), (1, .int .i64 2), (4, .string ⟨d.toArray⟩)] = some #[.int .i64 n, .int .i64 2, .int .i64 0, .int .u64 0, .string ⟨d.toArray⟩] := by kernel_rfl
theorem field_info : ∃ ie, Try.prog.info? 37 = some ie ∧ ie.size = 5 ∧ ie.zero = some (.agg #[.int .i64 0, .int .i64 0, .int .i64 0, .int .u64 0, .string ⟨#[]⟩]) := by
  obtain ⟨i, h1, h2, h3⟩ := E10.info
  first | exact ⟨i, h1, h2, h3⟩ | exact ⟨i, h1, h3, h2⟩ | exact ⟨i, h1, h2, h3.1⟩ | exact ⟨i, h1, h3.1, h2⟩
theorem fill_one5 (x0 x1 x2 x3 x4 : Value) (z : Value) (hz : z = .agg #[.int .i64 0, .int .i64 0, .int .i64 0, .int .u64 0, .string ⟨#[]⟩]) : Instr.fill (fun i => some (i * 5, 5)) ((Array.range (1 * 5)).map (z.cells[· % z.cells.size]!)) [(0, .agg #[x0, x1, x2, x3, x4])] = some #[x0, x1, x2, x3, x4] := by
  subst hz
  kernel_rfl
theorem wp_one5 {o : Oper} {a : Act} {w : World} {K : Act → World → Prop} {Q : Exit → Act → World → Prop} (parts : Array (Nat × Operand)) (ho : o.op = .buildSlice 34 1 parts) (x0 x1 x2 x3 x4 : Value)
    (hp : (parts.map fun (i, x) => (i, a.eval x)).toList = [(0, .agg #[x0, x1, x2, x3, x4])]) (h : K (a.put o.dst (.slice (some ⟨w.heap.size, 0, none⟩) 1 1)) (w.alloc (.cells #[x0, x1, x2, x3, x4] 37))) : o.wp Try.prog a w K Q := by
  obtain ⟨ie, hie, hs, hz⟩ := field_info
  refine wp_buildSlice _ 37 1 parts ho #[x0, x1, x2, x3, x4] ie _ E10.und hie hz (by rw [hs]; decide) (by rw [hs]; decide) ?_ h
  rw [hs, hp]
  exact fill_one5 x0 x1 x2 x3 x4 _ rfl
theorem wpList_one5 {ops : Array Oper} {rest : List Oper} {o : Oper} {a : Act} {w : World} {Q : Exit → Act → World → Prop} (hg : o.guard = none) (parts : Array (Nat × Operand)) (ho : o.op = .buildSlice 34 1 parts) (x0 x1 x2 x3 x4 : Value)
    (hp : (parts.map fun (i, x) => (i, a.eval x)).toList = [(0, .agg #[x0, x1, x2, x3, x4])]) (h : wpList Try.prog ops Q rest (a.put o.dst (.slice (some ⟨w.heap.size, 0, none⟩) 1 1)) (w.alloc (.cells #[x0, x1, x2, x3, x4] 37))) : wpList Try.prog ops Q (o :: rest) a w :=
  wpList_plain hg fun _ hK => wp_one5 parts ho x0 x1 x2 x3 x4 hp (hK _ _ h)
set_option maxRecDepth 100000 in
set_option maxHeartbeats 8000000 in
theorem msgWrites_walk (v : Value) (w : World) (hv : ∃ os, OpsIn w v os) :
    Calls Try.prog 3 #[v] w fun e w' => e = .returned (.bool true) ∧ Below w.heap.size w w' := by
  obtain ⟨os, hos⟩ := hv
  obtain ⟨ao, cap, rfl, hc1, hc2, hat⟩ := OpAt.of hos
  have HAT := Lib.hid hat
  clear hos hat
  go_enter Try.func3, Try.ntmps3
  by_cases hln : 40 < os.length
  · have hli : (40 : Int) < (os.length : Int) := by omega
    go_wp2_with fail
    refine (alive11_any _).mono ?_
    rintro e w1 ⟨rfl, hb⟩
    go_wp2_with fail
    go_ret
    exact ⟨rfl, hb⟩
  have hli : ¬ (40 : Int) < (os.length : Int) := by omega
  go_wp2_with fail
  refine (alive11_any _).mono ?_
  rintro e w1 ⟨rfl, hb1⟩
  go_wp2_with fail
  go_loopg [3, 4] (os.length + 1) (fun g rv iv wr => ∃ (i : Nat) (r : Int), rv = .int .i64 r ∧ iv = .int .i64 (i : Int) ∧ i + g = os.length + 1 ∧ Hid (r = -1 ∨ (0 ≤ r ∧ r + costS (os.take i) = 30000)) ∧ -1 ≤ r ∧ r ≤ 30000 ∧ i ≤ os.length ∧ Below w.heap.size w wr)
  case atStart => exact ⟨0, 30000, rfl, rfl, by omega, Lib.hid (.inr ⟨by decide, by simp [costS]⟩), by decide, by decide, Nat.zero_le _, hb1⟩
  case round =>
    obtain ⟨i, r, rfl, rfl, hig, HR, hr1, hr2, hio, hb⟩ := hrel
    by_cases hil : i < os.length
    · have q1 : (i : Int) < (os.length : Int) := by omega
      have q2 : (0 : Int) ≤ (i : Int) := by omega
      by_cases hr0 : 0 ≤ r
      · skip
        as_aux_lemma =>
          obtain ⟨hok, b, off, rfl, hbw, hcell⟩ := HAT.out i hil
          have HC := Lib.hid (costS_take hil)
          obtain ⟨o, ho⟩ : ∃ o, o = os[i]'hil := ⟨_, rfl⟩
          rw [← ho] at hok hcell HC
          clear ho
          have f3 := (hb.cell (p := ⟨b, off + i * 6 + 3, none⟩) hbw).trans (hcell 3 _ rfl)
          have f4 := (hb.cell (p := ⟨b, off + i * 6 + 4, none⟩) hbw).trans (hcell 4 _ rfl)
          have f5 := (hb.cell (p := ⟨b, off + i * 6 + 5, none⟩) hbw).trans (hcell 5 _ rfl)
          obtain ⟨aoL, capL, hLv, hL1, hL2, hL3⟩ := hok.l.1
          obtain ⟨aoP, capP, hPv, hP1, hP2, hP3⟩ := hok.p.1
          obtain ⟨aoS, capS, hSv, hS1, hS2, hS3⟩ := hok.s.1
          rw [hLv] at f4
          rw [hPv] at f5
          rw [hSv] at f3
          clear hL3 hP3 hcell
          obtain ⟨z1, z2, z3, z4⟩ := hok.sz
          unfold reachBytes at z1 z2 z3 z4
          have hstr := Lib.hid hS3
          clear hS3
          obtain ⟨c10, hc10⟩ : ∃ c, c = 10 * o.L.length := ⟨_, rfl⟩
          obtain ⟨cA, hcA⟩ : ∃ c, c = 20 + c10 := ⟨_, rfl⟩
          obtain ⟨cB, hcB⟩ : ∃ c, c = 4 * o.P.length := ⟨_, rfl⟩
          have hw1 : IntKind.i64.wrap (10 * (o.L.length : Int)) = (c10 : Int) := by rw [IntWalk.i64_in _ (by omega)]; omega
          have hw2 : IntKind.i64.wrap (20 + (c10 : Int)) = (cA : Int) := by rw [IntWalk.i64_in _ (by omega)]; omega
          have hw3 : IntKind.i64.wrap (4 * (o.P.length : Int)) = (cB : Int) := by rw [IntWalk.i64_in _ (by omega)]; omega
          have HCA : Hid (cA = 20 + 10 * o.L.length) := Lib.hid (by omega)
          have HCB := Lib.hid hcB
          clear hc10 hcA hcB
          have HR2 := Lib.hid (show 0 ≤ r ∧ r + ((costS (os.take i) : Nat) : Int) = 30000 by rcases HR.out with h | h; omega; exact h)
          go_upto_region 7 with fail
          refine wp_region_seq (S := fun w' => w'.cell? ⟨b, off + i * 6 + 4, none⟩ = some (.slice aoL o.L.length capL) ∧ w'.cell? ⟨b, off + i * 6 + 5, none⟩ = some (.slice aoP o.P.length capP)) [(true, 0), (true, 1), (true, 2), (true, 3), (true, 4), (true, 5), (true, 6), (true, 7), (true, 8), (true, 9), (true, 10), (true, 11), (true, 12), (true, 13), (true, 14), (true, 15), (false, 16), (false, 17), (true, 18)] (by as_aux_lemma => kernel_rfl) (by as_aux_lemma => kernel_rfl) (by as_aux_lemma => kernel_rfl) (by as_aux_lemma => kernel_rfl) (by as_aux_lemma => kernel_rfl) (fun d _ _ _ _ h => by cases d <;> exact h) ⟨f4, f5⟩ (fun _ => ?_)
          simp only [pickOps, List.append_eq, List.cons_append, List.nil_append, List.getElem?_toArray, List.getElem?_cons_succ, List.getElem?_cons_zero]
          have hbd : Below wr.heap.size wr wr.drew := (Below.refl _ _).drew
          generalize wr.drew = w2 at hbd ⊢
          replace f3 := (hbd.cell (p := ⟨b, off + i * 6 + 3, none⟩) (World.block_lt_of_cell? wr _ f3)).trans f3
          replace f4 := (hbd.cell (p := ⟨b, off + i * 6 + 4, none⟩) (World.block_lt_of_cell? wr _ f4)).trans f4
          replace f5 := (hbd.cell (p := ⟨b, off + i * 6 + 5, none⟩) (World.block_lt_of_cell? wr _ f5)).trans f5
          replace hb := hb.trans (hbd.mono hb.size)
          clear hbd
          repeat (first | (refine seq_take (v := ?_) (by rfl) ?_ ?_; rotate_left; (· intro w hSw; (try dsimp only at hSw); obtain ⟨g4, g5⟩ := hSw; go_simp; all_goals with_reducible rfl); (try simp only [Act.put, List.setIfInBounds_toArray, List.set_cons_zero, List.set_cons_succ])) | (refine seq_leave (by rfl) ?_; (try simp only [Act.put, List.setIfInBounds_toArray, List.set_cons_zero, List.set_cons_succ])))
          refine seq_step (by rfl) (fun K hK => ?_)
          go_simp
          have hcl := two_cells w2 cA cB
          obtain ⟨w3, hw3e⟩ : ∃ w3, w3 = w2.alloc (.cells #[.int .i64 (cA : Int), .int .i64 (cB : Int)] 3) := ⟨_, rfl⟩
          have hbd : Below w2.heap.size w2 w3 := by rw [hw3e]; exact (Below.refl _ _).alloc (Nat.le_refl _) _
          rw [← hw3e] at hcl ⊢
          replace f3 := (hbd.cell (p := ⟨b, off + i * 6 + 3, none⟩) (World.block_lt_of_cell? w2 _ f3)).trans f3
          replace f4 := (hbd.cell (p := ⟨b, off + i * 6 + 4, none⟩) (World.block_lt_of_cell? w2 _ f4)).trans f4
          replace f5 := (hbd.cell (p := ⟨b, off + i * 6 + 5, none⟩) (World.block_lt_of_cell? w2 _ f5)).trans f5
          replace hb := hb.trans (hbd.mono hb.size)
          clear hbd hw3e
          first | refine hK.out _ _ ⟨f4, f5⟩ (fun _ => ?_) | (go_wp2_with fail; refine hK.out _ _ ⟨f4, f5⟩ (fun _ => ?_))
          clear hK K
          (try simp only [Act.put, List.setIfInBounds_toArray, List.set_cons_zero, List.set_cons_succ])
          refine seq_step (by rfl) (fun K hK => ?_)
          go_simp
          go_at_call 8
          refine (room_any r _ 2 [cA, cB] w3 (by omega) (by omega) hcl (by simp)).mono ?_
          rintro e w4 ⟨rfl, rfl⟩
          first | refine hK.out _ _ ⟨f4, f5⟩ (fun _ => ?_) | (go_wp2_with fail; refine hK.out _ _ ⟨f4, f5⟩ (fun _ => ?_))
          clear hK K hcl
          (try simp only [Act.put, List.setIfInBounds_toArray, List.set_cons_zero, List.set_cons_succ])
          have HRN := Lib.hid (roomL_two (a := cA) (b := cB) HR2.out)
          obtain ⟨r3, hr3⟩ : ∃ r3, r3 = roomL r [cA, cB] := ⟨_, rfl⟩
          rw [← hr3] at HRN ⊢
          clear hr3
          repeat (first | (refine seq_take (v := ?_) (by rfl) ?_ ?_; rotate_left; (· intro w hSw; (try dsimp only at hSw); obtain ⟨g4, g5⟩ := hSw; go_simp; all_goals with_reducible rfl); (try simp only [Act.put, List.setIfInBounds_toArray, List.set_cons_zero, List.set_cons_succ])) | (refine seq_leave (by rfl) ?_; (try simp only [Act.put, List.setIfInBounds_toArray, List.set_cons_zero, List.set_cons_succ])))
          refine seq_end ?_
          clear hw1 hw2 hw3 f4 f5 q1
          obtain ⟨go9, hgo9⟩ : ∃ g, g = gk := ⟨_, rfl⟩
          subst hgo9
          have hr3a : -1 ≤ r3 ∧ r3 ≤ 30000 := by rcases HRN.out with h | h <;> omega
          go_wp2_with fail
          go_loopg [3, 5] (o.S.length + 1) (fun g rv kv wx => ∃ (k : Nat) (r4 : Int), rv = .int .i64 r4 ∧ kv = .int .i64 (k : Int) ∧ k + g = o.S.length + 1 ∧ Hid (r4 = -1 ∨ (0 ≤ r4 ∧ r4 + ((costS (os.take i) + cA + cB + sumS (o.S.take k) : Nat) : Int) = 30000)) ∧ -1 ≤ r4 ∧ r4 ≤ 30000 ∧ k ≤ o.S.length ∧ Below w.heap.size w wx ∧ wx.cell? ⟨b, off + i * 6 + 3, none⟩ = some (.slice aoS o.S.length capS))
          case atStart => exact ⟨0, r3, rfl, rfl, by omega, Lib.hid (by rcases HRN.out with h | h; exact .inl h; right; simp [sumS]; omega), hr3a.1, hr3a.2, Nat.zero_le _, hb, f3⟩
          clear hb f3 hr3a HRN
          case round =>
            obtain ⟨k, r4, rfl, rfl, hkg, HR4, hr4a, hr4b, hks, hbx, f3⟩ := hrel
            by_cases hkl : k < o.S.length
            · have q3 : (k : Int) < (o.S.length : Int) := by omega
              have q4 : (0 : Int) ≤ (k : Int) := by omega
              by_cases hr40 : 0 ≤ r4
              · rcases hstr.out with h9 | ⟨bS, offS, rfl, hbS, hcS⟩
                · rw [h9] at hkl; cases hkl
                have fS := (hbx.cell (p := ⟨bS, offS + k, none⟩) hbS).trans (hcS k hkl)
                have HSK := Lib.hid (sumS_take hkl)
                have htl : (o.S[k]?.getD []).length ≤ 140737488351232 := by rw [List.getElem?_eq_getElem hkl]; exact z2 _ (List.getElem_mem hkl)
                generalize o.S[k]?.getD [] = t at *
                obtain ⟨cT, hcT⟩ : ∃ c, c = 20 + t.length := ⟨_, rfl⟩
                have hwT : IntKind.i64.wrap (20 + (t.length : Int)) = (cT : Int) := by rw [IntWalk.i64_in _ (by omega)]; omega
                have HCT := Lib.hid hcT
                have HR5 := Lib.hid (show 0 ≤ r4 ∧ r4 + ((costS (os.take i) + cA + cB + sumS (o.S.take k) : Nat) : Int) = 30000 by rcases HR4.out with h | h; omega; exact h)
                clear hcT hcS
                go_wp2_with fail
                have hcl := one_cells2 wr cT
                obtain ⟨w6, hw6⟩ : ∃ w6, w6 = wr.alloc (.cells #[.int .i64 (cT : Int)] 3) := ⟨_, rfl⟩
                have hbd : Below wr.heap.size wr w6 := by rw [hw6]; exact (Below.refl _ _).alloc (Nat.le_refl _) _
                rw [← hw6] at hcl ⊢
                clear hw6
                refine (room_any r4 _ 1 [cT] w6 (by omega) (by omega) hcl (by simp)).mono ?_
                rintro e w7 ⟨rfl, rfl⟩
                have HRN := Lib.hid (roomL_one (a := cT) HR5.out)
                obtain ⟨r6, hr6⟩ : ∃ r6, r6 = roomL r4 [cT] := ⟨_, rfl⟩
                rw [← hr6] at HRN ⊢
                clear hr6 hcl
                replace f3 := (hbd.cell (p := ⟨b, off + i * 6 + 3, none⟩) (World.block_lt_of_cell? wr _ f3)).trans f3
                have hr6a : -1 ≤ r6 ∧ r6 ≤ 30000 := by rcases HRN.out with h | h <;> omega
                clear fS hwT q3
                go_wp2_with fail
                go_roundg (gk - 1)
                case measure => omega
                case rel => exact ⟨k + 1, r6, rfl, by go_num, by omega, Lib.hid (by rcases HRN.out with h | h; exact .inl h; right; rw [HSK.out, ← HCT.out]; refine ⟨h.1, ?_⟩; have := h.2; omega), hr6a.1, hr6a.2, by omega, hbx.trans (hbd.mono hbx.size), f3⟩
              · obtain rfl : r4 = -1 := by omega
                clear hstr
                go_wp2_with fail
                go_roundg (go9 - 1)
                case measure => omega
                case rel => exact ⟨i + 1, -1, rfl, by go_num, by omega, Lib.hid (.inl rfl), hr4a, hr4b, by omega, hbx⟩
            · have q3 : ¬ (k : Int) < (o.S.length : Int) := by omega
              have hsz : o.S.take k = o.S := List.take_of_length_le (by omega)
              have HSZ := Lib.hid hsz
              clear hsz hstr
              go_wp2_with fail
              go_roundg (go9 - 1)
              case measure => omega
              case rel => exact ⟨i + 1, r4, rfl, by go_num, by omega, Lib.hid (by
                rcases HR4.out with h | h
                · exact .inl h
                · right
                  rw [HSZ.out] at h
                  refine ⟨h.1, ?_⟩
                  have h2 := h.2
                  have h3 := HCA.out
                  have h4 := HCB.out
                  rw [HC.out, show costV o = 20 + 10 * o.L.length + 4 * o.P.length + sumS o.S from rfl]
                  omega), hr4a, hr4b, by omega, hbx⟩
      · go_wp2_with fail
        go_ret
        exact ⟨rfl, hb⟩
    · obtain rfl : i = os.length := by omega
      have q1 : ¬ ((os.length : Nat) : Int) < (os.length : Int) := by omega
      by_cases hr0 : r < 0
      · go_wp2_with fail
        go_ret
        exact ⟨rfl, hb⟩
      · have hcost : costS os ≤ 30000 := by
          rcases HR.out with h | ⟨h1, h2⟩
          · omega
          · rw [List.take_length] at h2; omega
        clear HR
        go_wp2_with fail
        refine (new_any wr).mono ?_
        rintro e w3 ⟨p, rfl, hm, hb3⟩
        have hb13 := hb.trans (hb3.mono hb.size)
        obtain ⟨B0, hB0⟩ : ∃ b, b = wr.heap.size := ⟨_, rfl⟩
        have hB0w : w.heap.size ≤ B0 := by rw [hB0]; exact hb.size
        rw [← hB0] at hm
        clear hB0 hb hb3
        go_wp2_with fail
        go_loopg [7, 8, 9] os.length (fun g wv cv iv wx => ∃ (i : Nat) (W : List UInt8) (c : Int) (v : Value) (l : List (Fld × Int)) (e : Int), wv = .string ⟨W.toArray⟩ ∧ cv = .int .i64 c ∧ iv = .int .i64 (i : Int) ∧ i + g = os.length ∧ MsgAt B0 wx p v l e ∧ Hid (Inv (l, e) (W, c) (costS (os.take i))) ∧ Below w.heap.size w wx)
        case atStart => exact ⟨0, [], 0, _, [], 0, rfl, rfl, rfl, by omega, hm, Lib.hid (by simpa [costS] using inv_start), hb13⟩
        clear hm hb13
        case round =>
          obtain ⟨i, W, c, v, l, e, rfl, rfl, rfl, hig, hm, HI, hbx⟩ := hrel
          by_cases hil : i < os.length
          · have q1 : (i : Int) < (os.length : Int) := by omega
            have q2 : (0 : Int) ≤ (i : Int) := by omega
            obtain ⟨hok, b, off, rfl, hbw, hcell⟩ := HAT.out i hil
            have HC := Lib.hid (costS_take hil)
            have hcle : costS (os.take (i + 1)) ≤ costS os := costS_le os (i + 1)
            obtain ⟨o, ho⟩ : ∃ o, o = os[i]'hil := ⟨_, rfl⟩
            rw [← ho] at hok hcell HC
            clear ho
            have f0 := (hbx.cell (p := ⟨b, off + i * 6, none⟩) hbw).trans (hcell 0 _ rfl)
            have f1 := (hbx.cell (p := ⟨b, off + i * 6 + 1, none⟩) hbw).trans (hcell 1 _ rfl)
            have f2 := (hbx.cell (p := ⟨b, off + i * 6 + 2, none⟩) hbw).trans (hcell 2 _ rfl)
            have f3 := (hbx.cell (p := ⟨b, off + i * 6 + 3, none⟩) hbw).trans (hcell 3 _ rfl)
            have f4 := (hbx.cell (p := ⟨b, off + i * 6 + 4, none⟩) hbw).trans (hcell 4 _ rfl)
            have f5 := (hbx.cell (p := ⟨b, off + i * 6 + 5, none⟩) hbw).trans (hcell 5 _ rfl)
            clear hcell
            obtain ⟨aoL, capL, hLv, _, _, hLc⟩ := hok.l.1
            obtain ⟨aoP, capP, hPv, _, _, hPc⟩ := hok.p.1
            obtain ⟨aoS, capS, hSv, _, _, hSc⟩ := hok.s.1
            have HLC := Lib.hid hLc
            have HPC := Lib.hid hPc
            have HSC := Lib.hid hSc
            clear hLc hPc hSc
            rw [hLv] at f4
            rw [hPv] at f5
            rw [hSv] at f3
            go_upto_region 20 with fail
            clear f0 f1 f2 f3 f4 f5
            obtain ⟨pb, hpb⟩ : ∃ q, q = wr.heap.size := ⟨_, rfl⟩
            obtain ⟨w5, hw5⟩ : ∃ w5, w5 = wr.alloc (.cells #[.int .i64 o.k, .int .i64 o.n, .int .u64 o.v, .slice aoS o.S.length capS, .slice aoL o.L.length capL, .slice aoP o.P.length capP] 30) := ⟨_, rfl⟩
            have hbd : Below wr.heap.size wr w5 := by rw [hw5]; exact (Below.refl _ _).alloc (Nat.le_refl _) _
            have hbo : BoxL w5 pb [.int .i64 o.k, .int .i64 o.n, .int .u64 o.v, .slice aoS o.S.length capS, .slice aoL o.L.length capL, .slice aoP o.P.length capP] := by rw [hw5, hpb]; exact BoxL.of6 (by go_simp) (by go_simp) (by go_simp) (by go_simp) (by go_simp) (by go_simp) (by go_simp) (by go_simp) (by go_simp) (by go_simp) (by go_simp) (by go_simp)
            rw [← hw5, ← hpb]
            clear hw5
            have hpbw : wr.heap.size ≤ pb := by omega
            have hbx5 := hbx.trans (hbd.mono hbx.size)
            have hm5 := hm.kept hbd
            obtain ⟨vv, hvv, hv64⟩ : ∃ vv : Nat, o.v = (vv : Int) ∧ vv < 18446744073709551616 := by
              obtain ⟨l9, h1, h2⟩ := patsN (ls := [o.v]) (by intro n hn; simp at hn; subst hn; exact hok.v)
              cases l9 with
              | nil => simp at h1
              | cons a9 l8 => simp at h1; exact ⟨a9, h1.1, h2 a9 (List.mem_cons_self ..)⟩
            rw [hvv] at hbo
            have HOK := Lib.hid hok
            have HLL : Hid (l.length ≤ 30000) := Lib.hid (by
              have h1 := HI.out.cnt
              have h2 := costS_le os i
              simp only at h1; omega)
            have HOT := Lib.hid (opOut hok (by have := HC.out; omega))
            have hnpb : ¬ Ow p v pb := fun h9 => by have := (hm.ow pb h9).2; omega
            clear hpb hm hbx hok hbd
            have e0 := hbo.cell 0 _ rfl
            go_upto_block 6 with fail
            clear e0
            go_cut [11, 12, 13, 104] (fun y fv wd kx wx => ∃ (fs : List DocF) (ao7 : Option Addr) (cap7 B7 : Nat) (v6 : Value) (l6 : List (Fld × Int)) (e6 : Int), y = .pointer (some ⟨p, 0, none⟩) ∧ fv = .slice ao7 fs.length cap7 ∧ wd = .bool (wideO (toO o)) ∧ OwnsK 5 B7 37 wx (.slice ao7 fs.length cap7) fs.length (drow fs) ∧ MsgAt B0 wx p v6 l6 e6 ∧ Hid (msgOp (l, e) (toO o) = (l6, e6)) ∧ Hid (docF (toO o) = fs) ∧ Hid (∀ f ∈ fs, docOk f ∧ f.v < 18446744073709551616 ∧ f.d.length ≤ 9223372036854775807) ∧ Hid (fs.length ≤ 40000) ∧ Below w.heap.size w wx)
            case first =>
              by_cases hk1 : o.k = 1
              · skip
                as_aux_lemma =>
                  have e0 := hbo.cell 0 _ rfl
                  have e1 := hbo.cell 1 _ rfl
                  have e2 := hbo.cell 2 _ rfl
                  obtain ⟨fs, hfs⟩ : ∃ fs, fs = [(⟨o.n, 0, vv, []⟩ : DocF)] := ⟨_, rfl⟩
                  go_wp2_with fail
                  have HK1 := Lib.hid hk1
                  clear hk1
                  refine (putUint_any B0 p v l e o.n vv w5 hm5 hv64 (by have := HLL.out; omega)).mono ?_
                  rintro e' w6 ⟨rfl, hst⟩
                  have hb6 := hst.belowIn (a := w) hbx5 (fun k hk => Nat.le_trans hB0w (hm5.ow k hk).1)
                  obtain ⟨v6, hm6, hk6, _⟩ := hst
                  have hbo6 := hbo.keep hk6 hnpb
                  clear e0 e1 e2 hk6 hm5 hbo
                  have e1 := hbo6.cell 1 _ rfl
                  have e2 := hbo6.cell 2 _ rfl
                  obtain ⟨l6, e6, hle⟩ : ∃ l6 e6, stepM (l, e) o.n 0 vv [] = (l6, e6) := ⟨_, _, rfl⟩
                  rw [hle] at hm6
                  simp only at hm6
                  have hov : o.v.toNat = vv := by rw [hvv]; rfl
                  have HMO : Hid (msgOp (l, e) (toO o) = (l6, e6)) := Lib.hid (by unfold msgOp toO; simp only; rw [if_pos HK1.out, hov]; exact hle)
                  have HFS : Hid (docF (toO o) = fs) := Lib.hid (by unfold docF toO; simp only; rw [if_pos HK1.out, hov, hfs])
                  have HWD : Hid (wideO (toO o) = false) := Lib.hid (by unfold wideO toO; simp only; rw [if_pos HK1.out])
                  have HDF : Hid (∀ f ∈ fs, docOk f ∧ f.v < 18446744073709551616 ∧ f.d.length ≤ 9223372036854775807) := Lib.hid (by rw [hfs]; intro f hf; simp at hf; subst hf; exact ⟨.inl ⟨rfl, rfl⟩, hv64, by simp⟩)
                  have hfl : fs.length = 1 := by rw [hfs]; rfl
                  have HFL : Hid (fs.length ≤ 40000) := Lib.hid (by omega)
                  have HF1 := Lib.hid hfs
                  clear hfs hle hfl
                  go_upto_region 38 with fail
                  refine wp_region_lit ?_
                  iterate 5 (refine wpList_plain rfl (fun K hK => ?_); have HK := Lib.hid hK; clear hK; go_simp; refine HK.out _ _ ?_; clear HK K; (try simp only [Act.put, List.setIfInBounds_toArray, List.set_cons_zero, List.set_cons_succ]))
                  refine wpList_buildAs rfl 37 _ rfl [(0, .int .i64 o.n), (3, .int .u64 (vv : Int))] #[.int .i64 o.n, .int .i64 0, .int .i64 0, .int .u64 (vv : Int), .string ⟨#[]⟩] (by as_aux_lemma => kernel_rfl) (field_a _ _) ?_
                  (try simp only [Act.put, List.setIfInBounds_toArray, List.set_cons_zero, List.set_cons_succ])
                  refine wpList_one5 rfl _ rfl (.int .i64 o.n) (.int .i64 0) (.int .i64 0) (.int .u64 (vv : Int)) (.string ⟨#[]⟩) (by as_aux_lemma => kernel_rfl) ?_
                  (try simp only [Act.put, List.setIfInBounds_toArray, List.set_cons_zero, List.set_cons_succ])
                  go_wp2_with (at_builtin; refine append1KO E10 (OwnsK.nil 5 w6.heap.size 37 w6) rfl rfl rfl rfl rfl (by simp [Value.oneCell']) (by decide) (by decide) (Nat.le_refl _) ?_; intro v7 w7 ho7 hb7 hg7 hn7; replace ho7 : OwnsK 5 w6.heap.size 37 w7 v7 fs.length (drow fs) := (by rw [HF1.out]; exact ho7); clear hg7 hn7; obtain ⟨ao7, cap7, rfl, _, _, _⟩ := ho7.slice)
                  have hm7 := hm6.kept (hb7.mono (Nat.le_refl _))
                  have hb7w := hb6.trans (hb7.mono hb6.size)
                  go_meet
                  case rel => exact ⟨fs, _, _, w6.heap.size, v6, l6, e6, rfl, rfl, by rw [HWD.out], ho7, hm7, HMO, HFS, HDF, HFL, hb7w⟩
              · by_cases hk2 : o.k = 2
                · by_cases hz : o.S.length = 0
                  · skip
                    as_aux_lemma =>
                      have HZ := Lib.hid hz
                      clear hz
                      have e0 := hbo.cell 0 _ rfl
                      have e1 := hbo.cell 1 _ rfl
                      have e3 := hbo.cell 3 _ rfl
                      have hSN : StrsN w5 o.sv o.S := ⟨HOK.out.s.1.below hbx5, HOK.out.s.2⟩
                      have hSI := HOK.out.s.1
                      rw [hSv] at hSN hSI
                      have HSI := Lib.hid hSI
                      clear hSI
                      have hSc : sumS o.S ≤ 30000 := by
                        have h1 := HC.out
                        have h2 : sumS o.S ≤ costV o := by unfold costV sumS; omega
                        omega
                      have hSl : o.S.length ≤ 30000 := Nat.le_trans (count_sum o.S) hSc
                      have HSB : Hid (∀ t ∈ o.S, t.length ≤ 30000) := Lib.hid (fun t ht => Nat.le_trans (text_sum ht) hSc)
                      clear hSc
                      obtain ⟨fs, hfs⟩ : ∃ fs, fs = o.S.map fun t => (⟨o.n, 2, 0, t⟩ : DocF) := ⟨_, rfl⟩
                      have hfl : fs.length = o.S.length := by rw [hfs, List.length_map]
                      have HFS : Hid (docF (toO o) = fs) := Lib.hid (by unfold docF toO; simp only; rw [if_neg hk1, if_pos hk2, hfs])
                      have HWD : Hid (wideO (toO o) = false) := Lib.hid (by unfold wideO toO; simp only; rw [if_neg hk1, if_pos hk2])
                      have HDF : Hid (∀ f ∈ fs, docOk f ∧ f.v < 18446744073709551616 ∧ f.d.length ≤ 9223372036854775807) := Lib.hid (by rw [hfs]; intro f hf; obtain ⟨t, ht, rfl⟩ := List.mem_map.1 hf; exact ⟨.inr ⟨rfl, rfl⟩, by simp, by have := HSB.out t ht; simp only; omega⟩)
                      have HFL : Hid (fs.length ≤ 40000) := Lib.hid (by omega)
                      have HF1 := Lib.hid hfs
                      have HFl := Lib.hid hfl
                      clear hfs hfl
                      go_wp2_with fail
                      have HK1 := Lib.hid hk1
                      have HK2 := Lib.hid hk2
                      clear hk1 hk2
                      refine (lent_texts _ o.S w5 hSN (by omega)).mono ?_
                      rintro e' w6 ⟨v16, rfl, hlent, hb6⟩
                      have hbx6 := hbx5.trans (hb6.mono hbx5.size)
                      have hm6 := hm5.kept hb6
                      have hbo6 := hbo.kept hb6
                      clear e0 e1 e3 hSN
                      have e1 := hbo6.cell 1 _ rfl
                      have hngL : ∀ g, w5.heap.size ≤ g → ¬ Ow p v g := fun g hg h9 => by have := (hm5.ow g h9).2; omega
                      go_wp2_with fail
                      refine (putText_any B0 p v _ l e o.n o.S w6 hm6 (rowV_of_lent hlent hngL) (fun x hx => Nat.le_trans (HSB.out x hx) (by decide)) (by have := HLL.out; omega)).mono ?_
                      rintro e' w7 ⟨rfl, hst⟩
                      have hb7 := hst.belowIn (a := w) hbx6 (fun k hk => Nat.le_trans hB0w (hm6.ow k hk).1)
                      obtain ⟨v6, hm7, hk7, _⟩ := hst
                      have hbo7 := hbo6.keep hk7 hnpb
                      obtain ⟨gL, cL, rfl, hg1, hg2, hg3, hg4, hg5, hg6⟩ := hlent.row
                      have hkL := hk7.same gL hg2 (hngL gL hg1)
                      have hlent7 : Lent w5.heap.size w7 (.slice (some ⟨gL, 0, none⟩) o.S.length cL) o.S := ⟨gL, cL, rfl, hg1, Nat.lt_of_lt_of_le hg2 hk7.size, hg3, hg4, fun i9 hi9 => (World.cell?_of_block (a := ⟨gL, i9, none⟩) hkL).trans (hg5 i9 hi9), (World.cell?_of_block (a := ⟨gL, o.S.length, none⟩) hkL).trans hg6⟩
                      obtain ⟨l6, e6, hle⟩ : ∃ l6 e6, textsM (l, e) o.n o.S = (l6, e6) := ⟨_, _, rfl⟩
                      rw [hle] at hm7
                      simp only at hm7
                      have HMO : Hid (msgOp (l, e) (toO o) = (l6, e6)) := Lib.hid (by unfold msgOp toO; simp only; rw [if_neg HK1.out, if_pos HK2.out]; exact hle)
                      clear e1 hbo hbo6 hm5 hm6 hlent hg5 hg6 hkL hk7 hg1 hg2 hg3 hg4 hngL hle
                      have e3 := hbo7.cell 3 _ rfl
                      go_wp2_with fail
                      clear e3
                      have q3 : ¬ (0 : Int) < (o.S.length : Int) := by have := HZ.out; omega
                      go_loopg [12, 15] 0 (fun g fv kv wx => fv = .slice none 0 0 ∧ kv = .int .i64 0 ∧ w7 = wx)
                      case atStart => exact ⟨rfl, rfl, rfl⟩
                      case round =>
                        obtain ⟨rfl, rfl, rfl⟩ := hrel
                        have e3 := hbo7.cell 3 _ rfl
                        go_wp2_with fail
                        refine (stays_texts _ _ _ o.S w7 (hlent7.below (Below.refl _ _)) (HSI.out.below (hb7.mono (Nat.le_refl _))) (by omega)).mono ?_
                        rintro e' w10 ⟨rfl, hb10⟩
                        clear e3
                        go_wp2_with fail
                        have hfs : fs = [] := List.eq_nil_of_length_eq_zero (by rw [HFl.out]; exact HZ.out)
                        have hm10 := hm7.kept hb10
                        have hb7w := hb7.trans (hb10.mono hb7.size)
                        have ho7 : OwnsK 5 w10.heap.size 37 w10 (.slice none fs.length 0) fs.length (drow fs) := by rw [hfs]; exact OwnsK.nil 5 _ _ w10
                        go_meet
                        case rel => exact ⟨fs, none, 0, w10.heap.size, v6, l6, e6, rfl, by rw [hfs]; rfl, by rw [HWD.out], ho7, hm10, HMO, HFS, HDF, HFL, hb7w⟩
                  · skip
                    as_aux_lemma =>
                      obtain ⟨bS, offS, rfl, hbS, hcS⟩ : ∃ b off, aoS = some ⟨b, off, none⟩ ∧ b < w.heap.size ∧ ∀ i, i < o.S.length → w.cell? ⟨b, off + i, none⟩ = some (.string ⟨(o.S[i]?.getD []).toArray⟩) := by
                        rcases HSC.out with h9 | h9
                        · exact absurd (by rw [h9]; rfl) hz
                        · exact h9
                      have HCS := Lib.hid hcS
                      clear hcS
                      have e0 := hbo.cell 0 _ rfl
                      have e1 := hbo.cell 1 _ rfl
                      have e3 := hbo.cell 3 _ rfl
                      have hSN : StrsN w5 o.sv o.S := ⟨HOK.out.s.1.below hbx5, HOK.out.s.2⟩
                      have hSI := HOK.out.s.1
                      rw [hSv] at hSN hSI
                      have HSI := Lib.hid hSI
                      clear hSI
                      have hSc : sumS o.S ≤ 30000 := by
                        have h1 := HC.out
                        have h2 : sumS o.S ≤ costV o := by unfold costV sumS; omega
                        omega
                      have hSl : o.S.length ≤ 30000 := Nat.le_trans (count_sum o.S) hSc
                      have HSB : Hid (∀ t ∈ o.S, t.length ≤ 30000) := Lib.hid (fun t ht => Nat.le_trans (text_sum ht) hSc)
                      clear hSc
                      obtain ⟨fs, hfs⟩ : ∃ fs, fs = o.S.map fun t => (⟨o.n, 2, 0, t⟩ : DocF) := ⟨_, rfl⟩
                      have hfl : fs.length = o.S.length := by rw [hfs, List.length_map]
                      have HFS : Hid (docF (toO o) = fs) := Lib.hid (by unfold docF toO; simp only; rw [if_neg hk1, if_pos hk2, hfs])
                      have HWD : Hid (wideO (toO o) = false) := Lib.hid (by unfold wideO toO; simp only; rw [if_neg hk1, if_pos hk2])
                      have HDF : Hid (∀ f ∈ fs, docOk f ∧ f.v < 18446744073709551616 ∧ f.d.length ≤ 9223372036854775807) := Lib.hid (by rw [hfs]; intro f hf; obtain ⟨t, ht, rfl⟩ := List.mem_map.1 hf; exact ⟨.inr ⟨rfl, rfl⟩, by simp, by have := HSB.out t ht; simp only; omega⟩)
                      have HFL : Hid (fs.length ≤ 40000) := Lib.hid (by omega)
                      have HF1 := Lib.hid hfs
                      have HFl := Lib.hid hfl
                      clear hfs hfl
                      go_wp2_with fail
                      have HK1 := Lib.hid hk1
                      have HK2 := Lib.hid hk2
                      clear hk1 hk2
                      refine (lent_texts _ o.S w5 hSN (by omega)).mono ?_
                      rintro e' w6 ⟨v16, rfl, hlent, hb6⟩
                      have hbx6 := hbx5.trans (hb6.mono hbx5.size)
                      have hm6 := hm5.kept hb6
                      have hbo6 := hbo.kept hb6
                      clear e0 e1 e3 hSN
                      have e1 := hbo6.cell 1 _ rfl
                      have hngL : ∀ g, w5.heap.size ≤ g → ¬ Ow p v g := fun g hg h9 => by have := (hm5.ow g h9).2; omega
                      go_wp2_with fail
                      refine (putText_any B0 p v _ l e o.n o.S w6 hm6 (rowV_of_lent hlent hngL) (fun x hx => Nat.le_trans (HSB.out x hx) (by decide)) (by have := HLL.out; omega)).mono ?_
                      rintro e' w7 ⟨rfl, hst⟩
                      have hb7 := hst.belowIn (a := w) hbx6 (fun k hk => Nat.le_trans hB0w (hm6.ow k hk).1)
                      obtain ⟨v6, hm7, hk7, _⟩ := hst
                      have hbo7 := hbo6.keep hk7 hnpb
                      obtain ⟨gL, cL, rfl, hg1, hg2, hg3, hg4, hg5, hg6⟩ := hlent.row
                      have hkL := hk7.same gL hg2 (hngL gL hg1)
                      have hlent7 : Lent w5.heap.size w7 (.slice (some ⟨gL, 0, none⟩) o.S.length cL) o.S := ⟨gL, cL, rfl, hg1, Nat.lt_of_lt_of_le hg2 hk7.size, hg3, hg4, fun i9 hi9 => (World.cell?_of_block (a := ⟨gL, i9, none⟩) hkL).trans (hg5 i9 hi9), (World.cell?_of_block (a := ⟨gL, o.S.length, none⟩) hkL).trans hg6⟩
                      obtain ⟨l6, e6, hle⟩ : ∃ l6 e6, textsM (l, e) o.n o.S = (l6, e6) := ⟨_, _, rfl⟩
                      rw [hle] at hm7
                      simp only at hm7
                      have HMO : Hid (msgOp (l, e) (toO o) = (l6, e6)) := Lib.hid (by unfold msgOp toO; simp only; rw [if_neg HK1.out, if_pos HK2.out]; exact hle)
                      clear e1 hbo hbo6 hm5 hm6 hlent hg5 hg6 hkL hk7 hg1 hg2 hg3 hg4 hngL hle
                      have e3 := hbo7.cell 3 _ rfl
                      go_wp2_with fail
                      clear e3
                      go_loopg [12, 15] o.S.length (fun g fv kv wx => ∃ (k : Nat) (ao8 : Option Addr) (cap8 : Nat), fv = .slice ao8 k cap8 ∧ kv = .int .i64 (k : Int) ∧ k + g = o.S.length ∧ OwnsK 5 w7.heap.size 37 wx (.slice ao8 k cap8) k (drow (fs.take k)) ∧ Below w7.heap.size w7 wx)
                      case atStart => exact ⟨0, none, 0, rfl, rfl, by omega, OwnsK.nil 5 _ _ _, Below.refl _ _⟩
                      case round =>
                        obtain ⟨k, ao8, cap8, rfl, rfl, hkg, hrow, hbx8⟩ := hrel
                        have hbo8 := hbo7.kept hbx8
                        have e3 := hbo8.cell 3 _ rfl
                        by_cases hkl : k < o.S.length
                        · have q3 : (k : Int) < (o.S.length : Int) := by omega
                          have q4 : (0 : Int) ≤ (k : Int) := by omega
                          have fS := ((hb7.trans (hbx8.mono hb7.size)).cell (p := ⟨bS, offS + k, none⟩) hbS).trans (HCS.out k hkl)
                          have htk : fs.take (k + 1) = fs.take k ++ [(⟨o.n, 2, 0, o.S[k]?.getD []⟩ : DocF)] := by
                            rw [List.take_succ_eq_append_getElem (by rw [HFl.out]; exact hkl)]
                            simp only [HF1.out, List.getElem_map, List.getElem?_eq_getElem hkl, Option.getD_some]
                          have HTK := Lib.hid htk
                          clear htk
                          generalize o.S[k]?.getD [] = t at *
                          go_upto_region 45 with fail
                          refine wp_region_seq (S := fun w' => BoxL w' pb [.int .i64 o.k, .int .i64 o.n, .int .u64 (vv : Int), .slice (some ⟨bS, offS, none⟩) o.S.length capS, .slice aoL o.L.length capL, .slice aoP o.P.length capP] ∧ w'.cell? ⟨bS, offS + k, none⟩ = some (.string ⟨t.toArray⟩)) [(true, 0), (true, 1), (true, 2), (true, 3), (true, 4), (true, 5), (true, 6), (true, 7), (false, 8), (false, 9), (false, 10), (true, 11)] (by as_aux_lemma => kernel_rfl) (by as_aux_lemma => kernel_rfl) (by as_aux_lemma => kernel_rfl) (by as_aux_lemma => kernel_rfl) (by as_aux_lemma => kernel_rfl) (fun d _ _ _ _ h => by cases d <;> exact h) ⟨hbo8.drew, fS⟩ (fun _ => ?_)
                          simp only [pickOps, List.append_eq, List.cons_append, List.nil_append, List.getElem?_toArray, List.getElem?_cons_succ, List.getElem?_cons_zero]
                          clear e3
                          have hb : Below wr.heap.size wr wr.drew := (Below.refl _ _).drew
                          generalize wr.drew = w2 at hb ⊢
                          replace hbo8 := hbo8.kept hb
                          replace fS := (hb.cell (p := ⟨bS, offS + k, none⟩) (World.block_lt_of_cell? wr _ fS)).trans fS
                          replace hrow := hrow.kept hb
                          replace hbx8 := hbx8.trans (hb.mono hbx8.size)
                          clear hb
                          repeat (first | (refine seq_take (v := ?_) (by rfl) ?_ ?_; rotate_left; (· intro w hSw; (try dsimp only at hSw); obtain ⟨hLo, fS⟩ := hSw; have e1 := hLo.cell 1 _ rfl; have e3 := hLo.cell 3 _ rfl; clear hLo; go_simp; all_goals with_reducible rfl); (try simp only [Act.put, List.setIfInBounds_toArray, List.set_cons_zero, List.set_cons_succ])) | (refine seq_leave (by rfl) ?_; (try simp only [Act.put, List.setIfInBounds_toArray, List.set_cons_zero, List.set_cons_succ])))
                          refine seq_step (by rfl) (fun K hK => ?_)
                          refine wp_buildAs 37 _ rfl [(0, .int .i64 o.n), (1, .int .i64 2), (4, .string ⟨t.toArray⟩)] #[.int .i64 o.n, .int .i64 2, .int .i64 0, .int .u64 0, .string ⟨t.toArray⟩] (by as_aux_lemma => kernel_rfl) (field_b _ _) ?_
                          first | refine hK.out _ _ ⟨hbo8, fS⟩ (fun _ => ?_) | (go_wp2_with fail; refine hK.out _ _ ⟨hbo8, fS⟩ (fun _ => ?_))
                          clear hK K
                          (try simp only [Act.put, List.setIfInBounds_toArray, List.set_cons_zero, List.set_cons_succ])
                          refine seq_step (by rfl) (fun K hK => ?_)
                          refine wp_one5 _ rfl (.int .i64 o.n) (.int .i64 2) (.int .i64 0) (.int .u64 0) (.string ⟨t.toArray⟩) (by as_aux_lemma => kernel_rfl) ?_
                          obtain ⟨w3, hwE⟩ : ∃ W, W = w2.alloc (.cells #[.int .i64 o.n, .int .i64 2, .int .i64 0, .int .u64 0, .string ⟨t.toArray⟩] 37) := ⟨_, rfl⟩
                          have hb : Below w2.heap.size w2 w3 := by rw [hwE]; exact (Below.refl _ _).alloc (Nat.le_refl _) _
                          have hcs : ∀ j u, (dcells ⟨o.n, 2, 0, t⟩)[j]? = some u → w3.cell? ((⟨w2.heap.size, 0, none⟩ : Addr).add j) = some u := by
                            intro j u hj
                            rw [Addr.add_lit, Nat.zero_add, hwE]
                            exact (BoxL.new w2 (dcells ⟨o.n, 2, 0, t⟩) 37).cell j u hj
                          rw [← hwE]
                          clear hwE
                          replace hbo8 := hbo8.kept hb
                          replace fS := (hb.cell (p := ⟨bS, offS + k, none⟩) (World.block_lt_of_cell? w2 _ fS)).trans fS
                          replace hrow := hrow.kept hb
                          replace hbx8 := hbx8.trans (hb.mono hbx8.size)
                          clear hb
                          first | refine hK.out _ _ ⟨hbo8, fS⟩ (fun _ => ?_) | (go_wp2_with fail; refine hK.out _ _ ⟨hbo8, fS⟩ (fun _ => ?_))
                          clear hK K
                          (try simp only [Act.put, List.setIfInBounds_toArray, List.set_cons_zero, List.set_cons_succ])
                          refine seq_step (by rfl) (fun K hK => ?_)
                          refine step_appendK E10 hrow rfl rfl rfl rfl hcs (by simp [dcells, Value.oneCell']) (by omega) (by unfold maxLen; omega) hbx8.size ?_
                          intro v9 w4 ho9 hg9 hn9
                          rw [show drow (fs.take k) ++ dcells ⟨o.n, 2, 0, t⟩ = drow (fs.take (k + 1)) by rw [HTK.out]; unfold drow; rw [List.flatMap_append]; rfl] at ho9
                          obtain ⟨ao2, cap2, rfl, _, _, _⟩ := ho9.slice
                          have hbB9 : Below w7.heap.size w3 w4 := ⟨hg9.os, hg9.tape, hg9.output, hg9.size, fun k9 hk9 => hg9.block k9 (by have := hbx8.size; omega) (fun e9 => by have := (hrow.lt k9 e9.symm).1; omega)⟩
                          replace hbo8 := hbo8.below hbB9 hbo7.lt
                          replace fS := (hbB9.cell (p := ⟨bS, offS + k, none⟩) (Nat.lt_of_lt_of_le hbS hb7.size)).trans fS
                          replace hbx8 := hbx8.trans hbB9
                          clear hrow hg9 hcs hn9 hbB9
                          have HO := Lib.hid ho9
                          clear ho9
                          first | refine hK.out _ _ ⟨hbo8, fS⟩ (fun _ => ?_) | (go_wp2_with fail; refine hK.out _ _ ⟨hbo8, fS⟩ (fun _ => ?_))
                          clear hK K
                          (try simp only [Act.put, List.setIfInBounds_toArray, List.set_cons_zero, List.set_cons_succ])
                          repeat (first | (refine seq_take (v := ?_) (by rfl) ?_ ?_; rotate_left; (· intro w hSw; (try dsimp only at hSw); obtain ⟨hLo, fS⟩ := hSw; have e1 := hLo.cell 1 _ rfl; have e3 := hLo.cell 3 _ rfl; clear hLo; go_simp; all_goals with_reducible rfl); (try simp only [Act.put, List.setIfInBounds_toArray, List.set_cons_zero, List.set_cons_succ])) | (refine seq_leave (by rfl) ?_; (try simp only [Act.put, List.setIfInBounds_toArray, List.set_cons_zero, List.set_cons_succ])))
                          refine seq_end ?_
                          clear fS q3
                          go_wp2_with fail
                          go_roundg (gk - 1)
                          case measure => omega
                          case rel => exact ⟨k + 1, ao2, cap2, rfl, by go_num, by omega, HO.out, hbx8⟩
                        · have q3 : ¬ (k : Int) < (o.S.length : Int) := by omega
                          obtain rfl : k = fs.length := by rw [HFl.out]; omega
                          have hm10 := hm7
                          go_wp2_with fail
                          refine (stays_texts _ _ _ o.S wr (hlent7.below hbx8) (HSI.out.below (hb7.trans (hbx8.mono hb7.size))) (by omega)).mono ?_
                          rintro e' w10 ⟨rfl, hb10⟩
                          clear e3
                          go_wp2_with fail
                          have hbx9 := hbx8.trans (hb10.mono hbx8.size)
                          replace hm10 := hm7.kept hbx9
                          have hb7w := hb7.trans (hbx9.mono hb7.size)
                          rw [List.take_of_length_le (Nat.le_refl _)] at hrow
                          have ho7 := hrow.kept hb10
                          go_meet
                          case rel => exact ⟨fs, _, _, w7.heap.size, v6, l6, e6, rfl, rfl, by rw [HWD.out], ho7, hm10, HMO, HFS, HDF, HFL, hb7w⟩
                · by_cases hk3 : o.k = 3
                  · by_cases hz : o.L.length = 0
                    · skip
                      as_aux_lemma =>
                        have HZ := Lib.hid hz
                        clear hz
                        have e0 := hbo.cell 0 _ rfl
                        have e1 := hbo.cell 1 _ rfl
                        have e4 := hbo.cell 4 _ rfl
                        have hLN := HOK.out.l.below hbx5
                        have hLI := HOK.out.l.1
                        rw [hLv] at hLN hLI
                        have HLI := Lib.hid hLI
                        clear hLI
                        have hLl : o.L.length ≤ 1000000 := by
                          have h1 := HC.out
                          have h2 : 10 * o.L.length ≤ costV o := by unfold costV; omega
                          omega
                        go_wp2_with fail
                        have HK1 := Lib.hid hk1
                        have HK2 := Lib.hid hk2
                        have HK3 := Lib.hid hk3
                        clear hk1 hk2 hk3
                        refine (lent_ints _ o.L w5 hLN hLl).mono ?_
                        rintro e' w6 ⟨v16, rfl, hlent, hb6⟩
                        have hbx6 := hbx5.trans (hb6.mono hbx5.size)
                        have hm6 := hm5.kept hb6
                        have hbo6 := hbo.kept hb6
                        clear e0 e1 e4 hLN
                        have e1 := hbo6.cell 1 _ rfl
                        go_wp2_with fail
                        refine (putInts_any B0 p v _ l e o.n o.L w6 hm6 ⟨_, rowV_of_ints hlent.ints⟩ hLl (by have := HLL.out; omega)).mono ?_
                        rintro e' w7 ⟨rfl, hst⟩
                        have hb7 := hst.belowIn (a := w) hbx6 (fun k hk => Nat.le_trans hB0w (hm6.ow k hk).1)
                        obtain ⟨v6, hm7, hk7, _⟩ := hst
                        have hbo7 := hbo6.keep hk7 hnpb
                        obtain ⟨gL, cL, rfl, hg1, hg2, hg3, hg4, hg5, hg6⟩ := hlent.row
                        have hngL : ¬ Ow p v gL := fun h9 => by have := (hm5.ow gL h9).2; omega
                        have hkL := hk7.same gL hg2 hngL
                        have hlent7 : LentI .i64 (-77) w5.heap.size w7 (.slice (some ⟨gL, 0, none⟩) o.L.length cL) o.L := ⟨gL, cL, rfl, hg1, Nat.lt_of_lt_of_le hg2 hk7.size, hg3, hg4, fun i9 hi9 => (World.cell?_of_block (a := ⟨gL, i9, none⟩) hkL).trans (hg5 i9 hi9), (World.cell?_of_block (a := ⟨gL, o.L.length, none⟩) hkL).trans hg6⟩
                        obtain ⟨l6, e6, hle⟩ : ∃ l6 e6, intsM (l, e) o.n o.L = (l6, e6) := ⟨_, _, rfl⟩
                        rw [hle] at hm7
                        simp only at hm7
                        have HMO : Hid (msgOp (l, e) (toO o) = (l6, e6)) := Lib.hid (by unfold msgOp toO; simp only; rw [if_neg HK1.out, if_neg HK2.out, if_pos HK3.out]; exact hle)
                        have HWD : Hid (wideO (toO o) = false) := Lib.hid (by unfold wideO toO; simp only; rw [if_neg HK1.out, if_neg HK2.out, if_pos HK3.out])
                        clear e1 hbo hbo6 hm5 hm6 hlent hg5 hg6 hkL hk7 hg1 hg2 hg3 hg4 hngL hle
                        have e4 := hbo7.cell 4 _ rfl
                        go_wp2_with fail
                        clear e4
                        have q3 : ¬ (0 : Int) < (o.L.length : Int) := by have := HZ.out; omega
                        go_loopg [17, 18] 0 (fun g dv kv wx => dv = .string ⟨#[]⟩ ∧ kv = .int .i64 0 ∧ w7 = wx)
                        case atStart => exact ⟨rfl, rfl, rfl⟩
                        case round =>
                          obtain ⟨rfl, rfl, rfl⟩ := hrel
                          have e4 := hbo7.cell 4 _ rfl
                          go_wp2_with fail
                          refine (stays_ints _ _ _ o.L w7 (hlent7.below (Below.refl _ _)) (HLI.out.below (hb7.mono (Nat.le_refl _))) hLl).mono ?_
                          rintro e' w10 ⟨rfl, hb10⟩
                          clear e4
                          go_wp2_with fail
                          obtain ⟨fs, hfs⟩ : ∃ fs, fs = ([] : List DocF) := ⟨_, rfl⟩
                          have HFS : Hid (docF (toO o) = fs) := Lib.hid (by unfold docF toO; simp only; rw [if_neg HK1.out, if_neg HK2.out, if_pos HK3.out, if_pos HZ.out, hfs])
                          have HDF : Hid (∀ f ∈ fs, docOk f ∧ f.v < 18446744073709551616 ∧ f.d.length ≤ 9223372036854775807) := Lib.hid (by rw [hfs]; intro f hf; cases hf)
                          have HFL : Hid (fs.length ≤ 40000) := Lib.hid (by rw [hfs]; exact Nat.zero_le _)
                          have hm10 := hm7.kept hb10
                          have hb7w := hb7.trans (hb10.mono hb7.size)
                          have ho7 : OwnsK 5 w10.heap.size 37 w10 (.slice none fs.length 0) fs.length (drow fs) := by rw [hfs]; exact OwnsK.nil 5 _ _ w10
                          go_meet
                          case rel => exact ⟨fs, none, 0, w10.heap.size, v6, l6, e6, rfl, by rw [hfs]; rfl, by rw [HWD.out], ho7, hm10, HMO, HFS, HDF, HFL, hb7w⟩
                    · skip
                      as_aux_lemma =>
                        obtain ⟨bL, offL, rfl, hbL, hcL⟩ : ∃ b off, aoL = some ⟨b, off, none⟩ ∧ b < w.heap.size ∧ ∀ i, i < o.L.length → w.cell? ⟨b, off + i, none⟩ = some (.int .i64 (o.L[i]?.getD 0)) := by
                          rcases HLC.out with h9 | h9
                          · exact absurd (by rw [h9]; rfl) hz
                          · exact h9
                        have HCL := Lib.hid hcL
                        clear hcL
                        have e0 := hbo.cell 0 _ rfl
                        have e1 := hbo.cell 1 _ rfl
                        have e4 := hbo.cell 4 _ rfl
                        have hLN := HOK.out.l.below hbx5
                        have hLI := HOK.out.l.1
                        rw [hLv] at hLN hLI
                        have HLI := Lib.hid hLI
                        clear hLI
                        have hLl : o.L.length ≤ 1000000 := by
                          have h1 := HC.out
                          have h2 : 10 * o.L.length ≤ costV o := by unfold costV; omega
                          omega
                        go_wp2_with fail
                        have HK1 := Lib.hid hk1
                        have HK2 := Lib.hid hk2
                        have HK3 := Lib.hid hk3
                        clear hk1 hk2 hk3
                        refine (lent_ints _ o.L w5 hLN hLl).mono ?_
                        rintro e' w6 ⟨v16, rfl, hlent, hb6⟩
                        have hbx6 := hbx5.trans (hb6.mono hbx5.size)
                        have hm6 := hm5.kept hb6
                        have hbo6 := hbo.kept hb6
                        clear e0 e1 e4 hLN
                        have e1 := hbo6.cell 1 _ rfl
                        go_wp2_with fail
                        refine (putInts_any B0 p v _ l e o.n o.L w6 hm6 ⟨_, rowV_of_ints hlent.ints⟩ hLl (by have := HLL.out; omega)).mono ?_
                        rintro e' w7 ⟨rfl, hst⟩
                        have hb7 := hst.belowIn (a := w) hbx6 (fun k hk => Nat.le_trans hB0w (hm6.ow k hk).1)
                        obtain ⟨v6, hm7, hk7, _⟩ := hst
                        have hbo7 := hbo6.keep hk7 hnpb
                        obtain ⟨gL, cL, rfl, hg1, hg2, hg3, hg4, hg5, hg6⟩ := hlent.row
                        have hngL : ¬ Ow p v gL := fun h9 => by have := (hm5.ow gL h9).2; omega
                        have hkL := hk7.same gL hg2 hngL
                        have hlent7 : LentI .i64 (-77) w5.heap.size w7 (.slice (some ⟨gL, 0, none⟩) o.L.length cL) o.L := ⟨gL, cL, rfl, hg1, Nat.lt_of_lt_of_le hg2 hk7.size, hg3, hg4, fun i9 hi9 => (World.cell?_of_block (a := ⟨gL, i9, none⟩) hkL).trans (hg5 i9 hi9), (World.cell?_of_block (a := ⟨gL, o.L.length, none⟩) hkL).trans hg6⟩
                        obtain ⟨l6, e6, hle⟩ : ∃ l6 e6, intsM (l, e) o.n o.L = (l6, e6) := ⟨_, _, rfl⟩
                        rw [hle] at hm7
                        simp only at hm7
                        have HMO : Hid (msgOp (l, e) (toO o) = (l6, e6)) := Lib.hid (by unfold msgOp toO; simp only; rw [if_neg HK1.out, if_neg HK2.out, if_pos HK3.out]; exact hle)
                        have HWD : Hid (wideO (toO o) = false) := Lib.hid (by unfold wideO toO; simp only; rw [if_neg HK1.out, if_neg HK2.out, if_pos HK3.out])
                        clear e1 hbo hbo6 hm5 hm6 hlent hg5 hg6 hkL hk7 hg1 hg2 hg3 hg4 hngL hle
                        have e4 := hbo7.cell 4 _ rfl
                        go_wp2_with fail
                        clear e4
                        go_loopg [17, 18] o.L.length (fun g dv kv wx => ∃ (k : Nat) (D : List UInt8), dv = .string ⟨D.toArray⟩ ∧ kv = .int .i64 (k : Int) ∧ k + g = o.L.length ∧ Hid (D = intsD (o.L.take k)) ∧ D.length ≤ 10 * k ∧ Below w7.heap.size w7 wx)
                        case atStart => exact ⟨0, [], rfl, rfl, by omega, Lib.hid rfl, by simp, Below.refl _ _⟩
                        case round =>
                          obtain ⟨k, D, rfl, rfl, hkg, HD, hDl, hbx8⟩ := hrel
                          have hbo8 := hbo7.kept hbx8
                          have e4 := hbo8.cell 4 _ rfl
                          by_cases hkl : k < o.L.length
                          · have q3 : (k : Int) < (o.L.length : Int) := by omega
                            have q4 : (0 : Int) ≤ (k : Int) := by omega
                            have fL := ((hb7.trans (hbx8.mono hb7.size)).cell (p := ⟨bL, offL + k, none⟩) hbL).trans (HCL.out k hkl)
                            have HTK := Lib.hid (intsD_take hkl)
                            have hwr := wrap_u64 (o.L[k]?.getD 0)
                            have hx64 := u64_lt (o.L[k]?.getD 0)
                            generalize o.L[k]?.getD 0 = x at *
                            obtain ⟨n, hn⟩ : ∃ n, n = Go.Proofs.Ytjcldnkgidfifaa.u64 x := ⟨_, rfl⟩
                            rw [← hn] at hwr hx64 HTK
                            have hl10 := vbytes_ten hx64
                            obtain ⟨E, hE⟩ : ∃ E, E = vbytes n := ⟨_, rfl⟩
                            rw [← hE] at hl10 HTK
                            have HE := Lib.hid hE
                            have hab := bytes_app D E
                            obtain ⟨DE, hDE⟩ : ∃ l, l = D ++ E := ⟨_, rfl⟩
                            rw [← hDE] at hab
                            have HDE := Lib.hid hDE
                            clear hn hE hDE
                            go_wp2_with fail
                            refine (rvarint_any n wr hx64).mono ?_
                            rintro e9 w9 ⟨rfl, hb9⟩
                            rw [← HE.out]
                            clear hwr fL e4 q3
                            go_wp2_with fail
                            go_roundg (gk - 1)
                            case measure => omega
                            case rel => exact ⟨k + 1, DE, rfl, by go_num, by omega, Lib.hid (by rw [HTK.out, HDE.out, HD.out]), by rw [HDE.out, List.length_append]; omega, hbx8.trans (hb9.mono hbx8.size)⟩
                          · have q3 : ¬ (k : Int) < (o.L.length : Int) := by omega
                            have q5 : (0 : Int) < (o.L.length : Int) := by omega
                            have HDD : Hid (D = intsD o.L) := Lib.hid (by rw [HD.out, List.take_of_length_le (by omega)])
                            have e1 := hbo8.cell 1 _ rfl
                            obtain ⟨fs, hfs⟩ : ∃ fs, fs = [(⟨o.n, 2, 0, D⟩ : DocF)] := ⟨_, rfl⟩
                            have HFS : Hid (docF (toO o) = fs) := Lib.hid (by unfold docF toO; simp only; rw [if_neg HK1.out, if_neg HK2.out, if_pos HK3.out, if_neg hz, hfs, HDD.out])
                            have HDF : Hid (∀ f ∈ fs, docOk f ∧ f.v < 18446744073709551616 ∧ f.d.length ≤ 9223372036854775807) := Lib.hid (by rw [hfs]; intro f hf; simp at hf; subst hf; exact ⟨.inr ⟨rfl, rfl⟩, (show (0 : Nat) < 18446744073709551616 by decide), by simp only; omega⟩)
                            have HFL : Hid (fs.length ≤ 40000) := Lib.hid (by rw [hfs]; show (1 : Nat) ≤ 40000; decide)
                            have HF1 := Lib.hid hfs
                            clear hfs
                            go_upto_region 57 with fail
                            refine wp_region_lit ?_
                            iterate 4 (refine wpList_plain rfl (fun K hK => ?_); have HK := Lib.hid hK; clear hK; go_simp; refine HK.out _ _ ?_; clear HK K; (try simp only [Act.put, List.setIfInBounds_toArray, List.set_cons_zero, List.set_cons_succ]))
                            refine wpList_buildAs rfl 37 _ rfl [(0, .int .i64 o.n), (1, .int .i64 2), (4, .string ⟨D.toArray⟩)] #[.int .i64 o.n, .int .i64 2, .int .i64 0, .int .u64 0, .string ⟨D.toArray⟩] (by as_aux_lemma => kernel_rfl) (field_b _ _) ?_
                            (try simp only [Act.put, List.setIfInBounds_toArray, List.set_cons_zero, List.set_cons_succ])
                            refine wpList_one5 rfl _ rfl (.int .i64 o.n) (.int .i64 2) (.int .i64 0) (.int .u64 0) (.string ⟨D.toArray⟩) (by as_aux_lemma => kernel_rfl) ?_
                            (try simp only [Act.put, List.setIfInBounds_toArray, List.set_cons_zero, List.set_cons_succ])
                            go_wp2_with (at_builtin; refine append1KO E10 (OwnsK.nil 5 wr.heap.size 37 wr) rfl rfl rfl rfl rfl (by simp [Value.oneCell']) (by decide) (by decide) (Nat.le_refl _) ?_; intro v9 w9 ho7 hb9 hg9 hn9; replace ho7 : OwnsK 5 wr.heap.size 37 w9 v9 fs.length (drow fs) := (by rw [HF1.out]; exact ho7); clear hg9 hn9; obtain ⟨ao7, cap7, rfl, _, _, _⟩ := ho7.slice; clear e4 e1; have e4 := (hbo8.kept hb9).cell 4 _ rfl)
                            have hbx9 := hbx8.trans (hb9.mono hbx8.size)
                            refine (stays_ints _ _ _ o.L w9 (hlent7.below hbx9) (HLI.out.below (hb7.trans (hbx9.mono hb7.size))) hLl).mono ?_
                            rintro e' w10 ⟨rfl, hb10⟩
                            clear e4
                            go_wp2_with fail
                            have hm10 := hm7.kept (hbx9.trans (hb10.mono hbx9.size))
                            have hb7w := hb7.trans ((hbx9.trans (hb10.mono hbx9.size)).mono hb7.size)
                            replace ho7 := ho7.kept hb10
                            go_meet
                            case rel => exact ⟨fs, _, _, wr.heap.size, v6, l6, e6, rfl, rfl, by rw [HWD.out], ho7, hm10, HMO, HFS, HDF, HFL, hb7w⟩
                  · by_cases hz : o.P.length = 0
                    · skip
                      as_aux_lemma =>
                        have HZ := Lib.hid hz
                        clear hz
                        have e0 := hbo.cell 0 _ rfl
                        have e1 := hbo.cell 1 _ rfl
                        have e5 := hbo.cell 5 _ rfl
                        have hPN := HOK.out.p.below hbx5
                        have hPI := HOK.out.p.1
                        rw [hPv] at hPN hPI
                        have HPI := Lib.hid hPI
                        clear hPI
                        have hPl : o.P.length ≤ 1000000 := by
                          have h1 := HC.out
                          have h2 : 4 * o.P.length ≤ costV o := by unfold costV; omega
                          omega
                        obtain ⟨ps, hps, hp64⟩ := patsN HOK.out.pm
                        have hlps : ps.length = o.P.length := by rw [hps, List.length_map]
                        have hpm : o.P.map Int.toNat = ps := by rw [hps, List.map_map]; exact List.map_id' ps
                        have HPS := Lib.hid hps
                        have H64 := Lib.hid hp64
                        clear hps hp64
                        go_wp2_with fail
                        have HK1 := Lib.hid hk1
                        have HK2 := Lib.hid hk2
                        have HK3 := Lib.hid hk3
                        clear hk1 hk2 hk3
                        refine (lent_pats _ o.P w5 hPN hPl).mono ?_
                        rintro e' w6 ⟨v16, rfl, hlent, hb6⟩
                        have hbx6 := hbx5.trans (hb6.mono hbx5.size)
                        have hm6 := hm5.kept hb6
                        have hbo6 := hbo.kept hb6
                        clear e0 e1 e5 hPN
                        have e1 := hbo6.cell 1 _ rfl
                        go_wp2_with fail
                        refine (putFloats_any B0 p v _ l e o.n ps w6 hm6 ⟨_, rowV_of_pats ps HPS.out hlent.ints⟩ H64.out (by omega) (by have := HLL.out; omega)).mono ?_
                        rintro e' w7 ⟨rfl, hst⟩
                        have hb7 := hst.belowIn (a := w) hbx6 (fun k hk => Nat.le_trans hB0w (hm6.ow k hk).1)
                        obtain ⟨v6, hm7, hk7, _⟩ := hst
                        have hbo7 := hbo6.keep hk7 hnpb
                        obtain ⟨gL, cL, rfl, hg1, hg2, hg3, hg4, hg5, hg6⟩ := hlent.row
                        have hngL : ¬ Ow p v gL := fun h9 => by have := (hm5.ow gL h9).2; omega
                        have hkL := hk7.same gL hg2 hngL
                        have hlent7 : LentI .u64 77 w5.heap.size w7 (.slice (some ⟨gL, 0, none⟩) o.P.length cL) o.P := ⟨gL, cL, rfl, hg1, Nat.lt_of_lt_of_le hg2 hk7.size, hg3, hg4, fun i9 hi9 => (World.cell?_of_block (a := ⟨gL, i9, none⟩) hkL).trans (hg5 i9 hi9), (World.cell?_of_block (a := ⟨gL, o.P.length, none⟩) hkL).trans hg6⟩
                        obtain ⟨l6, e6, hle⟩ : ∃ l6 e6, floatsM (l, e) o.n ps = (l6, e6) := ⟨_, _, rfl⟩
                        rw [hle] at hm7
                        simp only at hm7
                        have HMO : Hid (msgOp (l, e) (toO o) = (l6, e6)) := Lib.hid (by unfold msgOp toO; simp only; rw [if_neg HK1.out, if_neg HK2.out, if_neg HK3.out, hpm]; exact hle)
                        have HWD0 : Hid (wideO (toO o) = wideP ps) := Lib.hid (by unfold wideO toO; simp only; rw [if_neg HK1.out, if_neg HK2.out, if_neg HK3.out, hpm])
                        have HPM := Lib.hid hpm
                        clear e1 hbo hbo6 hm5 hm6 hlent hg5 hg6 hkL hk7 hg1 hg2 hg3 hg4 hngL hle hpm
                        have e5 := hbo7.cell 5 _ rfl
                        go_wp2_with fail
                        clear e5
                        have q3 : ¬ (0 : Int) < (o.P.length : Int) := by have := HZ.out; omega
                        go_loopg [13, 20, 21] 0 (fun g wv dv kv wx => wv = .bool false ∧ dv = .string ⟨#[]⟩ ∧ kv = .int .i64 0 ∧ w7 = wx)
                        case atStart => exact ⟨rfl, rfl, rfl, rfl⟩
                        case round =>
                          obtain ⟨rfl, rfl, rfl, rfl⟩ := hrel
                          have e5 := hbo7.cell 5 _ rfl
                          go_wp2_with fail
                          refine (stays_pats _ _ _ o.P w7 (hlent7.below (Below.refl _ _)) (HPI.out.below (hb7.mono (Nat.le_refl _))) hPl).mono ?_
                          rintro e' w10 ⟨rfl, hb10⟩
                          clear e5
                          go_wp2_with fail
                          have hps0 : ps = [] := List.eq_nil_of_length_eq_zero (by have := HZ.out; omega)
                          obtain ⟨fs, hfs⟩ : ∃ fs, fs = ([] : List DocF) := ⟨_, rfl⟩
                          have HFS : Hid (docF (toO o) = fs) := Lib.hid (by unfold docF toO; simp only; rw [if_neg HK1.out, if_neg HK2.out, if_neg HK3.out, HPM.out, if_pos (by have := HZ.out; omega), hfs])
                          have HWD : Hid (wideO (toO o) = false) := Lib.hid (by rw [HWD0.out, hps0]; rfl)
                          have HDF : Hid (∀ f ∈ fs, docOk f ∧ f.v < 18446744073709551616 ∧ f.d.length ≤ 9223372036854775807) := Lib.hid (by rw [hfs]; intro f hf; cases hf)
                          have HFL : Hid (fs.length ≤ 40000) := Lib.hid (by rw [hfs]; exact Nat.zero_le _)
                          have hm10 := hm7.kept hb10
                          have hb7w := hb7.trans (hb10.mono hb7.size)
                          have ho7 : OwnsK 5 w10.heap.size 37 w10 (.slice none fs.length 0) fs.length (drow fs) := by rw [hfs]; exact OwnsK.nil 5 _ _ w10
                          go_meet
                          case rel => exact ⟨fs, none, 0, w10.heap.size, v6, l6, e6, rfl, by rw [hfs]; rfl, by rw [HWD.out], ho7, hm10, HMO, HFS, HDF, HFL, hb7w⟩
                    · skip
                      as_aux_lemma =>
                        obtain ⟨bL, offL, rfl, hbL, hcL⟩ : ∃ b off, aoP = some ⟨b, off, none⟩ ∧ b < w.heap.size ∧ ∀ i, i < o.P.length → w.cell? ⟨b, off + i, none⟩ = some (.int .u64 (o.P[i]?.getD 0)) := by
                          rcases HPC.out with h9 | h9
                          · exact absurd (by rw [h9]; rfl) hz
                          · exact h9
                        have HCL := Lib.hid hcL
                        clear hcL
                        have e0 := hbo.cell 0 _ rfl
                        have e1 := hbo.cell 1 _ rfl
                        have e5 := hbo.cell 5 _ rfl
                        have hPN := HOK.out.p.below hbx5
                        have hPI := HOK.out.p.1
                        rw [hPv] at hPN hPI
                        have HPI := Lib.hid hPI
                        clear hPI
                        have hPl : o.P.length ≤ 1000000 := by
                          have h1 := HC.out
                          have h2 : 4 * o.P.length ≤ costV o := by unfold costV; omega
                          omega
                        obtain ⟨ps, hps, hp64⟩ := patsN HOK.out.pm
                        have hlps : ps.length = o.P.length := by rw [hps, List.length_map]
                        have hpm : o.P.map Int.toNat = ps := by rw [hps, List.map_map]; exact List.map_id' ps
                        have HPS := Lib.hid hps
                        have H64 := Lib.hid hp64
                        clear hps hp64
                        go_wp2_with fail
                        have HK1 := Lib.hid hk1
                        have HK2 := Lib.hid hk2
                        have HK3 := Lib.hid hk3
                        clear hk1 hk2 hk3
                        refine (lent_pats _ o.P w5 hPN hPl).mono ?_
                        rintro e' w6 ⟨v16, rfl, hlent, hb6⟩
                        have hbx6 := hbx5.trans (hb6.mono hbx5.size)
                        have hm6 := hm5.kept hb6
                        have hbo6 := hbo.kept hb6
                        clear e0 e1 e5 hPN
                        have e1 := hbo6.cell 1 _ rfl
                        go_wp2_with fail
                        refine (putFloats_any B0 p v _ l e o.n ps w6 hm6 ⟨_, rowV_of_pats ps HPS.out hlent.ints⟩ H64.out (by omega) (by have := HLL.out; omega)).mono ?_
                        rintro e' w7 ⟨rfl, hst⟩
                        have hb7 := hst.belowIn (a := w) hbx6 (fun k hk => Nat.le_trans hB0w (hm6.ow k hk).1)
                        obtain ⟨v6, hm7, hk7, _⟩ := hst
                        have hbo7 := hbo6.keep hk7 hnpb
                        obtain ⟨gL, cL, rfl, hg1, hg2, hg3, hg4, hg5, hg6⟩ := hlent.row
                        have hngL : ¬ Ow p v gL := fun h9 => by have := (hm5.ow gL h9).2; omega
                        have hkL := hk7.same gL hg2 hngL
                        have hlent7 : LentI .u64 77 w5.heap.size w7 (.slice (some ⟨gL, 0, none⟩) o.P.length cL) o.P := ⟨gL, cL, rfl, hg1, Nat.lt_of_lt_of_le hg2 hk7.size, hg3, hg4, fun i9 hi9 => (World.cell?_of_block (a := ⟨gL, i9, none⟩) hkL).trans (hg5 i9 hi9), (World.cell?_of_block (a := ⟨gL, o.P.length, none⟩) hkL).trans hg6⟩
                        obtain ⟨l6, e6, hle⟩ : ∃ l6 e6, floatsM (l, e) o.n ps = (l6, e6) := ⟨_, _, rfl⟩
                        rw [hle] at hm7
                        simp only at hm7
                        have HMO : Hid (msgOp (l, e) (toO o) = (l6, e6)) := Lib.hid (by unfold msgOp toO; simp only; rw [if_neg HK1.out, if_neg HK2.out, if_neg HK3.out, hpm]; exact hle)
                        have HWD0 : Hid (wideO (toO o) = wideP ps) := Lib.hid (by unfold wideO toO; simp only; rw [if_neg HK1.out, if_neg HK2.out, if_neg HK3.out, hpm])
                        have HPM := Lib.hid hpm
                        clear e1 hbo hbo6 hm5 hm6 hlent hg5 hg6 hkL hk7 hg1 hg2 hg3 hg4 hngL hle hpm
                        have e5 := hbo7.cell 5 _ rfl
                        go_wp2_with fail
                        clear e5
                        go_loopg [13, 20, 21] o.P.length (fun g wv dv kv wx => ∃ (k : Nat) (D : List UInt8) (wd : Bool), wv = .bool wd ∧ dv = .string ⟨D.toArray⟩ ∧ kv = .int .i64 (k : Int) ∧ k + g = o.P.length ∧ Hid (D = floatsD (ps.take k) ∧ wd = wideP (ps.take k)) ∧ D.length ≤ 4 * k ∧ Below w7.heap.size w7 wx)
                        case atStart => exact ⟨0, [], false, rfl, rfl, rfl, by omega, Lib.hid ⟨rfl, rfl⟩, by simp, Below.refl _ _⟩
                        case round =>
                          obtain ⟨k, D, wd, rfl, rfl, rfl, hkg, HD, hDl, hbx8⟩ := hrel
                          have hbo8 := hbo7.kept hbx8
                          have e5 := hbo8.cell 5 _ rfl
                          by_cases hkl : k < o.P.length
                          · have q3 : (k : Int) < (o.P.length : Int) := by omega
                            have q4 : (0 : Int) ≤ (k : Int) := by omega
                            have hkp : k < ps.length := by omega
                            have hpk : o.P[k]?.getD 0 = ((ps[k]?.getD 0 : Nat) : Int) := by rw [HPS.out, List.getElem?_map, List.getElem?_eq_getElem hkp]; rfl
                            have fL := ((hb7.trans (hbx8.mono hb7.size)).cell (p := ⟨bL, offL + k, none⟩) hbL).trans (HCL.out k hkl)
                            rw [hpk] at fL
                            have HTK := Lib.hid (floatsD_take hkp)
                            have HWK := Lib.hid (wideP_take hkp)
                            have hx64 : ps[k]?.getD 0 < 18446744073709551616 := by rw [List.getElem?_eq_getElem hkp]; exact H64.out _ (List.getElem_mem hkp)
                            clear hpk
                            generalize ps[k]?.getD 0 = x at *
                            obtain ⟨E, hE⟩ : ∃ E, E = littleB 4 x := ⟨_, rfl⟩
                            have hl4 : E.length = 4 := by rw [hE, littleB_len]
                            rw [← hE] at HTK
                            have HE := Lib.hid hE
                            have hab := bytes_app D E
                            obtain ⟨DE, hDE⟩ : ∃ l, l = D ++ E := ⟨_, rfl⟩
                            rw [← hDE] at hab
                            have HDE := Lib.hid hDE
                            clear hE hDE
                            go_wp2_with fail
                            refine (rlittle_any x 4 wr (by decide) hx64).mono ?_
                            rintro e9 w9 ⟨rfl, hb9⟩
                            rw [← HE.out]
                            have e5' := (hbo8.kept hb9).cell 5 _ rfl
                            have fL' := (hb9.cell (p := ⟨bL, offL + k, none⟩) (World.block_lt_of_cell? wr _ fL)).trans fL
                            clear fL e5
                            have hbx9 := hbx8.trans (hb9.mono hbx8.size)
                            cases wd
                            · by_cases hx32 : 4294967296 ≤ x
                              · have hxi : (4294967296 : Int) ≤ (x : Int) := by omega
                                have hdx : decide (4294967296 ≤ x) = true := decide_eq_true hx32
                                have HWN : Hid (true = wideP (ps.take (k + 1))) := Lib.hid (by rw [HWK.out, ← HD.out.2, hdx]; rfl)
                                clear hdx
                                go_wp2_with fail
                                go_roundg (gk - 1)
                                case measure => omega
                                case rel => exact ⟨k + 1, DE, true, rfl, rfl, by go_num, by omega, Lib.hid ⟨by rw [HTK.out, HDE.out, HD.out.1], HWN.out⟩, by rw [HDE.out, List.length_append]; omega, hbx9⟩
                              · have hxi : ¬ (4294967296 : Int) ≤ (x : Int) := by omega
                                have hdx : decide (4294967296 ≤ x) = false := decide_eq_false hx32
                                have HWN : Hid (false = wideP (ps.take (k + 1))) := Lib.hid (by rw [HWK.out, ← HD.out.2, hdx]; rfl)
                                clear hdx
                                go_wp2_with fail
                                go_roundg (gk - 1)
                                case measure => omega
                                case rel => exact ⟨k + 1, DE, false, congrArg Value.bool (decide_eq_false (by omega)), rfl, by go_num, by omega, Lib.hid ⟨by rw [HTK.out, HDE.out, HD.out.1], HWN.out⟩, by rw [HDE.out, List.length_append]; omega, hbx9⟩
                            · have HWN : Hid (true = wideP (ps.take (k + 1))) := Lib.hid (by rw [HWK.out, ← HD.out.2]; rfl)
                              go_wp2_with fail
                              go_roundg (gk - 1)
                              case measure => omega
                              case rel => exact ⟨k + 1, DE, true, rfl, rfl, by go_num, by omega, Lib.hid ⟨by rw [HTK.out, HDE.out, HD.out.1], HWN.out⟩, by rw [HDE.out, List.length_append]; omega, hbx9⟩
                          · have q3 : ¬ (k : Int) < (o.P.length : Int) := by omega
                            have q5 : (0 : Int) < (o.P.length : Int) := by omega
                            have HDD : Hid (D = floatsD ps ∧ wd = wideP ps) := Lib.hid (by have h9 := HD.out; rw [List.take_of_length_le (by omega)] at h9; exact h9)
                            have e1 := hbo8.cell 1 _ rfl
                            obtain ⟨fs, hfs⟩ : ∃ fs, fs = [(⟨o.n, 2, 0, D⟩ : DocF)] := ⟨_, rfl⟩
                            have HFS : Hid (docF (toO o) = fs) := Lib.hid (by unfold docF toO; simp only; rw [if_neg HK1.out, if_neg HK2.out, if_neg HK3.out, HPM.out, if_neg (by omega), hfs, HDD.out.1])
                            have HWD : Hid (wideO (toO o) = wd) := Lib.hid (by rw [HWD0.out, HDD.out.2])
                            have HDF : Hid (∀ f ∈ fs, docOk f ∧ f.v < 18446744073709551616 ∧ f.d.length ≤ 9223372036854775807) := Lib.hid (by rw [hfs]; intro f hf; simp at hf; subst hf; exact ⟨.inr ⟨rfl, rfl⟩, (show (0 : Nat) < 18446744073709551616 by decide), by simp only; omega⟩)
                            have HFL : Hid (fs.length ≤ 40000) := Lib.hid (by rw [hfs]; show (1 : Nat) ≤ 40000; decide)
                            have HF1 := Lib.hid hfs
                            clear hfs
                            go_upto_region 33 with fail
                            refine wp_region_lit ?_
                            iterate 4 (refine wpList_plain rfl (fun K hK => ?_); have HK := Lib.hid hK; clear hK; go_simp; refine HK.out _ _ ?_; clear HK K; (try simp only [Act.put, List.setIfInBounds_toArray, List.set_cons_zero, List.set_cons_succ]))
                            refine wpList_buildAs rfl 37 _ rfl [(0, .int .i64 o.n), (1, .int .i64 2), (4, .string ⟨D.toArray⟩)] #[.int .i64 o.n, .int .i64 2, .int .i64 0, .int .u64 0, .string ⟨D.toArray⟩] (by as_aux_lemma => kernel_rfl) (field_b _ _) ?_
                            (try simp only [Act.put, List.setIfInBounds_toArray, List.set_cons_zero, List.set_cons_succ])
                            refine wpList_one5 rfl _ rfl (.int .i64 o.n) (.int .i64 2) (.int .i64 0) (.int .u64 0) (.string ⟨D.toArray⟩) (by as_aux_lemma => kernel_rfl) ?_
                            (try simp only [Act.put, List.setIfInBounds_toArray, List.set_cons_zero, List.set_cons_succ])
                            go_wp2_with (at_builtin; refine append1KO E10 (OwnsK.nil 5 wr.heap.size 37 wr) rfl rfl rfl rfl rfl (by simp [Value.oneCell']) (by decide) (by decide) (Nat.le_refl _) ?_; intro v9 w9 ho7 hb9 hg9 hn9; replace ho7 : OwnsK 5 wr.heap.size 37 w9 v9 fs.length (drow fs) := (by rw [HF1.out]; exact ho7); clear hg9 hn9; obtain ⟨ao7, cap7, rfl, _, _, _⟩ := ho7.slice; clear e5 e1; have e5 := (hbo8.kept hb9).cell 5 _ rfl)
                            have hbx9 := hbx8.trans (hb9.mono hbx8.size)
                            refine (stays_pats _ _ _ o.P w9 (hlent7.below hbx9) (HPI.out.below (hb7.trans (hbx9.mono hb7.size))) hPl).mono ?_
                            rintro e' w10 ⟨rfl, hb10⟩
                            clear e5
                            go_wp2_with fail
                            have hm10 := hm7.kept (hbx9.trans (hb10.mono hbx9.size))
                            have hb7w := hb7.trans ((hbx9.trans (hb10.mono hbx9.size)).mono hb7.size)
                            replace ho7 := ho7.kept hb10
                            go_meet
                            case rel => exact ⟨fs, _, _, wr.heap.size, v6, l6, e6, rfl, rfl, by rw [HWD.out], ho7, hm10, HMO, HFS, HDF, HFL, hb7w⟩
            case rest =>
              as_aux_lemma =>
                obtain ⟨go9, hgo9⟩ : ∃ g, g = gk := ⟨_, rfl⟩
                subst hgo9
                obtain ⟨fs, ao7, cap7, B7, v6, l6, e6, rfl, rfl, rfl, ho7, hm7, HMO, HFS, HDF, HFL, hb7w⟩ := hcut
                obtain ⟨w7, hw7⟩ : ∃ x, x = wc := ⟨_, rfl⟩
                subst hw7
                obtain ⟨wd, hwd⟩ : ∃ b, b = wideO (toO o) := ⟨_, rfl⟩
                rw [← hwd]
                have HWD := Lib.hid hwd
                clear hwd
                obtain ⟨tt, htt⟩ : ∃ t, t = (wd && decide (c = 0)) := ⟨_, rfl⟩
                have HTT := Lib.hid htt
                clear htt
                have hcb0 : c = 0 ∨ c = 1 := by have h1 := HI.out.b; have h2 := HI.out.e; simp only at h1 h2; omega
                go_upto_region 60 with fail
                go_cut [248] from 244 to 247 (fun t9 wx => t9 = .bool tt ∧ w7 = wx)
                case first =>
                  cases wd
                  case false =>
                    obtain rfl : tt = false := by rw [HTT.out]; rfl
                    go_wp2_with fail
                    go_meet
                    case rel => exact ⟨rfl, rfl⟩
                  case true =>
                    rcases hcb0 with rfl | rfl
                    · obtain rfl : tt = true := by rw [HTT.out]; rfl
                      go_wp2_with fail
                      go_meet
                      case rel => exact ⟨rfl, rfl⟩
                    · obtain rfl : tt = false := by rw [HTT.out]; rfl
                      go_wp2_with fail
                      go_meet
                      case rel => exact ⟨rfl, rfl⟩
                case rest =>
                  obtain ⟨rfl, rfl⟩ := hcut
                  obtain ⟨c0, hc0⟩ : ∃ c0 : Int, c0 = if tt = true then 1 else c := ⟨_, rfl⟩
                  have HC0 := Lib.hid hc0
                  clear hc0
                  go_upto_if 248 with fail
                  go_cut [8] from 244 to 247 (fun c9 wx => c9 = .int .i64 c0 ∧ w7 = wx)
                  case first =>
                    cases tt
                    case false =>
                      obtain rfl : c0 = c := by rw [HC0.out]; rfl
                      go_wp2_with fail
                      go_meet
                      case rel => exact ⟨rfl, rfl⟩
                    case true =>
                      obtain rfl : c0 = 1 := by rw [HC0.out]; rfl
                      go_wp2_with fail
                      go_meet
                      case rel => exact ⟨rfl, rfl⟩
                  case rest =>
                    obtain ⟨rfl, rfl⟩ := hcut
                    have HD0 : Hid ((W, c0) = docWide (W, c) (wideO (toO o))) := Lib.hid (by
                      unfold docWide
                      rw [HC0.out, HTT.out, ← HWD.out]
                      cases wd
                      · simp
                      · rcases hcb0 with rfl | rfl <;> simp)
                    have hWl : W.length ≤ 40000 ∨ c0 ≠ 0 := by
                      by_cases h0 : e = 0
                      · left
                        have h1 := HI.out.w h0
                        have h2 := HI.out.len
                        have h3 := costS_le os i
                        simp only at h1 h2
                        rw [h1]; omega
                      · right
                        have h1 := HI.out.e
                        simp only at h1
                        rw [HC0.out]
                        split
                        · decide
                        · intro h9; exact h0 (h1.trans h9)
                    have hcb : c0 = 0 ∨ c0 = 1 := by
                      rw [HC0.out]; split
                      · exact .inr rfl
                      · exact hcb0
                    clear hcb0
                    go_wp2_with fail
                    go_loopg [7, 8, 22] (fs.length + 1) (fun g wv cv kv wx => ∃ (k : Nat) (W2 : List UInt8) (c2 : Int), wv = .string ⟨W2.toArray⟩ ∧ cv = .int .i64 c2 ∧ kv = .int .i64 (k : Int) ∧ k + g = fs.length + 1 ∧ k ≤ fs.length ∧ Hid ((W2, c2) = (fs.take k).foldl docStep (W, c0)) ∧ (c2 = 0 ∨ c2 = 1) ∧ (W2.length ≤ 40000 + 70000 * k ∨ c2 ≠ 0) ∧ Below w.heap.size w wx ∧ Below w7.heap.size w7 wx)
                    case atStart => exact ⟨0, W, c0, rfl, rfl, rfl, by omega, Nat.zero_le _, Lib.hid rfl, hcb, by rcases hWl with h | h; exact .inl (by omega); exact .inr h, hb7w, Below.refl _ _⟩
                    case round =>
                      obtain ⟨k, W2, c2, rfl, rfl, rfl, hkg, hks, HF, hc2, hW2, hbwx, hb7x⟩ := hrel
                      by_cases hkl : k < fs.length
                      · have q3 : (k : Int) < (fs.length : Int) := by omega
                        have q4 : (0 : Int) ≤ (k : Int) := by omega
                        have hkB : k < 40000 := by have := HFL.out; omega
                        by_cases hc0 : c2 = 0
                        · obtain ⟨gF, rfl, hgB, hgw, hcF⟩ := ho7.dcell hkl
                          have htk : (fs.take (k + 1)).foldl docStep (W, c0) = docStep (W2, c2) (fs[k]'hkl) := by rw [List.take_succ_eq_append_getElem hkl, List.foldl_append, ← HF.out]; rfl
                          obtain ⟨hdk, hdv, hdd⟩ := HDF.out _ (List.getElem_mem hkl)
                          obtain ⟨f, hf⟩ : ∃ f, f = fs[k]'hkl := ⟨_, rfl⟩
                          rw [← hf] at hcF htk hdk hdv hdd
                          clear hf
                          subst hc0
                          have d0 := (hb7x.cell (p := ⟨gF, k * 5, none⟩) hgw).trans (hcF 0 _ rfl)
                          have d1 := (hb7x.cell (p := ⟨gF, k * 5 + 1, none⟩) hgw).trans (hcF 1 _ rfl)
                          have d2 := (hb7x.cell (p := ⟨gF, k * 5 + 2, none⟩) hgw).trans (hcF 2 _ rfl)
                          have d3 := (hb7x.cell (p := ⟨gF, k * 5 + 3, none⟩) hgw).trans (hcF 3 _ rfl)
                          have d4 := (hb7x.cell (p := ⟨gF, k * 5 + 4, none⟩) hgw).trans (hcF 4 _ rfl)
                          obtain ⟨⟨T, c3⟩, hT⟩ : ∃ r, r = putR f.n f.k f.v f.d := ⟨_, rfl⟩
                          have hsm := putR_small (n := f.n) (k := f.k) (d := f.d) hdv
                          rw [← hT] at hsm
                          simp only at hsm
                          have hds : docStep (W2, 0) f = (W2 ++ T, c3) := by unfold docStep; rw [if_neg (by simp), ← hT]
                          rw [hds] at htk
                          have HTK := Lib.hid htk.symm
                          have HT := Lib.hid hT
                          have hW3 : W2.length ≤ 40000 + 70000 * k := by rcases hW2 with h | h; exact h; exact absurd rfl h
                          have hab := bytes_app W2 T
                          have hsc : ¬ 9223372036854775807 < W2.length + T.length := by have := HFL.out; omega
                          obtain ⟨W3, hW3e⟩ : ∃ x, x = W2 ++ T := ⟨_, rfl⟩
                          have hW3l : W3.length ≤ 40000 + 70000 * (k + 1) := by rw [hW3e, List.length_append]; omega
                          rw [← hW3e] at hab HTK
                          clear htk hds hT hcF hW2 hW3e hc2
                          as_aux_lemma =>
                            go_wp2_with fail
                            refine (rput_any f hdk wr hdv hdd T c3 HT).mono ?_
                            rintro e9 w9 ⟨rfl, hb9⟩
                            clear d0 d1 d2 d3 d4 q3
                            go_wp2_with fail
                            go_roundg (gk - 1)
                            case measure => omega
                            case rel => exact ⟨k + 1, W3, c3, rfl, rfl, by go_num, by omega, by omega, HTK, hsm.2, .inl hW3l, hbwx.trans (hb9.mono hbwx.size), hb7x.trans (hb9.mono hb7x.size)⟩
                        · have hcn : c2 = 1 := by omega
                          have HST : Hid ((W2, c2) = docOp (W, c) (toO o)) := Lib.hid (by
                            unfold docOp
                            rw [HFS.out, ← HD0.out, ← List.take_append_drop k fs, List.foldl_append, ← HF.out]
                            exact (docStep_stop (by simp only; omega) _).symm)
                          have hfin : (W2, c2) = docOp (W, c) (toO o) := HST.out
                          have HI3 : Inv (l6, e6) (W2, c2) (costS (os.take (i + 1))) := by
                            have h9 := inv_op HI.out (toO o) HOT.out.1 HOT.out.2.1 HOT.out.2.2.1 HOT.out.2.2.2
                            rw [HMO.out, ← hfin] at h9
                            refine h9.mono ?_
                            rw [HC.out]
                            simp [costO, costV, toO]
                          have hC6 : costS (os.take (i + 1)) ≤ 60000 := by omega
                          have hbR := inv_bytes HI3 hC6
                          have hcl := HI3.cnt
                          have hokM := HI3.ok
                          have HI4 := Lib.hid HI3
                          simp only at hbR hcl hokM
                          have hmx := hm7.kept hb7x
                          clear hfin HI3
                          subst hcn
                          simp only [show ¬ (1 : Int) = 0 by decide, if_false] at hbR
                          as_aux_lemma =>
                            go_wp2_with fail
                            refine (bytes_any B0 p v6 l6 e6 1 [] wr hmx hokM (by omega) (Lib.hid hbR.symm)).mono ?_
                            rintro e9 w9 ⟨rfl, hb9⟩
                            clear hbR
                            go_wp2_with fail
                            go_roundg (go9 - 1)
                            case measure => omega
                            case rel => exact ⟨i + 1, W2, 1, v6, l6, e6, rfl, rfl, by go_num, by omega, hmx.kept hb9, HI4, hbwx.trans (hb9.mono hbwx.size)⟩
                      · have q3 : ¬ (k : Int) < (fs.length : Int) := by omega
                        have HST : Hid ((W2, c2) = docOp (W, c) (toO o)) := Lib.hid (by
                          unfold docOp
                          rw [HFS.out, ← HD0.out, HF.out, List.take_of_length_le (by omega)])
                        clear hW2
                        have hfin : (W2, c2) = docOp (W, c) (toO o) := HST.out
                        have HI3 : Inv (l6, e6) (W2, c2) (costS (os.take (i + 1))) := by
                          have h9 := inv_op HI.out (toO o) HOT.out.1 HOT.out.2.1 HOT.out.2.2.1 HOT.out.2.2.2
                          rw [HMO.out, ← hfin] at h9
                          refine h9.mono ?_
                          rw [HC.out]
                          simp [costO, costV, toO]
                        have hC6 : costS (os.take (i + 1)) ≤ 60000 := by omega
                        have hbR := inv_bytes HI3 hC6
                        have hcl := HI3.cnt
                        have hokM := HI3.ok
                        have HI4 := Lib.hid HI3
                        simp only at hbR hcl hokM
                        have hmx := hm7.kept hb7x
                        clear hfin HI3
                        rcases hc2 with rfl | rfl
                        · simp only [if_pos] at hbR
                          as_aux_lemma =>
                            go_wp2_with fail
                            refine (bytes_any B0 p v6 l6 e6 0 W2 wr hmx hokM (by omega) (Lib.hid hbR.symm)).mono ?_
                            rintro e9 w9 ⟨rfl, hb9⟩
                            clear hbR
                            go_wp2_with fail
                            go_roundg (go9 - 1)
                            case measure => omega
                            case rel => exact ⟨i + 1, W2, 0, v6, l6, e6, rfl, rfl, by go_num, by omega, hmx.kept hb9, HI4, hbwx.trans (hb9.mono hbwx.size)⟩
                        · simp only [show ¬ (1 : Int) = 0 by decide, if_false] at hbR
                          as_aux_lemma =>
                            go_wp2_with fail
                            refine (bytes_any B0 p v6 l6 e6 1 [] wr hmx hokM (by omega) (Lib.hid hbR.symm)).mono ?_
                            rintro e9 w9 ⟨rfl, hb9⟩
                            clear hbR
                            go_wp2_with fail
                            go_roundg (go9 - 1)
                            case measure => omega
                            case rel => exact ⟨i + 1, W2, 1, v6, l6, e6, rfl, rfl, by go_num, by omega, hmx.kept hb9, HI4, hbwx.trans (hb9.mono hbwx.size)⟩
          · have q1 : ¬ (i : Int) < (os.length : Int) := by omega
            go_wp2_with fail
            go_ret
            exact ⟨rfl, hbx⟩
end Go.Proofs.Ytjcldnkgidfifaa
