/-
  RatIterates: the walk.
-/
import Derived.Test.YtoadhoojdgeikaaDoorIterQ
import Derived.Test.YtoadhoojdgeikaaDoorBookM
import Derived.Test.YtoadhoojdgeikaaDoorIterL
import Derived.Test.YtoadhoojdgeikaaDoorRatL
import Derived.Test.YtoadhoojdgeikaaDoorRefS
namespace Go.Proofs.YtoadhoojdgeikaaDoor
open Go.RowKit Go.Shelf
set_option linter.unusedVariables false
set_option linter.unusedSimpArgs false
attribute [local go_sem] Oper.semAt_some field_nat

theorem eq_nilnilq (w : World) : (binOp .eql 44 .nilFunc .nilFunc).run Tryd.prog w = .ok (.bool true) w := by kernel_rfl
theorem eq_each2 (w : World) (b c : Nat) : (binOp .eql 44 (.func (.func 35) #[] #[.pointer (some ⟨b, 0, none⟩), .pointer (some ⟨c, 0, none⟩)]) .nilFunc).run Tryd.prog w = .ok (.bool false) w := by kernel_rfl
theorem enters_each2 : ∀ args w, (callFunc 35 args).run Tryd.prog w = .ok (.enter 35 args) w := enters_of Tryd.func35 (by kernel_rfl) rfl
theorem qsumL_snoc (l : List Rat) (x : Rat) : qsumL (l ++ [x]) = qsumL l + x := by unfold qsumL; rw [List.foldl_append]; rfl
theorem pkL_found (way : Int) (l : List Rat) : (pkL way l).2 = !l.isEmpty := by
  have key : ∀ (l : List Rat) (s : Rat × Bool), (l.foldl (pkStep way) s).2 = (s.2 || !l.isEmpty) := by
    intro l
    induction l with
    | nil => intro s; simp
    | cons a l ih =>
      intro s
      rw [List.foldl_cons, ih]
      unfold pkStep
      by_cases h : (!s.2 || qcmp a s.1 == way) = true
      · rw [if_pos h]; simp
      · rw [if_neg h]
        have h2 : s.2 = true := by
          cases h3 : s.2
          · rw [h3] at h; exact (h rfl).elim
          · rfl
        simp [h2]
  have := key l (0, false)
  simpa [pkL] using this
theorem qsumL_qb {l : List Rat} (h : ∀ q ∈ l, QB q 700) : QB (qsumL l) (2 + 703 * l.length) := by
  have key : ∀ (l : List Rat) (s : Rat) (k : Nat), QB s k → (∀ q ∈ l, QB q 700) → QB (l.foldl (· + ·) s) (k + 703 * l.length) := by
    intro l
    induction l with
    | nil => intro s k h _; simpa using h
    | cons a l ih =>
      intro s k hs ha
      have h1 := ih (s + a) (k + 703) ((hs.add (ha a (by simp))).mono (by omega)) (fun q hq => ha q (List.mem_cons_of_mem _ hq))
      rw [List.foldl_cons, List.length_cons]
      exact h1.mono (by rw [Nat.mul_add]; omega)
  exact key l 0 2 ((QB.zero 1 (by decide)).mono (by decide)) h

set_option maxRecDepth 100000 in
theorem qsum_nil (w : World) : Calls Tryd.prog 11 #[.nilFunc] w fun e w' => ∃ r, e = .returned r ∧ QIs w' r 0 ∧ Below w.heap.size w w' := by
  have hn := fun W => eq_nilnilq W
  go_enter Tryd.func11, Tryd.ntmps11
  go_wp2
  exact ret_rat (b := w.heap.size) (x := .bool false) (y := .slice none 0 0) (z := .slice none 0 0) rfl rfl ⟨by go_simp, by go_simp, by go_simp, by go_simp, by go_simp, by go_simp⟩ rfl ⟨_, rfl, QIs.zero _, ((Below.refl _ w).alloc (Nat.le_refl _) _).alloc (by simp) _⟩

set_option maxRecDepth 100000 in
theorem ratIterates_early (sv : Value) (ls : List (List UInt8)) (w : World) (hs : Strs w sv ls) (hm : ∀ l ∈ ls, l.length ≤ maxLen) (h : ¬ ls.length ≤ 15 ∨ ¬ total ls ≤ 600) :
    Calls Tryd.prog 3 #[sv] w fun e w' => e = .returned (.bool true) ∧ Below w.heap.size w w' := by
  have hsh : Calls Tryd.prog 4 #[.int .i64 15, .int .i64 600, sv] w fun e w' => e = .returned (.bool false) ∧ Below w.heap.size w w' := by
    have := short_any 15 600 sv ls w hs (by omega) (by omega) hm
    rwa [shortB_no h] at this
  have HSH := Lib.hid hsh
  clear hsh h
  go_enter Tryd.func3, Tryd.ntmps3
  go_wp2_with fail
  refine HSH.out.mono ?_
  rintro e w1 ⟨rfl, hb1⟩
  go_wp2_with fail
  refine (alive2_any _).mono ?_
  rintro e w2 ⟨rfl, hb2⟩
  go_wp2
  go_ret
  exact ⟨rfl, hb1.trans (hb2.mono hb1.size)⟩

theorem qtz9 : qtext (0 : Rat) = [48] := by decide +kernel
theorem box_int {W : World} {pn : Nat} {n : Int} (hi : IntAt W pn) (hc : W.cell? ⟨pn, 0, none⟩ = some (.int .i64 n)) : Box W pn (.int .i64 n) := by
  obtain ⟨m, t, h⟩ := hi
  exact ⟨hc, by unfold World.frozen?; simp only [h]; rfl, (Array.getElem?_eq_some_iff.1 h).1⟩
theorem below_x {pn B : Nat} {w W W' : World} (h : Below B w W) (hx : BelowX pn W.heap.size W W') (hp : B ≤ pn) (hB : B ≤ W.heap.size) : Below B w W' :=
  ⟨hx.os.trans h.os, hx.tape.trans h.tape, hx.output.trans h.output, Nat.le_trans h.size hx.size, fun k hk => (hx.block k (Nat.lt_of_lt_of_le hk hB) (by omega)).trans (h.block k hk)⟩
structure CellAt (w : World) (b off : Nat) (v : Value) : Prop where
  cell : w.cell? ⟨b, off, none⟩ = some v
theorem CellAt.kept {w w' : World} {b off : Nat} {v : Value} (h : CellAt w b off v) (hb : Below w.heap.size w w') : CellAt w' b off v := ⟨(hb.cell (p := ⟨b, off, none⟩) (World.block_lt_of_cell? w ⟨b, off, none⟩ h.cell)).trans h.cell⟩
theorem CellAt.drew {w : World} {b off : Nat} {v : Value} (h : CellAt w b off v) : CellAt w.drew b off v := ⟨h.cell⟩
theorem EQ : ElemK Tryd.prog 25 35 (.agg #[.bool false, .slice none 0 0, .slice none 0 0]) 3 56 := elemK_of Tryd.underlying25 (by kernel_rfl) (by kernel_rfl) (by decide)
theorem notIS_b (b : Bool) : NotIS (.bool b) := ⟨fun k n h => (by cases h), fun t h => (by cases h)⟩
theorem notIS_s (o : Option Addr) (l c : Nat) : NotIS (.slice o l c) := ⟨fun k n h => (by cases h), fun t h => (by cases h)⟩
theorem EQ_hz : ∀ c ∈ (Value.agg #[.bool false, .slice none 0 0, .slice none 0 0]).cells, NotIS c := by
  intro c hc
  have h : c = .bool false ∨ c = .slice none 0 0 := by simpa [Value.cells] using hc
  rcases h with rfl | rfl
  · exact notIS_b _
  · exact notIS_s _ _ _
theorem three_hu (b : Bool) (o1 : Option Addr) (l1 c1 : Nat) (o2 : Option Addr) (l2 c2 : Nat) : ∀ u ∈ (#[Value.bool b, .slice o1 l1 c1, .slice o2 l2 c2] : Array Value).toList, NotIS u := by
  intro u hu
  simp at hu
  rcases hu with rfl | rfl | rfl
  · exact notIS_b _
  · exact notIS_s _ _ _
  · exact notIS_s _ _ _
theorem three_one (b : Bool) (o1 : Option Addr) (l1 c1 : Nat) (o2 : Option Addr) (l2 c2 : Nat) : ∀ u ∈ (#[Value.bool b, .slice o1 l1 c1, .slice o2 l2 c2] : Array Value).toList, u.oneCell' = true := by
  intro u hu
  simp at hu
  rcases hu with rfl | rfl | rfl <;> rfl
theorem Box3.sameBlock {w w' : World} {b : Nat} {x y z : Value} (h : Box3 w b x y z) (hb : w'.heap[b]? = w.heap[b]?) (hs : w.heap.size ≤ w'.heap.size) : Box3 w' b x y z :=
  ⟨(World.cell?_of_block (a := ⟨b, 0, none⟩) hb).trans h.c0, (World.cell?_of_block (a := ⟨b, 1, none⟩) hb).trans h.c1, (World.cell?_of_block (a := ⟨b, 2, none⟩) hb).trans h.c2, (World.frozen?_of_block (a := ⟨b, 0, none⟩) hb).trans h.f0, (World.frozen?_of_block (a := ⟨b, 1, none⟩) hb).trans h.f1, (World.frozen?_of_block (a := ⟨b, 2, none⟩) hb).trans h.f2⟩
theorem qcmp_lt0 (a c : Rat) : (qcmp a c == -1) = decide (qcmp a c < 0) := by
  unfold qcmp
  split
  · rfl
  · split <;> rfl
theorem qcmp_gt0 (a c : Rat) : (qcmp a c == 1) = decide (qcmp a c > 0) := by
  unfold qcmp
  split
  · rfl
  · split <;> rfl
theorem pkL_first {way : Int} {pre : List Rat} {q : Rat} (h : pre.length = 0) : (pkL way (pre ++ [q])).1 = q := by
  rw [List.eq_nil_of_length_eq_zero h]; simp [pkL, pkStep]
theorem pkL_take {way : Int} {pre : List Rat} {q : Rat} (h : (qcmp q (pkL way pre).1 == way) = true) : (pkL way (pre ++ [q])).1 = q := by
  rw [pkL_snoc]; unfold pkStep; rw [h, Bool.or_true, if_pos rfl]
theorem pkL_leave {way : Int} {pre : List Rat} {q : Rat} (h0 : ¬ pre.length = 0) (h : (qcmp q (pkL way pre).1 == way) = false) : (pkL way (pre ++ [q])).1 = (pkL way pre).1 := by
  rw [pkL_snoc]; unfold pkStep
  have h2 : (pkL way pre).2 = true := by rw [pkL_found]; cases pre <;> simp at h0 ⊢
  rw [h, h2]; simp
theorem qval_qb {l : List UInt8} (h : l.length ≤ 600) : QB (qval l) 700 := (QB.val (l := l) (K := 601) (by omega)).mono (by decide)
theorem qvals_qb {ls : List (List UInt8)} (h : ∀ l ∈ ls, l.length ≤ 600) : ∀ q ∈ ls.map qval, QB q 700 := fun q hq => by
  obtain ⟨l, hl, rfl⟩ := List.mem_map.1 hq
  exact qval_qb (h l hl)
theorem vals_take {ls : List (List UInt8)} {i : Nat} (h : i < ls.length) : (ls.take (i + 1)).map qval = (ls.take i).map qval ++ [qval (ls[i]?.getD [])] := by
  rw [List.take_add_one, List.getElem?_eq_getElem h, List.map_append]; rfl

set_option maxRecDepth 100000 in
set_option maxHeartbeats 1000000 in
/-- RatIterates. -/
theorem ratIterates_main (sv : Value) (ls : List (List UInt8)) (w : World) (hst : Strs w sv ls) (hm : ∀ l ∈ ls, l.length ≤ maxLen) (h1 : ls.length ≤ 15) (h2 : total ls ≤ 600) :
    Calls Tryd.prog 3 #[sv] w fun e w' => e = .returned (.bool true) ∧ Below w.heap.size w w' := by
  have hsh : Calls Tryd.prog 4 #[.int .i64 15, .int .i64 600, sv] w fun e w' => e = .returned (.bool true) ∧ Below w.heap.size w w' := by
    have := short_any 15 600 sv ls w hst (by omega) (by omega) hm
    rwa [shortB_yes h1 h2] at this
  have HSH := Lib.hid hsh
  clear hsh
  have HLL : Hid (∀ l ∈ ls, l.length ≤ 600) := Lib.hid (fun l hl => Nat.le_trans (total_mem hl) h2)
  obtain ⟨so, sc, rfl, hs1, hs2, _⟩ := id hst
  have Q0 := QB.zero 1 (by decide)
  go_enter Tryd.func3, Tryd.ntmps3
  go_wp2_with fail
  refine (HSH.out).mono ?_
  rintro e w1 ⟨rfl, hb⟩
  replace hst := hst.below hb
  have hbf := hb
  clear hb
  go_wp2_with fail
  refine (alive2_any _).mono ?_
  rintro e w2 ⟨rfl, hb⟩
  replace hst := hst.below hb
  replace hbf := hbf.trans (hb.mono hbf.size)
  clear hb
  go_wp2_with fail
  refine (rint_any 0 _ (by omega) (by omega)).mono ?_
  rintro e w3 hq9
  obtain ⟨sB, sxO, sxL, sxC, syO, syL, syC, rfl, hS, hsx, hsy, hs, hb⟩ := hq9.out
  have HsS := Lib.hid hS; clear hS
  replace hst := hst.below hb
  replace hbf := hbf.trans (hb.mono hbf.size)
  clear hb
  obtain ⟨w4, hwE⟩ : ∃ W, W = (w3.alloc (.cells #[.bool sB, .slice sxO sxL sxC, .slice syO syL syC] 29)) := ⟨_, rfl⟩
  have hb : Below w3.heap.size w3 w4 := by rw [hwE]; exact ((Below.refl _ w3).alloc (Nat.le_refl _) _)
  obtain ⟨ps, hps⟩ : ∃ p, p = w3.heap.size := ⟨_, rfl⟩
  have hbs : Box3 w4 ps (Value.bool sB) (Value.slice sxO sxL sxC) (Value.slice syO syL syC) := by rw [hwE, hps]; exact ⟨by go_simp, by go_simp, by go_simp, by go_simp, by go_simp, by go_simp⟩
  have HP : Hid (w.heap.size ≤ ps) := Lib.hid (by have h9 := hbf.size; omega)
  have HW := Lib.hid hwE; clear hwE
  go_upto_region 5 with fail
  rw [← HW.out, ← hps]
  clear hps HW
  replace hst := hst.below hb
  replace hs := hs.below hb
  replace hbf := hbf.trans (hb.mono hbf.size)
  clear hb
  obtain ⟨w5, hwE⟩ : ∃ W, W = ((w4.alloc (.cells #[.bool false, .slice none 0 0, .slice none 0 0] 29)).alloc (.cells #[.bool false, .slice none 0 0, .slice none 0 0] 29)) := ⟨_, rfl⟩
  have hb : Below w4.heap.size w4 w5 := by rw [hwE]; exact (((Below.refl _ w4).alloc (Nat.le_refl _) _).alloc (by simp <;> omega) _)
  obtain ⟨pl, hpl⟩ : ∃ p, p = w4.heap.size := ⟨_, rfl⟩
  have hbl : Box3 w5 pl (Value.bool false) (Value.slice none 0 0) (Value.slice none 0 0) := by rw [hwE, hpl]; exact ⟨by go_simp, by go_simp, by go_simp, by go_simp, by go_simp, by go_simp⟩
  obtain ⟨pm, hpm⟩ : ∃ p, p = w4.heap.size + 1 := ⟨_, rfl⟩
  have hbm : Box3 w5 pm (Value.bool false) (Value.slice none 0 0) (Value.slice none 0 0) := by rw [hwE, hpm]; exact ⟨by go_simp, by go_simp, by go_simp, by go_simp, by go_simp, by go_simp⟩
  replace HP : Hid (w.heap.size ≤ ps ∧ ps < pl ∧ pl < pm) := Lib.hid (by have h1 := HP.out; have h9 := hbf.size; have h2s := hbs.lt; omega)
  have HW := Lib.hid hwE; clear hwE
  go_upto_region 6 with fail
  rw [← HW.out, ← hpm, ← hpl]
  clear hpl hpm HW
  replace hbs := hbs.kept hb
  replace hst := hst.below hb
  replace hs := hs.below hb
  replace hbf := hbf.trans (hb.mono hbf.size)
  clear hb
  obtain ⟨B0, hB0⟩ : ∃ B, B = w5.heap.size := ⟨_, rfl⟩
  have HB0 : Hid (ps < B0 ∧ pl < B0 ∧ pm < B0 ∧ w.heap.size ≤ B0) := Lib.hid (by have := hbs.lt; have := hbl.lt; have := hbm.lt; have := hbf.size; omega)
  (try go_wp2_with fail)
  (try go_step3)
  (try go_wp2_with fail)
  go_loopg [3, 7] ls.length (fun gg xv iv wr => ∃ (i : Nat) (xo : Option Addr) (xl xc : Nat) (xs : List Value) (sB : Bool) (sxO : Option Addr) (sxL sxC : Nat) (syO : Option Addr) (syL syC : Nat) (lB : Bool) (lxO : Option Addr) (lxL lxC : Nat) (lyO : Option Addr) (lyL lyC : Nat) (mB : Bool) (mxO : Option Addr) (mxL mxC : Nat) (myO : Option Addr) (myL myC : Nat), i + gg = ls.length ∧ iv = .int .i64 (i : Int) ∧ xv = .slice xo xl xc ∧ Box3 wr ps (Value.bool sB) (Value.slice sxO sxL sxC) (Value.slice syO syL syC) ∧ Box3 wr pl (Value.bool lB) (Value.slice lxO lxL lxC) (Value.slice lyO lyL lyC) ∧ Box3 wr pm (Value.bool mB) (Value.slice mxO mxL mxC) (Value.slice myO myL myC) ∧ RQIs wr (.agg #[.bool sB, .slice sxO sxL sxC, .slice syO syL syC]) (qsumL ((ls.take i).map qval)) ∧ (i = 0 ∨ RQIs wr (.agg #[.bool lB, .slice lxO lxL lxC, .slice lyO lyL lyC]) (pkL (-1) ((ls.take i).map qval)).1) ∧ (i = 0 ∨ RQIs wr (.agg #[.bool mB, .slice mxO mxL mxC, .slice myO myL myC]) (pkL 1 ((ls.take i).map qval)).1) ∧ QRow B0 wr (.slice xo xl xc) ((ls.take i).map qval) xs ∧ Strs wr (.slice so ls.length sc) ls ∧ Below w.heap.size w wr ∧ B0 ≤ wr.heap.size)
  case atStart => exact ⟨0, none, 0, 0, [], _, _, _, _, _, _, _, _, _, _, _, _, _, _, _, _, _, _, _, _, _, by omega, rfl, rfl, hbs, hbl, hbm, by simpa [qsumL] using hs, .inl rfl, .inl rfl, QRow.nil _ _, hst, hbf, by omega⟩
  clear hbs hbl hbm hs hst hbf hB0 hsx hsy
  case round =>
    obtain ⟨i, xo, xl, xc, xs, sB, sxO, sxL, sxC, syO, syL, syC, lB, lxO, lxL, lxC, lyO, lyL, lyC, mB, mxO, mxL, mxC, myO, myL, myC, hi, rfl, rfl, hbs, hbl, hbm, hs, hl, hm9, hrow, hst, hbf, hB0⟩ := hrel
    by_cases hil : i < ls.length
    case pos =>
      obtain ⟨_, _, e1, _, _, hsc⟩ := id hst
      cases e1
      rcases hsc with h | ⟨gb, off, rfl, hgb, hcb⟩
      · rw [h] at hil; simp at hil
      have hbx := hcb i hil
      have hsl : (ls[i]?.getD []).length ≤ 600 := by rw [List.getElem?_eq_getElem hil]; exact HLL.out _ (List.getElem_mem hil)
      have HTK := Lib.hid (vals_take hil)
      obtain ⟨T9, hT9⟩ : ∃ t, t = ls[i]?.getD [] := ⟨_, rfl⟩
      rw [← hT9] at hbx hsl HTK
      clear hT9 hcb
      replace hbx : CellAt wr gb (off + i) (.string ⟨T9.toArray⟩) := ⟨hbx⟩
      have hqv := qval_qb hsl
      have hqs : ∀ q ∈ (ls.take i).map qval, QB q 700 := qvals_qb (fun l hl => HLL.out l (List.mem_of_mem_take hl))
      have hlp : ((ls.take i).map qval).length = i := by rw [List.length_map, List.length_take]; omega
      obtain ⟨q, hq⟩ : ∃ q, q = qval T9 := ⟨_, rfl⟩
      obtain ⟨c9, hc9⟩ : ∃ c, c = qcode T9 := ⟨_, rfl⟩
      rw [← hq] at hqv HTK
      have HQE := Lib.hid hq
      have HQC := Lib.hid hc9
      clear hq hc9
      generalize (ls.take i).map qval = pre at hs hl hm9 hrow HTK hqs hlp
      have q1 : (0 : Int) ≤ (i : Int) := by omega
      have q2 : (i : Int) < (ls.length : Int) := by omega
      have hcc : (c9 != c9) = false := by simp
      have ex := hbx.cell
      go_wp2_with fail
      refine (qparse_main T9 _ q c9 HQE HQC (by omega)).mono ?_
      rintro e w6 hq9
      obtain ⟨aB, axO, axL, axC, ayO, ayL, ayC, rfl, hS, hax, hay, ha, hb⟩ := hq9.out
      have HaS := Lib.hid hS; clear hS
      clear ex
      replace hbs := hbs.kept hb
      replace hbl := hbl.kept hb
      replace hbm := hbm.kept hb
      replace hbx := hbx.kept hb
      replace hs := hs.below hb
      replace hst := hst.below hb
      replace hrow := hrow.below hb
      replace hB0 := Nat.le_trans hB0 (hb).size
      replace hl := hl.imp id (fun h => h.below hb)
      replace hm9 := hm9.imp id (fun h => h.below hb)
      replace hbf := hbf.trans (hb.mono hbf.size)
      clear hb
      obtain ⟨w7, hwE⟩ : ∃ W, W = (w6.alloc (.cells #[.bool aB, .slice axO axL axC, .slice ayO ayL ayC] 35)) := ⟨_, rfl⟩
      have hb : Below w6.heap.size w6 w7 := by rw [hwE]; exact ((Below.refl _ w6).alloc (Nat.le_refl _) _)
      obtain ⟨pa, hpa⟩ : ∃ p, p = w6.heap.size := ⟨_, rfl⟩
      have hba : Box3 w7 pa (Value.bool aB) (Value.slice axO axL axC) (Value.slice ayO ayL ayC) := by rw [hwE, hpa]; exact ⟨by go_simp, by go_simp, by go_simp, by go_simp, by go_simp, by go_simp⟩
      replace HP : Hid (w.heap.size ≤ ps ∧ ps < pl ∧ pl < pm ∧ pm < pa) := Lib.hid (by have h1 := HP.out; have h9 := hbf.size; have h2m := hbm.lt; omega)
      have HW := Lib.hid hwE; clear hwE
      go_upto_region 10 with fail
      rw [← HW.out, ← hpa]
      clear hpa HW
      replace hbs := hbs.kept hb
      replace hbl := hbl.kept hb
      replace hbm := hbm.kept hb
      replace hbx := hbx.kept hb
      replace hs := hs.below hb
      replace hst := hst.below hb
      replace hax := hax.below hb
      replace hay := hay.below hb
      replace ha := ha.below hb
      replace hrow := hrow.below hb
      replace hB0 := Nat.le_trans hB0 (hb).size
      replace hl := hl.imp id (fun h => h.below hb)
      replace hm9 := hm9.imp id (fun h => h.below hb)
      replace hbf := hbf.trans (hb.mono hbf.size)
      clear hb
      have ex := hbx.cell
      go_wp2_with fail
      refine (rqparse_main T9 _ q c9 HQE HQC (by omega)).mono ?_
      rintro e w8 hq9
      obtain ⟨dB, dxO, dxL, dxC, dyO, dyL, dyC, rfl, hS, hdx, hdy, hd, hb⟩ := hq9.out
      have HdS := Lib.hid hS; clear hS
      clear ex
      replace hbs := hbs.kept hb
      replace hbl := hbl.kept hb
      replace hbm := hbm.kept hb
      replace hbx := hbx.kept hb
      replace hba := hba.kept hb
      replace hs := hs.below hb
      replace hst := hst.below hb
      replace hax := hax.below hb
      replace hay := hay.below hb
      replace ha := ha.below hb
      replace hrow := hrow.below hb
      replace hB0 := Nat.le_trans hB0 (hb).size
      replace hl := hl.imp id (fun h => h.below hb)
      replace hm9 := hm9.imp id (fun h => h.below hb)
      replace hbf := hbf.trans (hb.mono hbf.size)
      clear hb
      obtain ⟨w9, hwE⟩ : ∃ W, W = (w8.alloc (.cells #[.bool dB, .slice dxO dxL dxC, .slice dyO dyL dyC] 29)) := ⟨_, rfl⟩
      have hb : Below w8.heap.size w8 w9 := by rw [hwE]; exact ((Below.refl _ w8).alloc (Nat.le_refl _) _)
      obtain ⟨pd, hpd⟩ : ∃ p, p = w8.heap.size := ⟨_, rfl⟩
      have hbd : Box3 w9 pd (Value.bool dB) (Value.slice dxO dxL dxC) (Value.slice dyO dyL dyC) := by rw [hwE, hpd]; exact ⟨by go_simp, by go_simp, by go_simp, by go_simp, by go_simp, by go_simp⟩
      have HGD : Hid (∀ g, (Value.slice xo xl xc).ownBlock = some g → g < pd) := Lib.hid (by rw [hpd]; exact fun g hg => (World.ownsRow.lt hrow.own g hg).2)
      replace HP : Hid (w.heap.size ≤ ps ∧ ps < pl ∧ pl < pm ∧ pm < pa ∧ pa < pd) := Lib.hid (by have h1 := HP.out; have h9 := hbf.size; have h2a := hba.lt; omega)
      have HW := Lib.hid hwE; clear hwE
      go_upto_region 13 with fail
      rw [← HW.out, ← hpd]
      clear hpd HW
      replace hbs := hbs.kept hb
      replace hbl := hbl.kept hb
      replace hbm := hbm.kept hb
      replace hbx := hbx.kept hb
      replace hba := hba.kept hb
      replace hs := hs.below hb
      replace hst := hst.below hb
      replace hax := hax.below hb
      replace hay := hay.below hb
      replace ha := ha.below hb
      replace hdx := hdx.below hb
      replace hdy := hdy.below hb
      replace hd := hd.below hb
      replace hrow := hrow.below hb
      replace hB0 := Nat.le_trans hB0 (hb).size
      replace hl := hl.imp id (fun h => h.below hb)
      replace hm9 := hm9.imp id (fun h => h.below hb)
      replace hbf := hbf.trans (hb.mono hbf.size)
      clear hb
      have ea0 := hba.c0
      have ea1 := hba.c1
      have ea2 := hba.c2
      go_upto_region 14 with (at_builtin; refine append1KAt EQ hrow.own hrow.all (three_hu _ _ _ _ _ _ _) EQ_hz rfl rfl rfl rfl rfl (three_one _ _ _ _ _ _ _) (by rw [hlp]; omega) (by rw [hlp]; unfold maxLen; omega) hB0 ?_; intro v9 w10 ho9 hb9 hg9 hw9 hall9)
      clear ea0 ea1 ea2
      have hkk := keepIS_grown hg9 hrow.all
      have hsz9 := hg9.size
      replace hbs := hbs.below hb9 (by have := HB0.out; omega)
      replace hbl := hbl.below hb9 (by have := HB0.out; omega)
      replace hbm := hbm.below hb9 (by have := HB0.out; omega)
      replace hbd := hbd.sameBlock (hg9.block pd hbd.lt (fun e => Nat.lt_irrefl _ (HGD.out pd e.symm))) hsz9
      replace hs := hs.keepI hkk.1
      replace hd := hd.keepI hkk.1
      replace ha := ha.keepI hkk.1
      replace hl := hl.imp id (fun h => h.keepI hkk.1)
      replace hm9 := hm9.imp id (fun h => h.keepI hkk.1)
      replace hst := hst.keepS hsz9 hkk.2
      replace hrow := hrow.snoc ho9 (fun v n h => h.keepI hkk.1) ha hall9
      replace hbf := hbf.trans (hb9.mono HB0.out.2.2.2)
      replace hB0 := Nat.le_trans hB0 hsz9
      obtain ⟨vO, vL, vC, rfl⟩ : ∃ o l c, v9 = .slice o l c := by
        rcases ho9.shape with ⟨e, _⟩ | ⟨g, cap, e, _⟩ <;> exact ⟨_, _, _, e⟩
      clear hg9 hw9 hall9 ho9 hb9 hkk HGD ha hax hay hdx hdy hba hbx hsz9
      have HQS : QB (qsumL pre) 20000 := (qsumL_qb hqs).mono (by rw [hlp]; omega)
      have es0 := hbs.c0
      have es1 := hbs.c1
      have es2 := hbs.c2
      have ed0 := hbd.c0
      have ed1 := hbd.c1
      have ed2 := hbd.c2
      go_wp2_with fail
      refine (rqadd_any _ _ (qsumL pre) q 20000 700 _ hs hd HQS hqv (by decide)).mono ?_
      rintro e w11 hq9
      obtain ⟨gB, gxO, gxL, gxC, gyO, gyL, gyC, rfl, hS, hgx, hgy, hg, hb⟩ := hq9.out
      have HgS := Lib.hid hS; clear hS
      clear es0 es1 es2 ed0 ed1 ed2
      replace hbs := hbs.kept hb
      replace hbl := hbl.kept hb
      replace hbm := hbm.kept hb
      replace hbd := hbd.kept hb
      replace hs := hs.below hb
      replace hst := hst.below hb
      replace hd := hd.below hb
      replace hrow := hrow.below hb
      replace hB0 := Nat.le_trans hB0 (hb).size
      replace hl := hl.imp id (fun h => h.below hb)
      replace hm9 := hm9.imp id (fun h => h.below hb)
      replace hbf := hbf.trans (hb.mono hbf.size)
      clear hb
      have es0 := hbs.c0
      have fs0 := hbs.f0
      have es1 := hbs.c1
      have fs1 := hbs.f1
      have es2 := hbs.c2
      have fs2 := hbs.f2
      go_upto_region 15 with fail
      clear es0 fs0 es1 fs1 es2 fs2
      obtain ⟨w12, hwE⟩ : ∃ W, W = ((w11.setCell ⟨ps, 0, none⟩ (Value.bool gB)).setCell ⟨ps, 1, none⟩ (Value.slice gxO gxL gxC)).setCell ⟨ps, 2, none⟩ (Value.slice gyO gyL gyC) := ⟨_, rfl⟩
      rw [← hwE]
      replace hs := hs.set3 (u0 := (Value.bool gB)) (u1 := (Value.slice gxO gxL gxC)) (u2 := (Value.slice gyO gyL gyC)) hbs; rw [← hwE] at hs
      replace hst := hst.set3 (u0 := (Value.bool gB)) (u1 := (Value.slice gxO gxL gxC)) (u2 := (Value.slice gyO gyL gyC)) hbs; rw [← hwE] at hst
      replace hd := hd.set3 (u0 := (Value.bool gB)) (u1 := (Value.slice gxO gxL gxC)) (u2 := (Value.slice gyO gyL gyC)) hbs; rw [← hwE] at hd
      replace hgx := hgx.set3 (u0 := (Value.bool gB)) (u1 := (Value.slice gxO gxL gxC)) (u2 := (Value.slice gyO gyL gyC)) hbs; rw [← hwE] at hgx
      replace hgy := hgy.set3 (u0 := (Value.bool gB)) (u1 := (Value.slice gxO gxL gxC)) (u2 := (Value.slice gyO gyL gyC)) hbs; rw [← hwE] at hgy
      replace hg := hg.set3 (u0 := (Value.bool gB)) (u1 := (Value.slice gxO gxL gxC)) (u2 := (Value.slice gyO gyL gyC)) hbs; rw [← hwE] at hg
      replace hl := hl.imp id (fun h => h.set3 (u0 := (Value.bool gB)) (u1 := (Value.slice gxO gxL gxC)) (u2 := (Value.slice gyO gyL gyC)) hbs); rw [← hwE] at hl
      replace hm9 := hm9.imp id (fun h => h.set3 (u0 := (Value.bool gB)) (u1 := (Value.slice gxO gxL gxC)) (u2 := (Value.slice gyO gyL gyC)) hbs); rw [← hwE] at hm9
      replace hrow := hrow.set3 (u0 := (Value.bool gB)) (u1 := (Value.slice gxO gxL gxC)) (u2 := (Value.slice gyO gyL gyC)) hbs (by have := HB0.out; omega); rw [← hwE] at hrow
      replace hB0 : B0 ≤ w12.heap.size := by rw [hwE]; simpa [World.setCell] using hB0
      replace hbl := hbl.set3o (u0 := (Value.bool gB)) (u1 := (Value.slice gxO gxL gxC)) (u2 := (Value.slice gyO gyL gyC)) (show pl ≠ ps by have := HP.out; omega); rw [← hwE] at hbl
      replace hbm := hbm.set3o (u0 := (Value.bool gB)) (u1 := (Value.slice gxO gxL gxC)) (u2 := (Value.slice gyO gyL gyC)) (show pm ≠ ps by have := HP.out; omega); rw [← hwE] at hbm
      replace hbd := hbd.set3o (u0 := (Value.bool gB)) (u1 := (Value.slice gxO gxL gxC)) (u2 := (Value.slice gyO gyL gyC)) (show pd ≠ ps by have := HP.out; omega); rw [← hwE] at hbd
      replace hbf := below_set3 (u0 := (Value.bool gB)) (u1 := (Value.slice gxO gxL gxC)) (u2 := (Value.slice gyO gyL gyC)) hbf (show w.heap.size ≤ ps by have := HP.out; omega); rw [← hwE] at hbf
      replace hbs := hbs.set3 (u0 := (Value.bool gB)) (u1 := (Value.slice gxO gxL gxC)) (u2 := (Value.slice gyO gyL gyC)); rw [← hwE] at hbs; clear hwE
      rw [← qsumL_snoc] at hg
      clear hs
      by_cases hi0 : i = 0
      case pos =>
        have hz0 : ((i : Int) == 0) = true := by simp [hi0]
        have hpz : pre.length = 0 := by omega
        have ed0 := hbd.c0
        have ed1 := hbd.c1
        have ed2 := hbd.c2
        have el0 := hbl.c0
        have fl0 := hbl.f0
        have el1 := hbl.c1
        have fl1 := hbl.f1
        have el2 := hbl.c2
        have fl2 := hbl.f2
        go_upto_region 17 with fail
        clear ed0 ed1 ed2 el0 fl0 el1 fl1 el2 fl2
        obtain ⟨w13, hwE⟩ : ∃ W, W = ((w12.setCell ⟨pl, 0, none⟩ (Value.bool dB)).setCell ⟨pl, 1, none⟩ (Value.slice dxO dxL dxC)).setCell ⟨pl, 2, none⟩ (Value.slice dyO dyL dyC) := ⟨_, rfl⟩
        rw [← hwE]
        replace hg := hg.set3 (u0 := (Value.bool dB)) (u1 := (Value.slice dxO dxL dxC)) (u2 := (Value.slice dyO dyL dyC)) hbl; rw [← hwE] at hg
        replace hst := hst.set3 (u0 := (Value.bool dB)) (u1 := (Value.slice dxO dxL dxC)) (u2 := (Value.slice dyO dyL dyC)) hbl; rw [← hwE] at hst
        replace hd := hd.set3 (u0 := (Value.bool dB)) (u1 := (Value.slice dxO dxL dxC)) (u2 := (Value.slice dyO dyL dyC)) hbl; rw [← hwE] at hd
        replace hl := hl.imp id (fun h => h.set3 (u0 := (Value.bool dB)) (u1 := (Value.slice dxO dxL dxC)) (u2 := (Value.slice dyO dyL dyC)) hbl); rw [← hwE] at hl
        replace hm9 := hm9.imp id (fun h => h.set3 (u0 := (Value.bool dB)) (u1 := (Value.slice dxO dxL dxC)) (u2 := (Value.slice dyO dyL dyC)) hbl); rw [← hwE] at hm9
        replace hrow := hrow.set3 (u0 := (Value.bool dB)) (u1 := (Value.slice dxO dxL dxC)) (u2 := (Value.slice dyO dyL dyC)) hbl (by have := HB0.out; omega); rw [← hwE] at hrow
        replace hB0 : B0 ≤ w13.heap.size := by rw [hwE]; simpa [World.setCell] using hB0
        replace hbs := hbs.set3o (u0 := (Value.bool dB)) (u1 := (Value.slice dxO dxL dxC)) (u2 := (Value.slice dyO dyL dyC)) (show ps ≠ pl by have := HP.out; omega); rw [← hwE] at hbs
        replace hbm := hbm.set3o (u0 := (Value.bool dB)) (u1 := (Value.slice dxO dxL dxC)) (u2 := (Value.slice dyO dyL dyC)) (show pm ≠ pl by have := HP.out; omega); rw [← hwE] at hbm
        replace hbd := hbd.set3o (u0 := (Value.bool dB)) (u1 := (Value.slice dxO dxL dxC)) (u2 := (Value.slice dyO dyL dyC)) (show pd ≠ pl by have := HP.out; omega); rw [← hwE] at hbd
        replace hbf := below_set3 (u0 := (Value.bool dB)) (u1 := (Value.slice dxO dxL dxC)) (u2 := (Value.slice dyO dyL dyC)) hbf (show w.heap.size ≤ pl by have := HP.out; omega); rw [← hwE] at hbf
        replace hbl := hbl.set3 (u0 := (Value.bool dB)) (u1 := (Value.slice dxO dxL dxC)) (u2 := (Value.slice dyO dyL dyC)); rw [← hwE] at hbl; clear hwE
        have ed0 := hbd.c0
        have ed1 := hbd.c1
        have ed2 := hbd.c2
        have em0 := hbm.c0
        have fm0 := hbm.f0
        have em1 := hbm.c1
        have fm1 := hbm.f1
        have em2 := hbm.c2
        have fm2 := hbm.f2
        go_wp2_with fail
        clear ed0 ed1 ed2 em0 fm0 em1 fm1 em2 fm2
        obtain ⟨w14, hwE⟩ : ∃ W, W = ((w13.setCell ⟨pm, 0, none⟩ (Value.bool dB)).setCell ⟨pm, 1, none⟩ (Value.slice dxO dxL dxC)).setCell ⟨pm, 2, none⟩ (Value.slice dyO dyL dyC) := ⟨_, rfl⟩
        rw [← hwE]
        replace hg := hg.set3 (u0 := (Value.bool dB)) (u1 := (Value.slice dxO dxL dxC)) (u2 := (Value.slice dyO dyL dyC)) hbm; rw [← hwE] at hg
        replace hst := hst.set3 (u0 := (Value.bool dB)) (u1 := (Value.slice dxO dxL dxC)) (u2 := (Value.slice dyO dyL dyC)) hbm; rw [← hwE] at hst
        replace hd := hd.set3 (u0 := (Value.bool dB)) (u1 := (Value.slice dxO dxL dxC)) (u2 := (Value.slice dyO dyL dyC)) hbm; rw [← hwE] at hd
        replace hl := hl.imp id (fun h => h.set3 (u0 := (Value.bool dB)) (u1 := (Value.slice dxO dxL dxC)) (u2 := (Value.slice dyO dyL dyC)) hbm); rw [← hwE] at hl
        replace hm9 := hm9.imp id (fun h => h.set3 (u0 := (Value.bool dB)) (u1 := (Value.slice dxO dxL dxC)) (u2 := (Value.slice dyO dyL dyC)) hbm); rw [← hwE] at hm9
        replace hrow := hrow.set3 (u0 := (Value.bool dB)) (u1 := (Value.slice dxO dxL dxC)) (u2 := (Value.slice dyO dyL dyC)) hbm (by have := HB0.out; omega); rw [← hwE] at hrow
        replace hB0 : B0 ≤ w14.heap.size := by rw [hwE]; simpa [World.setCell] using hB0
        replace hbs := hbs.set3o (u0 := (Value.bool dB)) (u1 := (Value.slice dxO dxL dxC)) (u2 := (Value.slice dyO dyL dyC)) (show ps ≠ pm by have := HP.out; omega); rw [← hwE] at hbs
        replace hbl := hbl.set3o (u0 := (Value.bool dB)) (u1 := (Value.slice dxO dxL dxC)) (u2 := (Value.slice dyO dyL dyC)) (show pl ≠ pm by have := HP.out; omega); rw [← hwE] at hbl
        replace hbd := hbd.set3o (u0 := (Value.bool dB)) (u1 := (Value.slice dxO dxL dxC)) (u2 := (Value.slice dyO dyL dyC)) (show pd ≠ pm by have := HP.out; omega); rw [← hwE] at hbd
        replace hbf := below_set3 (u0 := (Value.bool dB)) (u1 := (Value.slice dxO dxL dxC)) (u2 := (Value.slice dyO dyL dyC)) hbf (show w.heap.size ≤ pm by have := HP.out; omega); rw [← hwE] at hbf
        replace hbm := hbm.set3 (u0 := (Value.bool dB)) (u1 := (Value.slice dxO dxL dxC)) (u2 := (Value.slice dyO dyL dyC)); rw [← hwE] at hbm; clear hwE
        go_wp2_with fail
        go_roundg (gk - 1)
        case measure => omega
        case rel => exact ⟨i + 1, vO, vL, vC, _, _, _, _, _, _, _, _, _, _, _, _, _, _, _, _, _, _, _, _, _, _, by omega, by first | rfl | go_num, rfl, hbs, hbl, hbm, by rw [HTK.out]; exact hg, .inr (by rw [HTK.out, pkL_first hpz]; exact hd), .inr (by rw [HTK.out, pkL_first hpz]; exact hd), by rw [HTK.out]; exact hrow, hst, hbf, hB0⟩
      case neg =>
        have hz0 : ((i : Int) == 0) = false := by simp [hi0]
        have hpz : ¬ pre.length = 0 := by omega
        have hl2 := hl.resolve_left hi0
        have hm2 := hm9.resolve_left hi0
        have HL1 : QB (pkL (-1) pre).1 700 := pkL_qb hqs (List.prefix_refl _)
        have HL2 : QB (pkL 1 pre).1 700 := pkL_qb hqs (List.prefix_refl _)
        have ed0 := hbd.c0
        have ed1 := hbd.c1
        have ed2 := hbd.c2
        have el0 := hbl.c0
        have el1 := hbl.c1
        have el2 := hbl.c2
        go_wp2_with fail
        refine (rqcmp_any _ _ q (pkL (-1) pre).1 700 700 w12 hd hl2 hqv HL1 (by decide)).mono ?_
        rintro e w13 ⟨rfl, hb⟩
        clear ed0 ed1 ed2 el0 el1 el2
        replace hbs := hbs.kept hb
        replace hbl := hbl.kept hb
        replace hbm := hbm.kept hb
        replace hbd := hbd.kept hb
        replace hg := hg.below hb
        replace hst := hst.below hb
        replace hd := hd.below hb
        replace hl2 := hl2.below hb
        replace hm2 := hm2.below hb
        replace hrow := hrow.below hb
        replace hB0 := Nat.le_trans hB0 (hb).size
        replace hl := hl.imp id (fun h => h.below hb)
        replace hm9 := hm9.imp id (fun h => h.below hb)
        replace hbf := hbf.trans (hb.mono hbf.size)
        clear hb
        by_cases hz1 : qcmp q (pkL (-1) pre).1 < 0
        case pos =>
          have ed0 := hbd.c0
          have ed1 := hbd.c1
          have ed2 := hbd.c2
          have el0 := hbl.c0
          have fl0 := hbl.f0
          have el1 := hbl.c1
          have fl1 := hbl.f1
          have el2 := hbl.c2
          have fl2 := hbl.f2
          go_upto_region 17 with fail
          clear ed0 ed1 ed2 el0 fl0 el1 fl1 el2 fl2
          obtain ⟨w14, hwE⟩ : ∃ W, W = ((w13.setCell ⟨pl, 0, none⟩ (Value.bool dB)).setCell ⟨pl, 1, none⟩ (Value.slice dxO dxL dxC)).setCell ⟨pl, 2, none⟩ (Value.slice dyO dyL dyC) := ⟨_, rfl⟩
          rw [← hwE]
          replace hg := hg.set3 (u0 := (Value.bool dB)) (u1 := (Value.slice dxO dxL dxC)) (u2 := (Value.slice dyO dyL dyC)) hbl; rw [← hwE] at hg
          replace hst := hst.set3 (u0 := (Value.bool dB)) (u1 := (Value.slice dxO dxL dxC)) (u2 := (Value.slice dyO dyL dyC)) hbl; rw [← hwE] at hst
          replace hd := hd.set3 (u0 := (Value.bool dB)) (u1 := (Value.slice dxO dxL dxC)) (u2 := (Value.slice dyO dyL dyC)) hbl; rw [← hwE] at hd
          replace hl2 := hl2.set3 (u0 := (Value.bool dB)) (u1 := (Value.slice dxO dxL dxC)) (u2 := (Value.slice dyO dyL dyC)) hbl; rw [← hwE] at hl2
          replace hm2 := hm2.set3 (u0 := (Value.bool dB)) (u1 := (Value.slice dxO dxL dxC)) (u2 := (Value.slice dyO dyL dyC)) hbl; rw [← hwE] at hm2
          replace hl := hl.imp id (fun h => h.set3 (u0 := (Value.bool dB)) (u1 := (Value.slice dxO dxL dxC)) (u2 := (Value.slice dyO dyL dyC)) hbl); rw [← hwE] at hl
          replace hm9 := hm9.imp id (fun h => h.set3 (u0 := (Value.bool dB)) (u1 := (Value.slice dxO dxL dxC)) (u2 := (Value.slice dyO dyL dyC)) hbl); rw [← hwE] at hm9
          replace hrow := hrow.set3 (u0 := (Value.bool dB)) (u1 := (Value.slice dxO dxL dxC)) (u2 := (Value.slice dyO dyL dyC)) hbl (by have := HB0.out; omega); rw [← hwE] at hrow
          replace hB0 : B0 ≤ w14.heap.size := by rw [hwE]; simpa [World.setCell] using hB0
          replace hbs := hbs.set3o (u0 := (Value.bool dB)) (u1 := (Value.slice dxO dxL dxC)) (u2 := (Value.slice dyO dyL dyC)) (show ps ≠ pl by have := HP.out; omega); rw [← hwE] at hbs
          replace hbm := hbm.set3o (u0 := (Value.bool dB)) (u1 := (Value.slice dxO dxL dxC)) (u2 := (Value.slice dyO dyL dyC)) (show pm ≠ pl by have := HP.out; omega); rw [← hwE] at hbm
          replace hbd := hbd.set3o (u0 := (Value.bool dB)) (u1 := (Value.slice dxO dxL dxC)) (u2 := (Value.slice dyO dyL dyC)) (show pd ≠ pl by have := HP.out; omega); rw [← hwE] at hbd
          replace hbf := below_set3 (u0 := (Value.bool dB)) (u1 := (Value.slice dxO dxL dxC)) (u2 := (Value.slice dyO dyL dyC)) hbf (show w.heap.size ≤ pl by have := HP.out; omega); rw [← hwE] at hbf
          replace hbl := hbl.set3 (u0 := (Value.bool dB)) (u1 := (Value.slice dxO dxL dxC)) (u2 := (Value.slice dyO dyL dyC)); rw [← hwE] at hbl; clear hwE
          have ed0 := hbd.c0
          have ed1 := hbd.c1
          have ed2 := hbd.c2
          have em0 := hbm.c0
          have em1 := hbm.c1
          have em2 := hbm.c2
          go_wp2_with fail
          refine (rqcmp_any _ _ q (pkL 1 pre).1 700 700 w14 hd hm2 hqv HL2 (by decide)).mono ?_
          rintro e w15 ⟨rfl, hb⟩
          clear ed0 ed1 ed2 em0 em1 em2
          replace hbs := hbs.kept hb
          replace hbl := hbl.kept hb
          replace hbm := hbm.kept hb
          replace hbd := hbd.kept hb
          replace hg := hg.below hb
          replace hst := hst.below hb
          replace hd := hd.below hb
          replace hl2 := hl2.below hb
          replace hm2 := hm2.below hb
          replace hrow := hrow.below hb
          replace hB0 := Nat.le_trans hB0 (hb).size
          replace hl := hl.imp id (fun h => h.below hb)
          replace hm9 := hm9.imp id (fun h => h.below hb)
          replace hbf := hbf.trans (hb.mono hbf.size)
          clear hb
          by_cases hz2 : qcmp q (pkL 1 pre).1 > 0
          case pos =>
            have ed0 := hbd.c0
            have ed1 := hbd.c1
            have ed2 := hbd.c2
            have em0 := hbm.c0
            have fm0 := hbm.f0
            have em1 := hbm.c1
            have fm1 := hbm.f1
            have em2 := hbm.c2
            have fm2 := hbm.f2
            go_wp2_with fail
            clear ed0 ed1 ed2 em0 fm0 em1 fm1 em2 fm2
            obtain ⟨w16, hwE⟩ : ∃ W, W = ((w15.setCell ⟨pm, 0, none⟩ (Value.bool dB)).setCell ⟨pm, 1, none⟩ (Value.slice dxO dxL dxC)).setCell ⟨pm, 2, none⟩ (Value.slice dyO dyL dyC) := ⟨_, rfl⟩
            rw [← hwE]
            replace hg := hg.set3 (u0 := (Value.bool dB)) (u1 := (Value.slice dxO dxL dxC)) (u2 := (Value.slice dyO dyL dyC)) hbm; rw [← hwE] at hg
            replace hst := hst.set3 (u0 := (Value.bool dB)) (u1 := (Value.slice dxO dxL dxC)) (u2 := (Value.slice dyO dyL dyC)) hbm; rw [← hwE] at hst
            replace hd := hd.set3 (u0 := (Value.bool dB)) (u1 := (Value.slice dxO dxL dxC)) (u2 := (Value.slice dyO dyL dyC)) hbm; rw [← hwE] at hd
            replace hl2 := hl2.set3 (u0 := (Value.bool dB)) (u1 := (Value.slice dxO dxL dxC)) (u2 := (Value.slice dyO dyL dyC)) hbm; rw [← hwE] at hl2
            replace hm2 := hm2.set3 (u0 := (Value.bool dB)) (u1 := (Value.slice dxO dxL dxC)) (u2 := (Value.slice dyO dyL dyC)) hbm; rw [← hwE] at hm2
            replace hl := hl.imp id (fun h => h.set3 (u0 := (Value.bool dB)) (u1 := (Value.slice dxO dxL dxC)) (u2 := (Value.slice dyO dyL dyC)) hbm); rw [← hwE] at hl
            replace hm9 := hm9.imp id (fun h => h.set3 (u0 := (Value.bool dB)) (u1 := (Value.slice dxO dxL dxC)) (u2 := (Value.slice dyO dyL dyC)) hbm); rw [← hwE] at hm9
            replace hrow := hrow.set3 (u0 := (Value.bool dB)) (u1 := (Value.slice dxO dxL dxC)) (u2 := (Value.slice dyO dyL dyC)) hbm (by have := HB0.out; omega); rw [← hwE] at hrow
            replace hB0 : B0 ≤ w16.heap.size := by rw [hwE]; simpa [World.setCell] using hB0
            replace hbs := hbs.set3o (u0 := (Value.bool dB)) (u1 := (Value.slice dxO dxL dxC)) (u2 := (Value.slice dyO dyL dyC)) (show ps ≠ pm by have := HP.out; omega); rw [← hwE] at hbs
            replace hbl := hbl.set3o (u0 := (Value.bool dB)) (u1 := (Value.slice dxO dxL dxC)) (u2 := (Value.slice dyO dyL dyC)) (show pl ≠ pm by have := HP.out; omega); rw [← hwE] at hbl
            replace hbd := hbd.set3o (u0 := (Value.bool dB)) (u1 := (Value.slice dxO dxL dxC)) (u2 := (Value.slice dyO dyL dyC)) (show pd ≠ pm by have := HP.out; omega); rw [← hwE] at hbd
            replace hbf := below_set3 (u0 := (Value.bool dB)) (u1 := (Value.slice dxO dxL dxC)) (u2 := (Value.slice dyO dyL dyC)) hbf (show w.heap.size ≤ pm by have := HP.out; omega); rw [← hwE] at hbf
            replace hbm := hbm.set3 (u0 := (Value.bool dB)) (u1 := (Value.slice dxO dxL dxC)) (u2 := (Value.slice dyO dyL dyC)); rw [← hwE] at hbm; clear hwE
            go_wp2_with fail
            go_roundg (gk - 1)
            case measure => omega
            case rel => exact ⟨i + 1, vO, vL, vC, _, _, _, _, _, _, _, _, _, _, _, _, _, _, _, _, _, _, _, _, _, _, by omega, by first | rfl | go_num, rfl, hbs, hbl, hbm, by rw [HTK.out]; exact hg, .inr (by rw [HTK.out, pkL_take (by rw [qcmp_lt0]; simpa using hz1)]; exact hd), .inr (by rw [HTK.out, pkL_take (by rw [qcmp_gt0]; simpa using hz2)]; exact hd), by rw [HTK.out]; exact hrow, hst, hbf, hB0⟩
          case neg =>
            go_wp2_with fail
            go_roundg (gk - 1)
            case measure => omega
            case rel => exact ⟨i + 1, vO, vL, vC, _, _, _, _, _, _, _, _, _, _, _, _, _, _, _, _, _, _, _, _, _, _, by omega, by first | rfl | go_num, rfl, hbs, hbl, hbm, by rw [HTK.out]; exact hg, .inr (by rw [HTK.out, pkL_take (by rw [qcmp_lt0]; simpa using hz1)]; exact hd), .inr (by rw [HTK.out, pkL_leave hpz (by rw [qcmp_gt0]; simpa using hz2)]; exact hm2), by rw [HTK.out]; exact hrow, hst, hbf, hB0⟩
        case neg =>
          have ed0 := hbd.c0
          have ed1 := hbd.c1
          have ed2 := hbd.c2
          have em0 := hbm.c0
          have em1 := hbm.c1
          have em2 := hbm.c2
          go_wp2_with fail
          refine (rqcmp_any _ _ q (pkL 1 pre).1 700 700 w13 hd hm2 hqv HL2 (by decide)).mono ?_
          rintro e w14 ⟨rfl, hb⟩
          clear ed0 ed1 ed2 em0 em1 em2
          replace hbs := hbs.kept hb
          replace hbl := hbl.kept hb
          replace hbm := hbm.kept hb
          replace hbd := hbd.kept hb
          replace hg := hg.below hb
          replace hst := hst.below hb
          replace hd := hd.below hb
          replace hl2 := hl2.below hb
          replace hm2 := hm2.below hb
          replace hrow := hrow.below hb
          replace hB0 := Nat.le_trans hB0 (hb).size
          replace hl := hl.imp id (fun h => h.below hb)
          replace hm9 := hm9.imp id (fun h => h.below hb)
          replace hbf := hbf.trans (hb.mono hbf.size)
          clear hb
          by_cases hz2 : qcmp q (pkL 1 pre).1 > 0
          case pos =>
            have ed0 := hbd.c0
            have ed1 := hbd.c1
            have ed2 := hbd.c2
            have em0 := hbm.c0
            have fm0 := hbm.f0
            have em1 := hbm.c1
            have fm1 := hbm.f1
            have em2 := hbm.c2
            have fm2 := hbm.f2
            go_wp2_with fail
            clear ed0 ed1 ed2 em0 fm0 em1 fm1 em2 fm2
            obtain ⟨w15, hwE⟩ : ∃ W, W = ((w14.setCell ⟨pm, 0, none⟩ (Value.bool dB)).setCell ⟨pm, 1, none⟩ (Value.slice dxO dxL dxC)).setCell ⟨pm, 2, none⟩ (Value.slice dyO dyL dyC) := ⟨_, rfl⟩
            rw [← hwE]
            replace hg := hg.set3 (u0 := (Value.bool dB)) (u1 := (Value.slice dxO dxL dxC)) (u2 := (Value.slice dyO dyL dyC)) hbm; rw [← hwE] at hg
            replace hst := hst.set3 (u0 := (Value.bool dB)) (u1 := (Value.slice dxO dxL dxC)) (u2 := (Value.slice dyO dyL dyC)) hbm; rw [← hwE] at hst
            replace hd := hd.set3 (u0 := (Value.bool dB)) (u1 := (Value.slice dxO dxL dxC)) (u2 := (Value.slice dyO dyL dyC)) hbm; rw [← hwE] at hd
            replace hl2 := hl2.set3 (u0 := (Value.bool dB)) (u1 := (Value.slice dxO dxL dxC)) (u2 := (Value.slice dyO dyL dyC)) hbm; rw [← hwE] at hl2
            replace hm2 := hm2.set3 (u0 := (Value.bool dB)) (u1 := (Value.slice dxO dxL dxC)) (u2 := (Value.slice dyO dyL dyC)) hbm; rw [← hwE] at hm2
            replace hl := hl.imp id (fun h => h.set3 (u0 := (Value.bool dB)) (u1 := (Value.slice dxO dxL dxC)) (u2 := (Value.slice dyO dyL dyC)) hbm); rw [← hwE] at hl
            replace hm9 := hm9.imp id (fun h => h.set3 (u0 := (Value.bool dB)) (u1 := (Value.slice dxO dxL dxC)) (u2 := (Value.slice dyO dyL dyC)) hbm); rw [← hwE] at hm9
            replace hrow := hrow.set3 (u0 := (Value.bool dB)) (u1 := (Value.slice dxO dxL dxC)) (u2 := (Value.slice dyO dyL dyC)) hbm (by have := HB0.out; omega); rw [← hwE] at hrow
            replace hB0 : B0 ≤ w15.heap.size := by rw [hwE]; simpa [World.setCell] using hB0
            replace hbs := hbs.set3o (u0 := (Value.bool dB)) (u1 := (Value.slice dxO dxL dxC)) (u2 := (Value.slice dyO dyL dyC)) (show ps ≠ pm by have := HP.out; omega); rw [← hwE] at hbs
            replace hbl := hbl.set3o (u0 := (Value.bool dB)) (u1 := (Value.slice dxO dxL dxC)) (u2 := (Value.slice dyO dyL dyC)) (show pl ≠ pm by have := HP.out; omega); rw [← hwE] at hbl
            replace hbd := hbd.set3o (u0 := (Value.bool dB)) (u1 := (Value.slice dxO dxL dxC)) (u2 := (Value.slice dyO dyL dyC)) (show pd ≠ pm by have := HP.out; omega); rw [← hwE] at hbd
            replace hbf := below_set3 (u0 := (Value.bool dB)) (u1 := (Value.slice dxO dxL dxC)) (u2 := (Value.slice dyO dyL dyC)) hbf (show w.heap.size ≤ pm by have := HP.out; omega); rw [← hwE] at hbf
            replace hbm := hbm.set3 (u0 := (Value.bool dB)) (u1 := (Value.slice dxO dxL dxC)) (u2 := (Value.slice dyO dyL dyC)); rw [← hwE] at hbm; clear hwE
            go_wp2_with fail
            go_roundg (gk - 1)
            case measure => omega
            case rel => exact ⟨i + 1, vO, vL, vC, _, _, _, _, _, _, _, _, _, _, _, _, _, _, _, _, _, _, _, _, _, _, by omega, by first | rfl | go_num, rfl, hbs, hbl, hbm, by rw [HTK.out]; exact hg, .inr (by rw [HTK.out, pkL_leave hpz (by rw [qcmp_lt0]; simpa using hz1)]; exact hl2), .inr (by rw [HTK.out, pkL_take (by rw [qcmp_gt0]; simpa using hz2)]; exact hd), by rw [HTK.out]; exact hrow, hst, hbf, hB0⟩
          case neg =>
            go_wp2_with fail
            go_roundg (gk - 1)
            case measure => omega
            case rel => exact ⟨i + 1, vO, vL, vC, _, _, _, _, _, _, _, _, _, _, _, _, _, _, _, _, _, _, _, _, _, _, by omega, by first | rfl | go_num, rfl, hbs, hbl, hbm, by rw [HTK.out]; exact hg, .inr (by rw [HTK.out, pkL_leave hpz (by rw [qcmp_lt0]; simpa using hz1)]; exact hl2), .inr (by rw [HTK.out, pkL_leave hpz (by rw [qcmp_gt0]; simpa using hz2)]; exact hm2), by rw [HTK.out]; exact hrow, hst, hbf, hB0⟩
    case neg =>
      have hti : ls.take i = ls := List.take_of_length_le (by omega)
      have hil9 : i = ls.length := by omega
      rw [hti] at hs hl hm9 hrow
      clear hti
      have hqs : ∀ q ∈ ls.map qval, QB q 700 := qvals_qb HLL.out
      have hlp : (ls.map qval).length = ls.length := List.length_map _
      generalize ls.map qval = qs at hs hl hm9 hrow hqs hlp
      have q1 : ¬ (i : Int) < (ls.length : Int) := by omega
      have HQS : QB (qsumL qs) 20000 := (qsumL_qb hqs).mono (by rw [hlp]; omega)
      have KBs := Lib.hid hbs
      have KBl := Lib.hid hbl
      have KBm := Lib.hid hbm
      have KS := Lib.hid hs
      have KR := Lib.hid hrow
      have KL : Hid (¬ ls.length = 0 → RQIs wr (.agg #[.bool lB, .slice lxO lxL lxC, .slice lyO lyL lyC]) (pkL (-1) qs).1) := Lib.hid (fun h => hl.resolve_left (by omega))
      have KM : Hid (¬ ls.length = 0 → RQIs wr (.agg #[.bool mB, .slice mxO mxL mxC, .slice myO myL myC]) (pkL 1 qs).1) := Lib.hid (fun h => hm9.resolve_left (by omega))
      have hz : Below wr.heap.size wr wr := Below.refl _ _
      obtain ⟨w6, hwE⟩ : ∃ W, W = (wr.alloc (.cells #[.int .i64 0] 3)) := ⟨_, rfl⟩
      have hb : Below wr.heap.size wr w6 := by rw [hwE]; exact ((Below.refl _ wr).alloc (Nat.le_refl _) _)
      obtain ⟨pn, hpn⟩ : ∃ p, p = wr.heap.size := ⟨_, rfl⟩
      have hbn : Box w6 pn (Value.int .i64 0) := by rw [hwE, hpn]; exact ⟨by go_simp, by go_simp, by simp <;> omega⟩
      have HGN : Hid (∀ g, (Value.slice xo xl xc).ownBlock = some g → g < pn) := Lib.hid (by rw [hpn]; exact fun g hg => (World.ownsRow.lt KR.out.own g hg).2)
      have HZN : Hid (wr.heap.size ≤ pn) := Lib.hid (by rw [hpn]; exact Nat.le_refl _)
      have hin : IntAt w6 pn := by rw [hwE, hpn]; exact ⟨0, _, heap_alloc_new _ _⟩
      replace HP : Hid (w.heap.size ≤ ps ∧ ps < pl ∧ pl < pm ∧ pm < pn) := Lib.hid (by have h1 := HP.out; have h9 := hbf.size; have h2m := hbm.lt; omega)
      have HW := Lib.hid hwE; clear hwE
      go_upto_region 20 with fail
      rw [← HW.out, ← hpn]
      clear hpn HW
      replace hbs := hbs.kept hb
      replace hbl := hbl.kept hb
      replace hbm := hbm.kept hb
      replace hz := hz.trans (hb.mono hz.size)
      replace hbf := hbf.trans (hb.mono hbf.size)
      clear hb
      clear hbs hbl hbm hs hl hm9 hrow hst hB0
      have hsp : ∀ pre, pre <+: qs → QB (qsumL pre) 20000 := fun pre hp => (qsumL_qb (fun q hq => hqs q (hp.subset hq))).mono (by have := hp.length_le; omega)
      have hfl : (!qs.isEmpty) = decide (0 < ls.length) := by rw [← hlp]; cases qs <;> simp
      obtain ⟨fl, hfl9⟩ : ∃ f, f = decide (0 < ls.length) := ⟨_, rfl⟩
      rw [← hfl9] at hfl
      obtain ⟨L9, hL9⟩ : ∃ n : Int, n = (qs.length : Int) := ⟨_, rfl⟩
      have hL15 : 0 ≤ L9 ∧ L9 ≤ 15 := by omega
      have hrr : RatRow w6 (.slice xo xl xc) qs w6.heap.size pn := (KR.out.below hz).row (Nat.le_refl _) (fun g hg => Nat.ne_of_lt (HGN.out g hg))
      go_wp2_with fail
      refine (each2_any (.slice xo xl xc) qs pn (0) w6 hrr hbn.lt (by omega) (by omega) (by omega)).mono ?_
      rintro e w7 ⟨blu, btu, rfl, hit, hb⟩
      replace hbn := hbn.kept hb
      replace hz := hz.trans (hb.mono hz.size)
      replace hin := (BelowX.of (pn := pn) hb).own hin
      replace hbf := hbf.trans (hb.mono hbf.size)
      clear hb
      clear hrr
      go_wp2_with fail
      have hct := qsum_any _ _ qs pn (0) w7 hit enters_each2 (fun W => eq_each2 W blu btu) hqs hsp hbn.lt hbn.cell hin
      rw [← hL9, show (0 : Int) + L9 = L9 by omega] at hct
      have HCT := Lib.hid hct
      clear hct hit
      refine HCT.out.mono ?_
      clear HCT
      rintro e w8 ⟨r9, rfl, hu, hB, hcn⟩
      obtain ⟨uB, uxO, uxL, uxC, uyO, uyL, uyC, rfl, hS9, hx9, hy9⟩ := hu.form
      clear hS9 hx9 hy9
      have hX := ExtX.of_belowX (B := 0) hB
      have hK := (KpX.ext hX hin).2
      replace hin := hB.own hin
      replace hbn := box_int hin hcn
      replace hz := below_x hz hB HZN.out hz.size
      replace hbf := below_x hbf hB (show w.heap.size ≤ pn by have := HP.out; omega) hbf.size
      clear hX hK hB hcn
      obtain ⟨w9, hwE⟩ : ∃ W, W = (w8.alloc (.cells #[.bool uB, .slice uxO uxL uxC, .slice uyO uyL uyC] 35)) := ⟨_, rfl⟩
      have hb : Below w8.heap.size w8 w9 := by rw [hwE]; exact ((Below.refl _ w8).alloc (Nat.le_refl _) _)
      obtain ⟨pu, hpu⟩ : ∃ p, p = w8.heap.size := ⟨_, rfl⟩
      have hbu : Box3 w9 pu (Value.bool uB) (Value.slice uxO uxL uxC) (Value.slice uyO uyL uyC) := by rw [hwE, hpu]; exact ⟨by go_simp, by go_simp, by go_simp, by go_simp, by go_simp, by go_simp⟩
      replace HP : Hid (w.heap.size ≤ ps ∧ ps < pl ∧ pl < pm ∧ pm < pn ∧ pn < pu) := Lib.hid (by have h1 := HP.out; have h9 := hbf.size; have h2n := hbn.lt; omega)
      have HW := Lib.hid hwE; clear hwE
      go_upto_region 21 with fail
      rw [← HW.out, ← hpu]
      clear hpu HW
      replace hbn := hbn.kept hb
      replace hu := hu.below hb
      replace hz := hz.trans (hb.mono hz.size)
      replace hin := (BelowX.of (pn := pn) hb).own hin
      replace hbf := hbf.trans (hb.mono hbf.size)
      clear hb
      have hrr : RatRow w9 (.slice xo xl xc) qs w9.heap.size pn := (KR.out.below hz).row (Nat.le_refl _) (fun g hg => Nat.ne_of_lt (HGN.out g hg))
      go_wp2_with fail
      refine (each2_any (.slice xo xl xc) qs pn (L9) w9 hrr hbn.lt (by omega) (by omega) (by omega)).mono ?_
      rintro e w10 ⟨blp, btp, rfl, hit, hb⟩
      replace hbn := hbn.kept hb
      replace hbu := hbu.kept hb
      replace hu := hu.below hb
      replace hz := hz.trans (hb.mono hz.size)
      replace hin := (BelowX.of (pn := pn) hb).own hin
      replace hbf := hbf.trans (hb.mono hbf.size)
      clear hb
      clear hrr
      go_wp2_with fail
      have hct := least_any _ _ qs pn (L9) w10 hit enters_each2 (fun W => eq_each2 W blp btp) hqs hbn.lt hbn.cell hin
      rw [pkL_found, hfl, ← hL9, show (L9 : Int) + L9 = L9 + L9 by omega] at hct
      have HCT := Lib.hid hct
      clear hct hit
      refine HCT.out.mono ?_
      clear HCT
      rintro e w11 ⟨r9, rfl, hp, hB, hcn⟩
      obtain ⟨pB, pxO, pxL, pxC, pyO, pyL, pyC, rfl, hS9, hx9, hy9⟩ := hp.form
      clear hS9 hx9 hy9
      have hX := ExtX.of_belowX (B := 0) hB
      have hK := (KpX.ext hX hin).2
      replace hbu := hbu.extX hX (show pu ≠ pn by have := HP.out; omega)
      replace hu := hu.keep hK
      replace hin := hB.own hin
      replace hbn := box_int hin hcn
      replace hz := below_x hz hB HZN.out hz.size
      replace hbf := below_x hbf hB (show w.heap.size ≤ pn by have := HP.out; omega) hbf.size
      clear hX hK hB hcn
      obtain ⟨w12, hwE⟩ : ∃ W, W = (w11.alloc (.cells #[.bool pB, .slice pxO pxL pxC, .slice pyO pyL pyC] 35)) := ⟨_, rfl⟩
      have hb : Below w11.heap.size w11 w12 := by rw [hwE]; exact ((Below.refl _ w11).alloc (Nat.le_refl _) _)
      obtain ⟨pp, hpp⟩ : ∃ p, p = w11.heap.size := ⟨_, rfl⟩
      have hbp : Box3 w12 pp (Value.bool pB) (Value.slice pxO pxL pxC) (Value.slice pyO pyL pyC) := by rw [hwE, hpp]; exact ⟨by go_simp, by go_simp, by go_simp, by go_simp, by go_simp, by go_simp⟩
      replace HP : Hid (w.heap.size ≤ ps ∧ ps < pl ∧ pl < pm ∧ pm < pn ∧ pn < pu ∧ pu < pp) := Lib.hid (by have h1 := HP.out; have h9 := hbf.size; have h2u := hbu.lt; omega)
      have HW := Lib.hid hwE; clear hwE
      go_upto_region 22 with fail
      rw [← HW.out, ← hpp]
      clear hpp HW
      replace hbn := hbn.kept hb
      replace hbu := hbu.kept hb
      replace hu := hu.below hb
      replace hp := hp.below hb
      replace hz := hz.trans (hb.mono hz.size)
      replace hin := (BelowX.of (pn := pn) hb).own hin
      replace hbf := hbf.trans (hb.mono hbf.size)
      clear hb
      have hrr : RatRow w12 (.slice xo xl xc) qs w12.heap.size pn := (KR.out.below hz).row (Nat.le_refl _) (fun g hg => Nat.ne_of_lt (HGN.out g hg))
      go_wp2_with fail
      refine (each2_any (.slice xo xl xc) qs pn (L9 + L9) w12 hrr hbn.lt (by omega) (by omega) (by omega)).mono ?_
      rintro e w13 ⟨blq, btq, rfl, hit, hb⟩
      replace hbn := hbn.kept hb
      replace hbu := hbu.kept hb
      replace hbp := hbp.kept hb
      replace hu := hu.below hb
      replace hp := hp.below hb
      replace hz := hz.trans (hb.mono hz.size)
      replace hin := (BelowX.of (pn := pn) hb).own hin
      replace hbf := hbf.trans (hb.mono hbf.size)
      clear hb
      clear hrr
      go_wp2_with fail
      have hct := most_any _ _ qs pn (L9 + L9) w13 hit enters_each2 (fun W => eq_each2 W blq btq) hqs hbn.lt hbn.cell hin
      rw [pkL_found, hfl, ← hL9, show (L9 + L9 : Int) + L9 = 3 * L9 by omega] at hct
      have HCT := Lib.hid hct
      clear hct hit
      refine HCT.out.mono ?_
      clear HCT
      rintro e w14 ⟨r9, rfl, hq, hB, hcn⟩
      obtain ⟨qB, qxO, qxL, qxC, qyO, qyL, qyC, rfl, hS9, hx9, hy9⟩ := hq.form
      clear hS9 hx9 hy9
      have hX := ExtX.of_belowX (B := 0) hB
      have hK := (KpX.ext hX hin).2
      replace hbu := hbu.extX hX (show pu ≠ pn by have := HP.out; omega)
      replace hbp := hbp.extX hX (show pp ≠ pn by have := HP.out; omega)
      replace hu := hu.keep hK
      replace hp := hp.keep hK
      replace hin := hB.own hin
      replace hbn := box_int hin hcn
      replace hz := below_x hz hB HZN.out hz.size
      replace hbf := below_x hbf hB (show w.heap.size ≤ pn by have := HP.out; omega) hbf.size
      clear hX hK hB hcn
      obtain ⟨w15, hwE⟩ : ∃ W, W = (w14.alloc (.cells #[.bool qB, .slice qxO qxL qxC, .slice qyO qyL qyC] 35)) := ⟨_, rfl⟩
      have hb : Below w14.heap.size w14 w15 := by rw [hwE]; exact ((Below.refl _ w14).alloc (Nat.le_refl _) _)
      obtain ⟨pq, hpq⟩ : ∃ p, p = w14.heap.size := ⟨_, rfl⟩
      have hbq : Box3 w15 pq (Value.bool qB) (Value.slice qxO qxL qxC) (Value.slice qyO qyL qyC) := by rw [hwE, hpq]; exact ⟨by go_simp, by go_simp, by go_simp, by go_simp, by go_simp, by go_simp⟩
      replace HP : Hid (w.heap.size ≤ ps ∧ ps < pl ∧ pl < pm ∧ pm < pn ∧ pn < pu ∧ pu < pp ∧ pp < pq) := Lib.hid (by have h1 := HP.out; have h9 := hbf.size; have h2p := hbp.lt; omega)
      have HW := Lib.hid hwE; clear hwE
      go_upto_region 23 with fail
      rw [← HW.out, ← hpq]
      clear hpq HW
      replace hbn := hbn.kept hb
      replace hbu := hbu.kept hb
      replace hbp := hbp.kept hb
      replace hu := hu.below hb
      replace hp := hp.below hb
      replace hq := hq.below hb
      replace hz := hz.trans (hb.mono hz.size)
      replace hin := (BelowX.of (pn := pn) hb).own hin
      replace hbf := hbf.trans (hb.mono hbf.size)
      clear hb
      have hbs := KBs.out.kept hz
      have hbl := KBl.out.kept hz
      have hbm := KBm.out.kept hz
      have hs := KS.out.below hz
      have h9 : L9 = (ls.length : Int) := by omega
      clear hL9 hfl
      subst h9
      by_cases h0 : ls.length = 0
      case pos =>
        have hf9 : fl = false := by rw [hfl9]; exact decide_eq_false (by omega)
        clear hfl9
        subst hf9
        have hgt : decide ((0 : Int) < (ls.length : Int)) = false := decide_eq_false (by omega)
        have eu0 := hbu.c0
        have eu1 := hbu.c1
        have eu2 := hbu.c2
        have es0 := hbs.c0
        have es1 := hbs.c1
        have es2 := hbs.c2
        have en := hbn.cell
        go_wp2_with fail
        refine (same2_any _ _ (qsumL qs) w15 hu hs (HQS.mono (by decide))).mono ?_
        rintro e w16 ⟨rfl, hb⟩
        clear eu0 eu1 eu2 es0 es1 es2 en
        replace hbn := hbn.kept hb
        replace hbu := hbu.kept hb
        replace hbp := hbp.kept hb
        replace hbq := hbq.kept hb
        replace hbs := hbs.kept hb
        replace hbl := hbl.kept hb
        replace hbm := hbm.kept hb
        replace hu := hu.below hb
        replace hp := hp.below hb
        replace hq := hq.below hb
        replace hs := hs.below hb
        replace hbf := hbf.trans (hb.mono hbf.size)
        clear hb
        have en := hbn.cell
        go_wp2_with fail
        refine (qsum_nil w16).mono ?_
        rintro e w17 ⟨r0, rfl, hr0, hb⟩
        clear en
        replace hbn := hbn.kept hb
        replace hbu := hbu.kept hb
        replace hbp := hbp.kept hb
        replace hbq := hbq.kept hb
        replace hbs := hbs.kept hb
        replace hbl := hbl.kept hb
        replace hbm := hbm.kept hb
        replace hu := hu.below hb
        replace hp := hp.below hb
        replace hq := hq.below hb
        replace hs := hs.below hb
        replace hbf := hbf.trans (hb.mono hbf.size)
        clear hb
        have en := hbn.cell
        go_wp2_with fail
        refine (qtext_any _ 0 w17 hr0 (QB.zero _ (by decide))).mono ?_
        rintro e w18 ⟨rfl, hb⟩
        clear en
        replace hbn := hbn.kept hb
        replace hbu := hbu.kept hb
        replace hbp := hbp.kept hb
        replace hbq := hbq.kept hb
        replace hbs := hbs.kept hb
        replace hbl := hbl.kept hb
        replace hbm := hbm.kept hb
        replace hu := hu.below hb
        replace hp := hp.below hb
        replace hq := hq.below hb
        replace hs := hs.below hb
        replace hr0 := hr0.below hb
        replace hbf := hbf.trans (hb.mono hbf.size)
        clear hb
        rw [qtz9]
        go_wp2_with fail
        go_ret
        exact ⟨rfl, hbf⟩
      case neg =>
        have hf9 : fl = true := by rw [hfl9]; exact decide_eq_true (by omega)
        clear hfl9
        subst hf9
        have hgt : decide ((0 : Int) < (ls.length : Int)) = true := decide_eq_true (by omega)
        have hl := (KL.out h0).below hz
        have hm9 := (KM.out h0).below hz
        have eu0 := hbu.c0
        have eu1 := hbu.c1
        have eu2 := hbu.c2
        have es0 := hbs.c0
        have es1 := hbs.c1
        have es2 := hbs.c2
        have en := hbn.cell
        go_wp2_with fail
        refine (same2_any _ _ (qsumL qs) w15 hu hs (HQS.mono (by decide))).mono ?_
        rintro e w16 ⟨rfl, hb⟩
        clear eu0 eu1 eu2 es0 es1 es2 en
        replace hbn := hbn.kept hb
        replace hbu := hbu.kept hb
        replace hbp := hbp.kept hb
        replace hbq := hbq.kept hb
        replace hbs := hbs.kept hb
        replace hbl := hbl.kept hb
        replace hbm := hbm.kept hb
        replace hu := hu.below hb
        replace hp := hp.below hb
        replace hq := hq.below hb
        replace hs := hs.below hb
        replace hl := hl.below hb
        replace hm9 := hm9.below hb
        replace hbf := hbf.trans (hb.mono hbf.size)
        clear hb
        have en := hbn.cell
        go_wp2_with fail
        refine (qsum_nil w16).mono ?_
        rintro e w17 ⟨r0, rfl, hr0, hb⟩
        clear en
        replace hbn := hbn.kept hb
        replace hbu := hbu.kept hb
        replace hbp := hbp.kept hb
        replace hbq := hbq.kept hb
        replace hbs := hbs.kept hb
        replace hbl := hbl.kept hb
        replace hbm := hbm.kept hb
        replace hu := hu.below hb
        replace hp := hp.below hb
        replace hq := hq.below hb
        replace hs := hs.below hb
        replace hl := hl.below hb
        replace hm9 := hm9.below hb
        replace hbf := hbf.trans (hb.mono hbf.size)
        clear hb
        have en := hbn.cell
        go_wp2_with fail
        refine (qtext_any _ 0 w17 hr0 (QB.zero _ (by decide))).mono ?_
        rintro e w18 ⟨rfl, hb⟩
        clear en
        replace hbn := hbn.kept hb
        replace hbu := hbu.kept hb
        replace hbp := hbp.kept hb
        replace hbq := hbq.kept hb
        replace hbs := hbs.kept hb
        replace hbl := hbl.kept hb
        replace hbm := hbm.kept hb
        replace hu := hu.below hb
        replace hp := hp.below hb
        replace hq := hq.below hb
        replace hs := hs.below hb
        replace hl := hl.below hb
        replace hm9 := hm9.below hb
        replace hr0 := hr0.below hb
        replace hbf := hbf.trans (hb.mono hbf.size)
        clear hb
        rw [qtz9]
        have ep0 := hbp.c0
        have ep1 := hbp.c1
        have ep2 := hbp.c2
        have el0 := hbl.c0
        have el1 := hbl.c1
        have el2 := hbl.c2
        go_wp2_with fail
        refine (same2_any _ _ _ w18 hp hl ((pkL_qb hqs (List.prefix_refl _)).mono (by decide))).mono ?_
        rintro e w19 ⟨rfl, hb⟩
        clear ep0 ep1 ep2 el0 el1 el2
        replace hbn := hbn.kept hb
        replace hbu := hbu.kept hb
        replace hbp := hbp.kept hb
        replace hbq := hbq.kept hb
        replace hbs := hbs.kept hb
        replace hbl := hbl.kept hb
        replace hbm := hbm.kept hb
        replace hu := hu.below hb
        replace hp := hp.below hb
        replace hq := hq.below hb
        replace hs := hs.below hb
        replace hl := hl.below hb
        replace hm9 := hm9.below hb
        replace hr0 := hr0.below hb
        replace hbf := hbf.trans (hb.mono hbf.size)
        clear hb
        have eq0 := hbq.c0
        have eq1 := hbq.c1
        have eq2 := hbq.c2
        have em0 := hbm.c0
        have em1 := hbm.c1
        have em2 := hbm.c2
        go_wp2_with fail
        refine (same2_any _ _ _ w19 hq hm9 ((pkL_qb hqs (List.prefix_refl _)).mono (by decide))).mono ?_
        rintro e w20 ⟨rfl, hb⟩
        clear eq0 eq1 eq2 em0 em1 em2
        replace hbn := hbn.kept hb
        replace hbu := hbu.kept hb
        replace hbp := hbp.kept hb
        replace hbq := hbq.kept hb
        replace hbs := hbs.kept hb
        replace hbl := hbl.kept hb
        replace hbm := hbm.kept hb
        replace hu := hu.below hb
        replace hp := hp.below hb
        replace hq := hq.below hb
        replace hs := hs.below hb
        replace hl := hl.below hb
        replace hm9 := hm9.below hb
        replace hr0 := hr0.below hb
        replace hbf := hbf.trans (hb.mono hbf.size)
        clear hb
        go_wp2_with fail
        go_ret
        exact ⟨rfl, hbf⟩

theorem ratIterates_walk (sv : Value) (ls : List (List UInt8)) (w : World) (hs : Strs w sv ls) (hm : ∀ l ∈ ls, l.length ≤ maxLen) :
    Calls Tryd.prog 3 #[sv] w fun e w' => e = .returned (.bool true) ∧ Below w.heap.size w w' := by
  by_cases h : ls.length ≤ 15 ∧ total ls ≤ 600
  · exact ratIterates_main sv ls w hs hm h.1 h.2
  · exact ratIterates_early sv ls w hs hm (by omega)

end Go.Proofs.YtoadhoojdgeikaaDoor
