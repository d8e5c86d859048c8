/-
  onnx: Root.
-/
import Derived.Test.YtieffhkfefimeaaGreatOnxC
import Derived.Maps.OwnSet
import Derived.Test.YtieffhkfefimeaaGreatSeqA
namespace Go.Proofs.YtieffhkfefimeaaGreat
open Go.RowKit Go.Maps
set_option linter.unusedVariables false
set_option linter.unusedSimpArgs false

theorem plainElem_bool_inv {P : Program} {e : TypeId} {H : Type} (he : P.underlying e = some .bool) {v : Value} {z : DataW H × List MemPlace} (h : plainElem P e v = some z) : ∃ c, v = .bool c ∧ z = (.lit (.bool c), []) := by
  unfold plainElem at h
  rw [he] at h
  cases v <;> simp at h
  exact ⟨_, rfl, h.symm⟩
theorem lookup_bool {H : Type} {P : Program} {w : World} {b n : Nat} {D : DataW H} {t k e : TypeId} (h : w.ownsMap P k (plainElem P e) b n D) (K : Keyed P k) (ht : P.underlying t = some (.map k e)) (he : P.underlying e = some .bool) (hz : (zeroValue e).run P w = .ok (.bool false) w)
    {key : Value} {kl : Lit} (hkey : keyOf P k key = some kl) : ∃ c, (Instr.lookup t (.map (some b)) key false).run P w = .ok (.bool c) w ∧ D.atKey kl (.lit (.bool false)) = .lit (.bool c) := by
  obtain ⟨v, ps, hrun, hv⟩ := h.lookup K ht hz (plainElem_bool he false) hkey
  obtain ⟨c, rfl, hc⟩ := plainElem_bool_inv he hv
  simp only [Prod.mk.injEq] at hc
  exact ⟨c, hrun, hc.1⟩
theorem step_mapUpdate {H : Type} {P : Program} {w : World} {o : Oper} {a : Act} {K9 : Act → World → Prop} {Q : Exit → Act → World → Prop}
    {m x v : Operand} {t : TypeId} (hop : o.op = Op.mapUpdate t m x v)
    {k e : TypeId} (K : Keyed P k) (ht : P.underlying t = some (.map k e)) {R : Value → Option (DataW H × List MemPlace)} {b n : Nat} {D : DataW H}
    {key val : Value} {kl : Lit} (hm : a.eval m = .map (some b)) (hx : a.eval x = key) (hv : a.eval v = val) (hown : w.ownsMap P k R b n D) (hn : n < maxLen) (hkey : keyOf P k key = some kl)
    {d : DataW H} {ps : List MemPlace} (hval : R val = some (d, ps))
    (hK : ∀ w', w'.ownsMap P k R b (n + 1) (D.put kl d) → w.grownBy w' (some b) → K9 (a.put o.dst undef) w') : Oper.wp P o a w K9 Q := by
  obtain ⟨w', hrun, r1, r2⟩ := hown.update K ht hn hkey hval
  unfold Oper.wp
  simp [execOp, hop, hm, hx, hv, hrun, Result.andThen]
  exact hK _ r1 r2
theorem grown_of_below {w w' : World} (h : Below w.heap.size w w') : w.grownBy w' none := ⟨h.os, h.tape, h.output, h.size, fun k hk _ => h.block k hk⟩
theorem law_int : Keyed Tryz.prog 3 := int_keyed Tryz.underlying3
theorem zero_bool (w : World) : (zeroValue 4).run Tryz.prog w = .ok (.bool false) w := by kernel_rfl
theorem key_int {x : Int} (h : IW x) : keyOf Tryz.prog 3 (.int .i64 x) = some (.int .i64 x) := keyOf_int_mk Tryz.underlying3 h
/-- What the numbers read so far say of each. -/
def Says (D : DataW Unit) (f : Int → Bool) : Prop := IsMap D ∧ ∀ x, D.atKey (.int .i64 x) (.lit (.bool false)) = .lit (.bool (f x))
theorem Says.put {D : DataW Unit} {f : Int → Bool} (h : Says D f) (y : Int) : Says (D.put (.int .i64 y) (.lit (.bool true))) (fun x => decide (y = x) || f x) := by
  refine ⟨?_, fun x => ?_⟩
  · obtain ⟨es, rfl⟩ := h.1
    exact ⟨_, rfl⟩
  · by_cases e : y = x
    · subst e
      rw [atKey_put_same h.1 (by trivial)]
      simp
    · rw [atKey_put_other (by intro h9; injection h9 with h8 h7; exact e h7.symm), h.2 x]
      simp [e]
theorem Says.of {D : DataW Unit} {f g : Int → Bool} (h : Says D f) (hg : ∀ x, f x = g x) : Says D g := ⟨h.1, fun x => by rw [h.2 x, hg x]⟩
theorem behind_snoc (ns : List EN) (y : EN) (t x : Int) : behindE (ns ++ [y]) t x = (behindE ns t x || (decide (y.tree = t) && (decide (y.mode ≠ 7) && (decide (y.tru = x) || decide (y.fls = x))))) := by
  simp [behindE]
set_option maxRecDepth 100000 in
set_option maxHeartbeats 1000000 in
/-- Root. -/
theorem root_any (v : Value) (e : EE) (bo : Option Addr) (bc : Nat) (no : Option Addr) (nc : Nat) (lo : Option Addr) (lc : Nat) (t : Int) (w : World) (h : EnsIs w v e bo bc no nc lo lc) (hl : e.nodes.length ≤ 100000) (g : Nat) (i9 : Bool) (hg : Hid ((rootE e.nodes t).getD 0 = g)) (hi9 : Hid ((rootE e.nodes t).isSome = i9)) :
    Calls Tryz.prog 15 #[v, .int .i64 t] w fun e_1 w' => e_1 = .returned (.tuple #[.int .i64 (g : Int), .bool i9]) ∧ Below w.heap.size w w' := by
  obtain ⟨rfl, h1, h2, h4, h5, h3, h6, h7, h8, h9⟩ := h
  have hmm := @run_makeMap Tryz.prog
  obtain ⟨w0, hw0⟩ : ∃ w0, w0 = (w.alloc (.cells #[.int .i64 e.feats, .int .i64 e.tgts, .string ⟨e.agg.toArray⟩, .string ⟨e.post.toArray⟩, .slice bo e.base.length bc, .slice no e.nodes.length nc, .slice lo e.leaves.length lc] 26)) := ⟨_, rfl⟩
  have hbf : Below w.heap.size w w0 := by rw [hw0]; exact ((Below.refl _ w).alloc (Nat.le_refl _) _)
  obtain ⟨pe, hpe⟩ : ∃ p, p = w.heap.size := ⟨_, rfl⟩
  have hbe : BoxL w0 pe [.int .i64 e.feats, .int .i64 e.tgts, .string ⟨e.agg.toArray⟩, .string ⟨e.post.toArray⟩, .slice bo e.base.length bc, .slice no e.nodes.length nc, .slice lo e.leaves.length lc] := by rw [hw0, hpe]; exact BoxL.of7 (by go_simp) (by go_simp) (by go_simp) (by go_simp) (by go_simp) (by go_simp) (by go_simp) (by go_simp) (by go_simp) (by go_simp) (by go_simp) (by go_simp) (by go_simp) (by go_simp)
  have HP : Hid (w.heap.size ≤ pe) := Lib.hid (by omega)
  have HW := Lib.hid hw0; clear hw0
  go_enter Tryz.func15, Tryz.ntmps15
  go_upto_region 1 with fail
  rw [← HW.out, ← hpe]
  clear hpe HW
  have hE : EnsIs w0 (ensV e bo bc no nc lo lc) e bo bc no nc lo lc := EnsIs.below ⟨rfl, h1, h2, h4, h5, h3, h6, h7, h8, h9⟩ hbf
  have ee5 := hbe.cell 5 _ rfl
  have hpe0 := Lib.hid hbe.lt
  obtain ⟨w1, hwE⟩ : ∃ W, W = w0.alloc (.map #[] 0) := ⟨_, rfl⟩
  have hb1 : Below w0.heap.size w0 w1 := by rw [hwE]; exact (Below.refl _ w0).alloc (Nat.le_refl _) _
  obtain ⟨pm, hpE⟩ : ∃ p, p = w0.heap.size := ⟨_, rfl⟩
  have hown : w1.ownsMap Tryz.prog 3 (plainElem (H := Unit) Tryz.prog 4) pm 0 (.map []) := by rw [hwE, hpE]; exact World.ownsMap_made _ _ _ _
  have hS0 : Says (.map []) (fun x => behindE (e.nodes.take 0) t x) := ⟨⟨_, rfl⟩, fun x => by simp [behindE]; rfl⟩
  have hpm : Hid (pm = w0.heap.size) := Lib.hid hpE
  have HW := Lib.hid hwE; clear hwE
  replace hbe := hbe.kept hb1
  go_step3
  go_upto_region 2 with fail
  rw [← HW.out, ← hpE]
  clear HW hpE hmm ee5
  have ee5 := hbe.cell 5 _ rfl
  go_wp2_with fail
  go_loopg [15] e.nodes.length (fun gg iv wr => ∃ (i : Nat) (D : DataW Unit), i + gg = e.nodes.length ∧ iv = .int .i64 (i : Int) ∧ wr.ownsMap Tryz.prog 3 (plainElem (H := Unit) Tryz.prog 4) pm (2 * i) D ∧ Hid (Says D (fun x => behindE (e.nodes.take i) t x)) ∧ Below w0.heap.size w0 wr ∧ BoxL wr pe [.int .i64 e.feats, .int .i64 e.tgts, .string ⟨e.agg.toArray⟩, .string ⟨e.post.toArray⟩, .slice bo e.base.length bc, .slice no e.nodes.length nc, .slice lo e.leaves.length lc])
  case atStart => exact ⟨0, _, by omega, rfl, hown, Lib.hid hS0, hb1, hbe⟩
  case round =>
    clear hown hS0 hbe ee5 hb1
    obtain ⟨i, D, hi, rfl, hown, hSD, hbr, hbe⟩ := hrel
    have ee5 := hbe.cell 5 _ rfl
    have hlt := hown.lt
    have hpe : pe ≠ pm := by have h10 := hpm.out; have h11 := hpe0.out; omega
    by_cases hil : i < e.nodes.length
    · have hz : (i : Int) < (e.nodes.length : Int) := by omega
      have hz0 : (0 : Int) ≤ (i : Int) := by omega
      obtain ⟨b, off, rfl⟩ := h2.addr hil
      obtain ⟨y, hy⟩ : ∃ y, e.nodes[i] = y := ⟨_, rfl⟩
      obtain ⟨c0, c1, c2, c3, c4, c5, c6, c7⟩ := RowC.c8 h2 (hbf.trans (hbr.mono hbf.size)) hil y hy
      have HT : Hid (e.nodes.take (i + 1) = e.nodes.take i ++ [y]) := Lib.hid (by rw [List.take_succ_eq_append_getElem hil, hy])
      have hyw := h8 y (by rw [← hy]; exact List.getElem_mem hil)
      clear hy
      obtain ⟨w2, hwE⟩ : ∃ W, W = wr.alloc (.cells #[.int .i64 y.tree, .int .i64 y.node, .int .i64 y.feat, .int .i64 y.mode, .int .u64 (y.val : Int), .int .i64 y.tru, .int .i64 y.fls, .bool y.trk] 33) := ⟨_, rfl⟩
      have hb2 : Below wr.heap.size wr w2 := by rw [hwE]; exact (Below.refl _ wr).alloc (Nat.le_refl _) _
      obtain ⟨px, hpE⟩ : ∃ p, p = wr.heap.size := ⟨_, rfl⟩
      have hbx : BoxL w2 px [.int .i64 y.tree, .int .i64 y.node, .int .i64 y.feat, .int .i64 y.mode, .int .u64 (y.val : Int), .int .i64 y.tru, .int .i64 y.fls, .bool y.trk] := by rw [hwE, hpE]; exact BoxL.new wr _ _
      have HW := Lib.hid hwE; clear hwE
      go_upto_region 5 with fail
      rw [← HW.out, ← hpE]
      have Hpx := Lib.hid (Nat.le_of_eq hpE.symm)
      clear HW hpE
      replace hbe := hbe.kept hb2
      have hbr2 := hbr.trans (hb2.mono hbr.size)
      replace hown : w2.ownsMap Tryz.prog 3 (plainElem (H := Unit) Tryz.prog 4) pm (2 * i) D := hown.kept (row := none) ⟨hb2.os, hb2.tape, hb2.output, hb2.size, fun k hk _ => hb2.block k hk⟩ (by simp)
      have hpx : px ≠ pm := by have h10 := Hpx.out; have h11 := hlt; omega
      have x0 := hbx.cell 0 _ rfl
      have x3 := hbx.cell 3 _ rfl
      by_cases q : y.tree = t
      · by_cases q2 : y.mode = 7
        · have q3 : (y.mode != 7) = false := by simp [q2]
          have hSD2 : Hid (Says D (fun x => behindE (e.nodes.take (i + 1)) t x)) := Lib.hid (hSD.out.of fun x => by rw [HT.out, behind_snoc]; simp [q2])
          rw [q] at x0
          clear hSD q q2
          go_wp2_with fail
          go_roundg (gk - 1)
          case measure => omega
          case rel => exact ⟨i + 1, D, by omega, by first | rfl | go_num, hown.mono (by omega), hSD2, hbr2, hbe⟩
        · have q3 : (y.mode != 7) = true := by simp [q2]
          have hSD2 := Lib.hid ((hSD.out.put y.tru).put y.fls |>.of (g := fun x => behindE (e.nodes.take (i + 1)) t x) fun x => by rw [HT.out, behind_snoc]; simp [q, q2]; cases decide (y.tru = x) <;> cases decide (y.fls = x) <;> simp)
          rw [q] at x0
          clear hSD q q2
          have hbf := hbf.trans (hbr2.mono hbf.size)
          have ex0 := hbx.cell 0 _ rfl
          have ex1 := hbx.cell 1 _ rfl
          have ex2 := hbx.cell 2 _ rfl
          have ex3 := hbx.cell 3 _ rfl
          have ex4 := hbx.cell 4 _ rfl
          have ex5 := hbx.cell 5 _ rfl
          have ex6 := hbx.cell 6 _ rfl
          have ex7 := hbx.cell 7 _ rfl
          go_wp2_with fail
          clear ex0 ex1 ex2 ex3 ex4 ex5 ex6 ex7
          refine wp_region_seq (S := fun w' => BoxL w' px [.int .i64 y.tree, .int .i64 y.node, .int .i64 y.feat, .int .i64 y.mode, .int .u64 (y.val : Int), .int .i64 y.tru, .int .i64 y.fls, .bool y.trk]) [(true, 0), (true, 1), (true, 2), (true, 3), (true, 4), (true, 5), (false, 6), (false, 7)] (by kernel_rfl) (by kernel_rfl) (by kernel_rfl) (by kernel_rfl) (by kernel_rfl) (fun d _ _ _ _ h => by cases d <;> exact h) hbx.drew (fun _ => ?_)
          simp only [pickOps, List.append_eq, List.cons_append, List.nil_append, List.getElem?_toArray, List.getElem?_cons_succ, List.getElem?_cons_zero]
          have hb : Below w2.heap.size w2 w2.drew := (Below.refl _ _).drew
          generalize w2.drew = w1 at hb ⊢
          replace hbx := hbx.kept hb
          replace hown := hown.kept (row := none) (grown_of_below hb) (by simp)
          replace hbe := hbe.kept hb
          replace hbr2 := hbr2.trans (hb.mono hbr2.size)
          replace hbf := hbf.trans (hb.mono hbf.size)
          clear hb
          repeat (first | (refine seq_take (v := ?_) (by rfl) ?_ ?_; rotate_left; (· intro w hSw; (try dsimp only at hSw); have hLx := hSw; clear hSw; have ex0 := hLx.cell 0 _ rfl; have ex1 := hLx.cell 1 _ rfl; have ex2 := hLx.cell 2 _ rfl; have ex3 := hLx.cell 3 _ rfl; have ex4 := hLx.cell 4 _ rfl; have ex5 := hLx.cell 5 _ rfl; have ex6 := hLx.cell 6 _ rfl; have ex7 := hLx.cell 7 _ rfl; clear hLx; go_simp; all_goals with_reducible rfl); (try simp only [Act.put, List.setIfInBounds_toArray, List.set_cons_zero, List.set_cons_succ])) | (refine seq_leave (by rfl) ?_; (try simp only [Act.put, List.setIfInBounds_toArray, List.set_cons_zero, List.set_cons_succ])))
          refine seq_step (by rfl) (fun K hK => ?_)
          refine step_mapUpdate rfl law_int Tryz.underlying77 (b := pm) rfl rfl rfl hown (by unfold maxLen; omega) (key_int hyw.tru) (plainElem_bool Tryz.underlying4 true) (fun w2 hown' hgrow => ?_)
          replace hbx := hbx.block (hgrow.block px hbx.lt (by simpa using hpx))
          replace hbe := hbe.block (hgrow.block pe hbe.lt (by simpa using hpe))
          replace hbr2 := hbr2.grown hgrow hbr2.size (fun j hj => by cases hj; exact Nat.le_of_eq hpm.out.symm)
          clear hown
          have hown := hown'
          clear hown' hgrow
          first | refine hK.out _ _ hbx (fun _ => ?_) | (go_wp2_with fail; refine hK.out _ _ hbx (fun _ => ?_))
          clear hK K
          (try simp only [Act.put, List.setIfInBounds_toArray, List.set_cons_zero, List.set_cons_succ])
          refine seq_step (by rfl) (fun K hK => ?_)
          refine step_mapUpdate rfl law_int Tryz.underlying77 (b := pm) rfl rfl rfl hown (by unfold maxLen; omega) (key_int hyw.fls) (plainElem_bool Tryz.underlying4 true) (fun w3 hown' hgrow => ?_)
          replace hbx := hbx.block (hgrow.block px hbx.lt (by simpa using hpx))
          replace hbe := hbe.block (hgrow.block pe hbe.lt (by simpa using hpe))
          replace hbr2 := hbr2.grown hgrow hbr2.size (fun j hj => by cases hj; exact Nat.le_of_eq hpm.out.symm)
          clear hown
          have hown := hown'
          clear hown' hgrow
          first | refine hK.out _ _ hbx (fun _ => ?_) | (go_wp2_with fail; refine hK.out _ _ hbx (fun _ => ?_))
          clear hK K
          (try simp only [Act.put, List.setIfInBounds_toArray, List.set_cons_zero, List.set_cons_succ])
          refine seq_end ?_
          go_wp2_with fail
          go_roundg (gk - 1)
          case measure => omega
          case rel => exact ⟨i + 1, _, by omega, by first | rfl | go_num, hown.mono (by omega), hSD2, hbr2, hbe⟩
      · have q3 : (y.tree == t) = false := by simp [q]
        have hSD2 : Hid (Says D (fun x => behindE (e.nodes.take (i + 1)) t x)) := Lib.hid (hSD.out.of fun x => by rw [HT.out, behind_snoc]; simp [q])
        clear hSD q
        go_wp2_with fail
        go_roundg (gk - 1)
        case measure => omega
        case rel => exact ⟨i + 1, D, by omega, by first | rfl | go_num, hown.mono (by omega), hSD2, hbr2, hbe⟩
    · have hz : ¬ (i : Int) < (e.nodes.length : Int) := by omega
      have hS2 : Hid (Says D (fun x => behindE e.nodes t x)) := Lib.hid (by have h10 := hSD.out; rw [List.take_of_length_le (by omega)] at h10; exact h10)
      replace hE := hE.below hbr
      have hbr0 := hbf.trans (hbr.mono hbf.size)
      clear hSD hi hil
      obtain ⟨ww, hww⟩ : ∃ x, x = wr := ⟨_, rfl⟩
      subst hww
      go_wp2_with fail
      (try go_step3)
      (try go_wp2_with fail)
      clear hz
      obtain ⟨go1, hgo⟩ : ∃ go, go = gk := ⟨_, rfl⟩
      subst hgo
      go_loopg [38] e.nodes.length (fun gg iv wr => ∃ (i : Nat), i + gg = e.nodes.length ∧ iv = .int .i64 (i : Int) ∧ Hid (∀ j (hj : j < i) (hj2 : j < e.nodes.length), (decide (e.nodes[j].tree = t) && !behindE e.nodes t e.nodes[j].node) = false) ∧ Below ww.heap.size ww wr)
      case atStart => exact ⟨0, by omega, rfl, Lib.hid (fun j hj => absurd hj (Nat.not_lt_zero _)), Below.refl _ _⟩
      case round =>
        obtain ⟨i, hi, rfl, hA, hbq⟩ := hrel
        by_cases hil : i < e.nodes.length
        · have hz : (i : Int) < (e.nodes.length : Int) := by omega
          have hz0 : (0 : Int) ≤ (i : Int) := by omega
          obtain ⟨b, off, rfl⟩ := h2.addr hil
          obtain ⟨y, hy⟩ : ∃ y, e.nodes[i] = y := ⟨_, rfl⟩
          obtain ⟨c0, c1, c2, c3, c4, c5, c6, c7⟩ := RowC.c8 h2 (hbr0.trans (hbq.mono hbr0.size)) hil y hy
          have hyw := h8 y (by rw [← hy]; exact List.getElem_mem hil)
          have hy2 := Lib.hid hy
          clear hy
          obtain ⟨w2, hwE⟩ : ∃ W, W = wr.alloc (.cells #[.int .i64 y.tree, .int .i64 y.node, .int .i64 y.feat, .int .i64 y.mode, .int .u64 (y.val : Int), .int .i64 y.tru, .int .i64 y.fls, .bool y.trk] 33) := ⟨_, rfl⟩
          have hb2 : Below wr.heap.size wr w2 := by rw [hwE]; exact (Below.refl _ wr).alloc (Nat.le_refl _) _
          obtain ⟨px, hpE⟩ : ∃ p, p = wr.heap.size := ⟨_, rfl⟩
          have hbx : BoxL w2 px [.int .i64 y.tree, .int .i64 y.node, .int .i64 y.feat, .int .i64 y.mode, .int .u64 (y.val : Int), .int .i64 y.tru, .int .i64 y.fls, .bool y.trk] := by rw [hwE, hpE]; exact BoxL.new wr _ _
          have HW := Lib.hid hwE; clear hwE
          go_upto_region 11 with fail
          rw [← HW.out, ← hpE]
          have Hpx := Lib.hid (Nat.le_of_eq hpE.symm)
          clear HW hpE
          have hbq2 := hbq.trans (hb2.mono hbq.size)
          have hown2 : w2.ownsMap Tryz.prog 3 (plainElem (H := Unit) Tryz.prog 4) pm _ D := hown.kept (row := none) (grown_of_below hbq2) (by simp)
          have hend := fun (r : Bool) (hr : (decide (y.tree = t) && !behindE e.nodes t y.node) = r) => (show (decide (e.nodes[i].tree = t) && !behindE e.nodes t e.nodes[i].node) = r by rw [hy2.out]; exact hr)
          obtain ⟨c, hrun, hat⟩ := lookup_bool hown2 law_int Tryz.underlying77 Tryz.underlying4 (zero_bool _) (key_int hyw.node)
          have hc : c = behindE e.nodes t y.node := by have h10 := hS2.out.2 y.node; rw [hat] at h10; injection h10 with h11; injection h11
          have hA2 : (decide (y.tree = t) && !behindE e.nodes t y.node) = false → Hid (∀ j (hj : j < i + 1) (hj2 : j < e.nodes.length), (decide (e.nodes[j].tree = t) && !behindE e.nodes t e.nodes[j].node) = false) := fun hr => Lib.hid fun j hj hj2 => by
            by_cases ej : j = i
            · subst ej; exact hend _ hr
            · exact hA.out j (by omega) hj2
          rw [← hc] at hend hA2
          clear hat hown2 hc
          have x0 := hbx.cell 0 _ rfl
          have x1 := hbx.cell 1 _ rfl
          by_cases q : y.tree = t
          · rw [q] at x0
            cases c with
            | true =>
              have hA3 := hA2 (by simp)
              clear hA2 hend hA q
              go_wp2_with fail
              go_roundg (gk - 1)
              case measure => omega
              case rel => exact ⟨i + 1, by omega, by first | rfl | go_num, hA3, hbq2⟩
            | false =>
              have hr : rootE e.nodes t = some i := find_hit hil (hend true (by simp [q])) (fun j hj => hA.out j hj (by omega))
              have hg1 : g = i := by rw [← hg.out, hr]; rfl
              have hi1 : i9 = true := by rw [← hi9.out, hr]; rfl
              subst hg1 hi1
              clear hA2 hend hA q hr hg hi9
              go_wp2_with fail
              rw [Exit.noGoto_ret]
              exact bodyPost_ret (v := .tuple #[.int .i64 g, .bool true]) (by simp [results, Tryz.results15, go_sem]) rfl ⟨rfl, hbr0.trans (hbq2.mono hbr0.size)⟩
          · have q3 : (y.tree != t) = true := by simp [q]
            have hA3 := hA2 (by simp [q])
            clear hA2 hend hA q
            go_wp2_with fail
            go_roundg (gk - 1)
            case measure => omega
            case rel => exact ⟨i + 1, by omega, by first | rfl | go_num, hA3, hbq2⟩
        · have hz : ¬ (i : Int) < (e.nodes.length : Int) := by omega
          have hr : rootE e.nodes t = none := find_miss (fun j hj => hA.out j (by omega) hj)
          have hg1 : g = 0 := by rw [← hg.out, hr]; rfl
          have hi1 : i9 = false := by rw [← hi9.out, hr]; rfl
          subst hg1 hi1
          clear hA hr hg hi9
          go_wp2_with fail
          exact bodyPost_ret (v := .tuple #[.int .i64 ((0 : Nat) : Int), .bool false]) (by simp [results, Tryz.results15, go_sem]) rfl ⟨rfl, hbr0.trans (hbq.mono hbr0.size)⟩
end Go.Proofs.YtieffhkfefimeaaGreat
