/-
  onnx: Find, Trees.
-/
import Derived.Test.YtieffhkfefimeaaGreatOnxA
import Derived.Test.YtieffhkfefimeaaGreatSortN
import Derived.Sort.OwnSortedInts
namespace Go.Proofs.YtieffhkfefimeaaGreat
open Go.RowKit
set_option linter.unusedVariables false
set_option linter.unusedSimpArgs false

set_option maxRecDepth 100000 in
theorem find1_any (x : EN) (t n : Int) (pt pn : Nat) (w : World) (ht : w.cell? ⟨pt, 0, none⟩ = some (.int .i64 t)) (hn : w.cell? ⟨pn, 0, none⟩ = some (.int .i64 n)) (r : Bool) (hr : Hid ((decide (x.tree = t) && decide (x.node = n)) = r)) :
    Calls Tryz.prog 52 #[.agg (enC x).toArray, .pointer (some ⟨pt, 0, none⟩), .pointer (some ⟨pn, 0, none⟩)] w fun e w' => e = .returned (.bool r) ∧ Below w.heap.size w w' := by
  unfold enC
  obtain ⟨x0, x1, x2, x3, x4, x5, x6, x7⟩ := x
  have ht2 := World.block_lt_of_cell? w ⟨pt, 0, none⟩ ht
  have hn2 := World.block_lt_of_cell? w ⟨pn, 0, none⟩ hn
  by_cases q : x0 = t
  · by_cases q2 : x1 = n
    · have hr2 : r = true := by rw [← hr.out]; simp [q, q2]
      subst q q2 hr2; clear hr
      go_enter Tryz.func52, Tryz.ntmps52
      go_wp2_with fail
      go_ret
      exact ⟨rfl, (Below.refl _ w).alloc (Nat.le_refl _) _⟩
    · have hr2 : r = false := by rw [← hr.out]; simp [q, q2]
      subst q hr2; clear hr
      have q3 : (x1 == n) = false := by simp [q2]
      go_enter Tryz.func52, Tryz.ntmps52
      go_wp2_with fail
      go_ret
      exact ⟨rfl, (Below.refl _ w).alloc (Nat.le_refl _) _⟩
  · have hr2 : r = false := by rw [← hr.out]; simp [q]
    subst hr2; clear hr
    have q3 : (x0 == t) = false := by simp [q]
    go_enter Tryz.func52, Tryz.ntmps52
    go_wp2_with fail
    go_ret
    exact ⟨rfl, (Below.refl _ w).alloc (Nat.le_refl _) _⟩
theorem enter_find1 : ∀ args w, (callFunc 52 args).run Tryz.prog w = .ok (.enter 52 args) w := enters_of Tryz.func52 (by kernel_rfl) rfl
theorem fidx_get (o : Option Nat) : IntKind.i64.wrap 0 = 0 ∧ max (fidx o) 0 = ((o.getD 0 : Nat) : Int) ∧ decide (0 ≤ fidx o) = o.isSome := by
  refine ⟨by decide, ?_, ?_⟩
  · cases o with
    | none => rfl
    | some k => rw [show fidx (some k) = (k : Int) from rfl]; simp only [Option.getD_some]; omega
  · cases o with
    | none => rfl
    | some k => rw [show fidx (some k) = (k : Int) from rfl]; simp
set_option maxRecDepth 100000 in
set_option maxHeartbeats 1000000 in
/-- Find. -/
theorem find_any (v : Value) (e : EE) (bo : Option Addr) (bc : Nat) (no : Option Addr) (nc : Nat) (lo : Option Addr) (lc : Nat) (t n : Int) (w : World) (h : EnsIs w v e bo bc no nc lo lc) (g : Nat) (i : Bool) (hg : Hid ((findE e.nodes t n).getD 0 = g)) (hi : Hid ((findE e.nodes t n).isSome = i)) :
    Calls Tryz.prog 17 #[v, .int .i64 t, .int .i64 n] w fun e_1 w' => e_1 = .returned (.tuple #[.int .i64 (g : Int), .bool i]) ∧ Below w.heap.size w w' := by
  obtain ⟨rfl, h1, h2, h4, h5, h3, h6, h7, h8, h9⟩ := h
  obtain ⟨w0, hw0⟩ : ∃ w0, w0 = (((w.alloc (.cells #[.int .i64 e.feats, .int .i64 e.tgts, .string ⟨e.agg.toArray⟩, .string ⟨e.post.toArray⟩, .slice bo e.base.length bc, .slice no e.nodes.length nc, .slice lo e.leaves.length lc] 26)).alloc (.cells #[.int .i64 t] 3)).alloc (.cells #[.int .i64 n] 3)) := ⟨_, rfl⟩
  have hbf : Below w.heap.size w w0 := by rw [hw0]; exact ((((Below.refl _ w).alloc (Nat.le_refl _) _).alloc (by simp <;> omega) _).alloc (by simp <;> omega) _)
  obtain ⟨pe, hpe⟩ : ∃ p, p = w.heap.size := ⟨_, rfl⟩
  have hbe : BoxL w0 pe [.int .i64 e.feats, .int .i64 e.tgts, .string ⟨e.agg.toArray⟩, .string ⟨e.post.toArray⟩, .slice bo e.base.length bc, .slice no e.nodes.length nc, .slice lo e.leaves.length lc] := by rw [hw0, hpe]; exact BoxL.of7 (by go_simp) (by go_simp) (by go_simp) (by go_simp) (by go_simp) (by go_simp) (by go_simp) (by go_simp) (by go_simp) (by go_simp) (by go_simp) (by go_simp) (by go_simp) (by go_simp)
  obtain ⟨pt, hpt⟩ : ∃ p, p = w.heap.size + 1 := ⟨_, rfl⟩
  have hbt : Box w0 pt (Value.int .i64 t) := by rw [hw0, hpt]; exact ⟨by go_simp, by go_simp, by simp <;> omega⟩
  obtain ⟨pn, hpn⟩ : ∃ p, p = w.heap.size + 1 + 1 := ⟨_, rfl⟩
  have hbn : Box w0 pn (Value.int .i64 n) := by rw [hw0, hpn]; exact ⟨by go_simp, by go_simp, by simp <;> omega⟩
  have HP : Hid (w.heap.size ≤ pe ∧ pe < pt ∧ pt < pn) := Lib.hid (by omega)
  have HW := Lib.hid hw0; clear hw0
  go_enter Tryz.func17, Tryz.ntmps17
  go_upto_region 1 with fail
  rw [← HW.out, ← hpn, ← hpt, ← hpe]
  clear hpe hpt hpn HW
  have ee0 := hbe.cell 0 _ rfl
  have ee1 := hbe.cell 1 _ rfl
  have ee2 := hbe.cell 2 _ rfl
  have ee3 := hbe.cell 3 _ rfl
  have ee4 := hbe.cell 4 _ rfl
  have ee5 := hbe.cell 5 _ rfl
  have ee6 := hbe.cell 6 _ rfl
  have hcall := idx_en (fun y => decide (y.tree = t) && decide (y.node = n)) 52 #[.pointer (some ⟨pt, 0, none⟩), .pointer (some ⟨pn, 0, none⟩)] enter_find1 no nc e.nodes w0 _ (fun W x hx hb => find1_any x t n pt pn W ((hbt.kept hb).cell) ((hbn.kept hb).cell) _ (Lib.hid rfl)) (h2.below (B := 0) hbf) h3 (Lib.hid rfl)
  obtain ⟨q1, q2, q3⟩ := fidx_get (findE e.nodes t n)
  rw [hg.out] at q2
  rw [hi.out] at q3
  change Calls _ _ _ _ (fun e_1 w' => e_1 = .returned (.int .i64 (fidx (findE e.nodes t n))) ∧ _) at hcall
  generalize fidx (findE e.nodes t n) = r9 at q2 q3 hcall
  clear hg hi q1
  go_wp2_with (go_at_call 51; refine hcall.mono ?_; rintro e w1 ⟨rfl, hb1⟩)
  exact bodyPost_ret (v := .tuple #[.int .i64 g, .bool i]) (by simp [results, Tryz.results17, go_sem]) rfl ⟨rfl, hbf.trans (hb1.mono hbf.size)⟩
section
open Go.Sort Go.Proofs
theorem grow_none (w : World) : grow w #[] = w := by simp [grow]
theorem below_own {B : Nat} {w w' : World} {g : Nat} (h : w.grownBy w' (some g)) (hg : B ≤ g) : w.heap.size ≥ B → Below B w w' := fun hB =>
  ⟨h.os, h.tape, h.output, h.size, fun k hk => h.block k (by omega) (by simp; omega)⟩
/-- slices.Sort of numbers of the call's own. -/
theorem sort_own {B : Nat} {w : World} {v : Value} {ns : List Int} (hO : Owns B 3 w v (ivals .i64 ns)) (hl : ns.length ≤ 1000000) (hB : B ≤ w.heap.size) :
    Calls Tryz.prog 48 #[v] w fun e w' => e = .returned (.tuple #[]) ∧ Owns B 3 w' v (ivals .i64 (ns.mergeSort fun x y => decide (x ≤ y))) ∧ Below B w w' := by
  have hlen : (ivals .i64 ns).length = ns.length := ivals_length _ _
  obtain ⟨h1, ⟨rfl, hn⟩ | ⟨g, cap, cur, rfl, h2, h3, h4, h5, h6, h7⟩⟩ := hO
  · rw [hlen] at hn
    have : ns = [] := List.eq_nil_of_length_eq_zero hn
    subst this
    refine (Tryz.slices_Sort_int_none none 0 w).mono ?_
    rintro e w' ⟨rfl, rfl⟩
    exact ⟨rfl, by simpa [ivals] using Owns.nil B 3 _, Below.refl _ _⟩
  · rw [hlen] at h4 h7 ⊢
    have hgl := (Array.getElem?_eq_some_iff.1 h3).1
    refine (Tryz.slices_Sort_int g 0 cap ns w (holds_of_blockI h3 (by simpa [ivals] using h7)) hgl (by omega)).mono ?_
    rintro e w' ⟨rfl, n, os, rfl⟩
    refine ⟨rfl, ?_, below_own (grownBy_sortedI _) h2 hB⟩
    have := ownsRow_sortedI (w := w) (n := n) (os := os) (ss := ns) (ts := ns.mergeSort fun x y => decide (x ≤ y)) (by simp) h2 h3 h4 h5 h6
    unfold Owns
    rw [ivals_length, List.length_mergeSort]
    exact this
theorem Owns.prefix {B : Nat} {e : TypeId} {w : World} {g n cap : Nat} {xs ys : List Value} (h : World.ownsRow w B e 1 (.slice (some ⟨g, 0, none⟩) n cap) n (xs ++ ys)) : Owns B e w (.slice (some ⟨g, 0, none⟩) xs.length cap) xs := by
  obtain ⟨h1, ⟨h, _⟩ | ⟨g', cap', cur, h0, h2, h3, h4, h5, h6, h7⟩⟩ := h
  · cases h
  · cases h0
    simp only [List.length_append, Nat.mul_one] at h1 h7
    refine ⟨by simp, .inr ⟨g, cap, cur, rfl, h2, h3, by omega, h5, h6, ?_⟩⟩
    have h8 : (cur.toList.take n).take xs.length = (xs ++ ys).take xs.length := by rw [h7]
    rw [List.take_take, List.take_left, Nat.min_eq_left (by omega)] at h8
    rw [Nat.mul_one]; exact h8
/-- slices.Compact of numbers of the call's own. -/
theorem compact_own {B : Nat} {w : World} {v : Value} {ns : List Int} (hO : Owns B 3 w v (ivals .i64 ns)) (hl : ns.length ≤ 1000000) (hB : B ≤ w.heap.size) :
    Calls Tryz.prog 49 #[v] w fun e w' => ∃ v', e = .returned v' ∧ Owns B 3 w' v' (ivals .i64 (Go.Lib.compact ns)) ∧ Below B w w' := by
  have hlen : (ivals .i64 ns).length = ns.length := ivals_length _ _
  obtain ⟨h1, ⟨rfl, hn⟩ | ⟨g, cap, cur, rfl, h2, h3, h4, h5, h6, h7⟩⟩ := hO
  · rw [hlen] at hn
    have : ns = [] := List.eq_nil_of_length_eq_zero hn
    subst this
    refine (Tryz.slices_Compact_int_empty none 0 w).mono ?_
    rintro e w' ⟨rfl, rfl⟩
    have e0 : Go.Lib.compact ([] : List Int) = [] := by decide
    exact ⟨_, rfl, by rw [e0]; exact Owns.nil B 3 _, Below.refl _ _⟩
  · rw [hlen] at h4 h7 ⊢
    have hgl := (Array.getElem?_eq_some_iff.1 h3).1
    have hcl := Go.Lib.compact_length_le ns
    refine (Tryz.slices_Compact_int g 0 cap ns w (holds_of_blockI h3 (by simpa [ivals] using h7)) (by omega) h4).mono ?_
    rintro e w' ⟨rfl, q, rfl⟩
    have := ownsRow_sortedI (w := w) (n := q) (os := #[]) (ss := ns) (ts := Go.Lib.compact ns ++ List.replicate (ns.length - (Go.Lib.compact ns).length) 0) (by simp; omega) h2 h3 h4 h5 h6
    rw [grow_none] at this
    refine ⟨_, rfl, ?_, ?_⟩
    · rw [List.map_append] at this
      have h9 := Owns.prefix this
      rw [List.length_map] at h9
      exact h9
    · have h9 := grownBy_sortedI (w := w) (g := g) (n := q) (os := #[]) (Go.Lib.compact ns ++ List.replicate (ns.length - (Go.Lib.compact ns).length) 0).toArray
      rw [grow_none] at h9
      exact below_own h9 h2 hB
end
set_option maxRecDepth 100000 in
set_option maxHeartbeats 1000000 in
/-- Trees. -/
theorem trees_any (v : Value) (e : EE) (bo : Option Addr) (bc : Nat) (no : Option Addr) (nc : Nat) (lo : Option Addr) (lc : Nat) (w : World) (h : EnsIs w v e bo bc no nc lo lc) (hlim : e.nodes.length ≤ 100000) :
    Calls Tryz.prog 11 #[v] w fun e_1 w' => ∃ r, e_1 = .returned r ∧ Owns w.heap.size 3 w' r (ivals .i64 (treesE e.nodes)) ∧ Below w.heap.size w w' := by
  obtain ⟨rfl, h1, h2, h4, h5, h3, h6, h7, h8, h9⟩ := h
  obtain ⟨w0, hw0⟩ : ∃ w0, w0 = (w.alloc (.cells #[.int .i64 e.feats, .int .i64 e.tgts, .string ⟨e.agg.toArray⟩, .string ⟨e.post.toArray⟩, .slice bo e.base.length bc, .slice no e.nodes.length nc, .slice lo e.leaves.length lc] 26)) := ⟨_, rfl⟩
  have hbf : Below w.heap.size w w0 := by rw [hw0]; exact ((Below.refl _ w).alloc (Nat.le_refl _) _)
  obtain ⟨pe, hpe⟩ : ∃ p, p = w.heap.size := ⟨_, rfl⟩
  have hbe : BoxL w0 pe [.int .i64 e.feats, .int .i64 e.tgts, .string ⟨e.agg.toArray⟩, .string ⟨e.post.toArray⟩, .slice bo e.base.length bc, .slice no e.nodes.length nc, .slice lo e.leaves.length lc] := by rw [hw0, hpe]; exact BoxL.of7 (by go_simp) (by go_simp) (by go_simp) (by go_simp) (by go_simp) (by go_simp) (by go_simp) (by go_simp) (by go_simp) (by go_simp) (by go_simp) (by go_simp) (by go_simp) (by go_simp)
  have HP : Hid (w.heap.size ≤ pe) := Lib.hid (by omega)
  have HW := Lib.hid hw0; clear hw0
  go_enter Tryz.func11, Tryz.ntmps11
  go_upto_region 1 with fail
  rw [← HW.out, ← hpe]
  clear hpe HW
  have ee5 := hbe.cell 5 _ rfl
  go_wp2_with fail
  go_loopg [3, 9] e.nodes.length (fun gg ov iv wr => ∃ i : Nat, i + gg = e.nodes.length ∧ iv = .int .i64 (i : Int) ∧ Owns w0.heap.size 3 wr ov (ivals .i64 ((e.nodes.take i).map (·.tree))) ∧ Below w0.heap.size w0 wr)
  case atStart => exact ⟨0, by omega, rfl, by simpa [ivals] using Owns.nil _ _ _, Below.refl _ _⟩
  case round =>
    obtain ⟨i, hi, rfl, hO, hbr⟩ := hrel
    replace hbe := hbe.kept hbr
    clear ee5
    have hlen : (ivals .i64 ((e.nodes.take i).map (·.tree))).length = i := by rw [ivals_length, List.length_map, List.length_take]; omega
    by_cases hil : i < e.nodes.length
    · have hz : (i : Int) < (e.nodes.length : Int) := by omega
      have hz0 : (0 : Int) ≤ (i : Int) := by omega
      obtain ⟨b, off, rfl⟩ := h2.addr hil
      obtain ⟨y, hy⟩ : ∃ y, e.nodes[i] = y := ⟨_, rfl⟩
      obtain ⟨c0, c1, c2, c3, c4, c5, c6, c7⟩ := RowC.c8 h2 (hbf.trans (hbr.mono hbf.size)) hil y hy
      have HT : Hid ((e.nodes.take (i + 1)).map (·.tree) = (e.nodes.take i).map (·.tree) ++ [y.tree]) := Lib.hid (by rw [List.take_succ_eq_append_getElem hil, List.map_append, hy]; rfl)
      clear hy
      obtain ⟨w2, hwE⟩ : ∃ W, W = wr.alloc (.cells #[.int .i64 y.tree, .int .i64 y.node, .int .i64 y.feat, .int .i64 y.mode, .int .u64 (y.val : Int), .int .i64 y.tru, .int .i64 y.fls, .bool y.trk] 33) := ⟨_, rfl⟩
      have hb2 : Below wr.heap.size wr w2 := by rw [hwE]; exact (Below.refl _ wr).alloc (Nat.le_refl _) _
      obtain ⟨px, hpE⟩ : ∃ p, p = wr.heap.size := ⟨_, rfl⟩
      have hbx : BoxL w2 px [.int .i64 y.tree, .int .i64 y.node, .int .i64 y.feat, .int .i64 y.mode, .int .u64 (y.val : Int), .int .i64 y.tru, .int .i64 y.fls, .bool y.trk] := by rw [hwE, hpE]; exact BoxL.new wr _ _
      have HW := Lib.hid hwE; clear hwE
      go_upto_region 5 with fail
      rw [← HW.out, ← hpE]
      clear HW hpE
      have hO2 := Owns.kept hO hb2
      have hbr2 := hbr.trans (hb2.mono hbr.size)
      have x0 := hbx.cell 0 _ rfl
      go_wp2_with (at_builtin; refine append1 E_ints hO2 rfl rfl rfl rfl rfl (by rw [hlen]; omega) (by rw [hlen]; unfold maxLen; omega) hbr2.size ?_; intro v6 w6 ho6 hb6 hg6)
      go_roundg (gk - 1)
      case measure => omega
      case rel => exact ⟨i + 1, by omega, by first | rfl | go_num, by rw [HT.out]; simpa [ivals] using ho6, hbr2.trans hb6⟩
    · have hz : ¬ (i : Int) < (e.nodes.length : Int) := by omega
      rw [List.take_of_length_le (by omega)] at hO hlen
      have hS := sort_own hO (by rw [List.length_map]; omega) hbr.size
      go_wp2_with (go_at_call 48; refine hS.mono ?_; rintro e w7 ⟨rfl, hO7, hb7⟩)
      have hC := compact_own hO7 (by rw [List.length_mergeSort, List.length_map]; omega) (Nat.le_trans hbr.size hb7.size)
      go_wp2_with (go_at_call 49; refine hC.mono ?_; rintro e w8 ⟨v8, rfl, hO8, hb8⟩)
      go_ret
      rw [sort_compact] at hO8
      exact ⟨_, rfl, hO8.mono hbf.size, hbf.trans ((hbr.trans (hb7.trans hb8)).mono hbf.size)⟩
end Go.Proofs.YtieffhkfefimeaaGreat
