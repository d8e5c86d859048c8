/-
  pmsg: walks (6): each, and what its iterator tells.
-/
import Derived.Test.YtjcldnkgidfifaaPmE
import Derived.Test.YtjcldnkgidfifaaSeqJ
namespace Go.Proofs.Ytjcldnkgidfifaa
open Go.RowKit Go.Shelf
set_option linter.unusedVariables false
set_option linter.unusedSimpArgs false
attribute [local go_sem] Oper.semAt_some

/-- Blocks stay as they are. -/
def KeepP (P : Nat → Prop) (A C : World) : Prop := ∀ k, P k → k < A.heap.size → C.heap[k]? = A.heap[k]?
theorem KeepP.trans {P : Nat → Prop} {A C D : World} (h : KeepP P A C) (h' : KeepP P C D) : KeepP P A D := fun k hk hlt => by
  have h1 := h k hk hlt
  have h2 : A.heap[k]? = some (A.heap[k]'hlt) := Array.getElem?_eq_getElem hlt
  exact (h' k hk (by rw [← h1] at h2; exact (Array.getElem?_eq_some_iff.1 h2).1)).trans h1
theorem KeepP.ext {P : Nat → Prop} {B : Nat} {A C : World} (hP : ∀ k, P k → k < B) (h : Ext B A C) : KeepP P A C := fun k hk hlt => h.low k (hP k hk) hlt
theorem KeepP.below {P : Nat → Prop} {A C : World} (h : Below A.heap.size A C) : KeepP P A C := fun k _ hlt => h.block k hlt
def itemsE (l : List (Fld × Int)) (num : Int) : List (Fld × Int) := l.filter fun x => decide ((x.1.num : Int) = num)
theorem itemsE_yes {l : List (Fld × Int)} {num : Int} {i : Nat} (h : i < l.length) (hn : ((l[i]'h).1.num : Int) = num) : itemsE (l.take (i + 1)) num = itemsE (l.take i) num ++ [l[i]'h] := by
  unfold itemsE; rw [List.take_succ_eq_append_getElem h, List.filter_append]; simp [hn]
theorem itemsE_no {l : List (Fld × Int)} {num : Int} {i : Nat} (h : i < l.length) (hn : ¬ ((l[i]'h).1.num : Int) = num) : itemsE (l.take (i + 1)) num = itemsE (l.take i) num := by
  unfold itemsE; rw [List.take_succ_eq_append_getElem h, List.filter_append]; simp [hn]
theorem itemsE_prefix (l : List (Fld × Int)) (num : Int) (i : Nat) : itemsE (l.take i) num <+: itemsE l num := by
  refine ⟨itemsE (l.drop i) num, ?_⟩
  unfold itemsE
  rw [← List.filter_append, List.take_append_drop]
abbrev mfV (x : Fld × Int) : Value := .agg #[.int .i64 (x.1.num : Int), .int .i64 (x.1.kind : Int), .int .i64 (x.1.place : Int), .int .u64 (x.1.val : Int), .string ⟨x.1.data.toArray⟩, .int .i64 x.2]
def MEnc (_ : World) (v : Array Value) (x : Fld × Int) : Prop := v = #[mfV x]
theorem enters_meach1 : ∀ args w, (callFunc 52 args).run Try.prog w = .ok (.enter 52 args) w := enters_of Try.func52 (by kernel_rfl) rfl
theorem meach_any (mo : Option Addr) (num : Int) (w : World) : Calls Try.prog 42 #[.pointer mo, .int .i64 num] w fun e w' => e = .returned (.func (.func 52) #[] #[.pointer (some ⟨w.heap.size, 0, none⟩), .pointer (some ⟨w.heap.size + 1, 0, none⟩)]) ∧ w' = (w.alloc (.cells #[.pointer mo] 31)).alloc (.cells #[.int .i64 num] 3) := by
  go_enter Try.func42, Try.ntmps42
  go_wp2_with fail
  go_ret
  exact ⟨rfl, rfl⟩
set_option maxRecDepth 100000 in
set_option maxHeartbeats 4000000 in
theorem meach1_nil (num : Int) (bm bn B : Nat) (P : Nat → Prop) (w : World) (hcm : w.cell? ⟨bm, 0, none⟩ = some (.pointer none)) :
    IterA Try.prog 52 #[.pointer (some ⟨bm, 0, none⟩), .pointer (some ⟨bn, 0, none⟩)] MEnc [] B (KeepP P) w := by
  intro l9 J Jx S0 W1 hW1 hS0 hJ hJx hY h0
  have hc1 := (hW1.cell (p := ⟨bm, 0, none⟩) (World.block_lt_of_cell? w ⟨bm, 0, none⟩ hcm)).trans hcm
  refine callsIn_of_wp Try.func52 rfl (by trivial) ?_ rfl
  simp only [IterArgs, Try.ntmps52, List.size_toArray, List.length_cons, List.length_nil, Nat.reduceAdd, Nat.reduceSub, Array.replicate_succ, Array.replicate_zero, List.push_toArray, List.append_toArray, List.nil_append, List.cons_append]
  gi_wp2_with fail
  (try simp only [Exit.inBlock, Exit.then])
  refine bodyPost_ret (results_none rfl _ _ _) rfl ?_
  exact ⟨⟨_, rfl⟩, .inl ⟨S0, h0, Foot.refl _ _⟩⟩
set_option maxRecDepth 100000 in
set_option maxHeartbeats 4000000 in
theorem meach1_iter (B0 pm : Nat) (v : Value) (l : List (Fld × Int)) (e num : Int) (bm bn B : Nat) (w : World) (hm : MsgAt B0 w pm v l e) (hcm : w.cell? ⟨bm, 0, none⟩ = some (.pointer (some ⟨pm, 0, none⟩))) (hcn : w.cell? ⟨bn, 0, none⟩ = some (.int .i64 num)) (hll : l.length ≤ 1000000) :
    IterA Try.prog 52 #[.pointer (some ⟨bm, 0, none⟩), .pointer (some ⟨bn, 0, none⟩)] MEnc (itemsE l num) B (KeepP fun k => Ow pm v k ∨ k = bm ∨ k = bn) w := by
  intro l9 J Jx S0 W1 hW1 hS0 hJ hJx hY h0
  have hm1 := hm.kept hW1
  have hc1 := (hW1.cell (p := ⟨bm, 0, none⟩) (World.block_lt_of_cell? w ⟨bm, 0, none⟩ hcm)).trans hcm
  have hc2 := (hW1.cell (p := ⟨bn, 0, none⟩) (World.block_lt_of_cell? w ⟨bn, 0, none⟩ hcn)).trans hcn
  have hlbn := World.block_lt_of_cell? W1 ⟨bn, 0, none⟩ hc2
  obtain ⟨ao, cap, rfl, hca1, hca2, hnil⟩ := hm1.row.slice
  have em0 := hm1.box.cell 0 _ rfl
  have hrow := hm1.row
  clear hm hcm hcn hm1
  refine callsIn_of_wp Try.func52 rfl (by trivial) ?_ rfl
  simp only [IterArgs, Try.ntmps52, List.size_toArray, List.length_cons, List.length_nil, Nat.reduceAdd, Nat.reduceSub, Array.replicate_succ, Array.replicate_zero, List.push_toArray, List.append_toArray, List.nil_append, List.cons_append]
  gi_wp2_with fail
  gi_loopg [13] l.length (fun g iv wr => ∃ (i : Nat) (S : Nat → Prop), iv = .int .i64 (i : Int) ∧ i + g = l.length ∧ J (itemsE (l.take i) num) S wr ∧ Top S wr ∧ Foot S0 S W1 wr ∧ KeepP (fun k => Ow pm (.slice ao l.length cap) k ∨ k = bm ∨ k = bn) W1 wr)
  case atStart => exact ⟨0, S0, rfl, by omega, h0, fun k hk => (hS0 k hk).2, Foot.refl _ _, fun _ _ _ => rfl⟩
  clear hc1 em0
  case round =>
    obtain ⟨i, S, rfl, hi, hJs, hT, hF, hK⟩ := hrel
    by_cases hil : i < l.length
    · obtain ⟨g, rfl, hgB, hgw, hcell⟩ := hrow.mcell hil
      have HY := itemsE_yes (num := num) hil
      have HN := itemsE_no (num := num) hil
      have HPX := Lib.hid (itemsE_prefix l num (i + 1))
      obtain ⟨⟨f, dp⟩, hf⟩ : ∃ x, x = l[i]'hil := ⟨_, rfl⟩
      rw [← hf] at hcell HY HN
      clear hf
      have HY2 := Lib.hid HY
      have HN2 := Lib.hid HN
      clear HY HN
      have hgk : wr.heap[g]? = W1.heap[g]? := hK g (.inl (.inr rfl)) hgw
      have hnk : wr.heap[bn]? = W1.heap[bn]? := hK bn (.inr (.inr rfl)) hlbn
      have e0 := (World.cell?_of_block (a := ⟨g, i * 6, none⟩) hgk).trans (hcell 0 _ rfl)
      have e1 := (World.cell?_of_block (a := ⟨g, i * 6 + 1, none⟩) hgk).trans (hcell 1 _ rfl)
      have e2 := (World.cell?_of_block (a := ⟨g, i * 6 + 2, none⟩) hgk).trans (hcell 2 _ rfl)
      have e3 := (World.cell?_of_block (a := ⟨g, i * 6 + 3, none⟩) hgk).trans (hcell 3 _ rfl)
      have e4 := (World.cell?_of_block (a := ⟨g, i * 6 + 4, none⟩) hgk).trans (hcell 4 _ rfl)
      have e5 := (World.cell?_of_block (a := ⟨g, i * 6 + 5, none⟩) hgk).trans (hcell 5 _ rfl)
      have en := (World.cell?_of_block (a := ⟨bn, 0, none⟩) hnk).trans hc2
      clear hgk hnk hcell
      have q1 : (i : Int) < (l.length : Int) := by omega
      have q2 : (0 : Int) ≤ (i : Int) := by omega
      obtain ⟨w2, hw2⟩ : ∃ w2, w2 = wr.alloc (.cells #[.int .i64 (f.num : Int), .int .i64 (f.kind : Int), .int .i64 (f.place : Int), .int .u64 (f.val : Int), .string ⟨f.data.toArray⟩, .int .i64 dp] 81) := ⟨_, rfl⟩
      have hb2 : Below wr.heap.size wr w2 := by rw [hw2]; exact (Below.refl _ _).alloc (Nat.le_refl _) _
      have en2 := (hb2.cell (p := ⟨bn, 0, none⟩) (World.block_lt_of_cell? wr ⟨bn, 0, none⟩ en)).trans en
      rw [hw2] at en2
      have HW := Lib.hid hw2
      clear hw2
      have hJ2 := hJ _ _ _ _ hJs hb2
      have hT2 : Top S w2 := fun k hk => Nat.lt_of_lt_of_le (hT k hk) hb2.size
      have hF2 := hF.trans (Foot.of_below (S := S) hb2)
      have hK2 := hK.trans (KeepP.below hb2)
      by_cases hn : (f.num : Int) = num
      · have hnb : ((f.num : Int) == num) = true := by rw [beq_iff_eq]; exact hn
        have hx := HY2.out hn
        rw [hx] at HPX
        obtain ⟨fn, tmps, assign, body, hy, hR⟩ := hY (itemsE (l.take i) num) (f, dp) _ S w2 hJ2 rfl HPX.out
        have HX := Lib.hid hx
        clear hx
        replace hy : (Instr.yield l9 #[.agg #[.int .i64 (f.num : Int), .int .i64 (f.kind : Int), .int .i64 (f.place : Int), .int .u64 (f.val : Int), .string ⟨f.data.toArray⟩, .int .i64 dp]]).run Try.prog w2 = _ := hy
        rw [HW.out] at hy
        clear HY2 HN2 hn
        gi_wp2_with fail
        rw [← HW.out]
        refine ⟨rfl, hR.mono ?_⟩
        rintro e W3 (⟨rfl, S3, hJ3, hF3, hT3, hK3⟩ | ⟨rfl, S3, hJ3, hF3⟩)
        · clear e0 e1 e2 e3 e4 e5 en en2 hnb
          gi_wp2
          gi_roundg (gk - 1)
          case measure => omega
          case rel => exact ⟨i + 1, S3, by go_num, by omega, by rw [HX.out]; exact hJ3, hT3, hF2.trans hF3, hK2.trans hK3⟩
        · clear e0 e1 e2 e3 e4 e5 en en2 hnb
          gi_wp2
          (try simp only [Exit.inBlock, Exit.then])
          refine bodyPost_ret (results_none rfl _ _ _) rfl ?_
          exact ⟨⟨_, rfl⟩, .inr ⟨_, S3, HPX.out, hJ3, hF2.trans hF3⟩⟩
      · have hnb : ((f.num : Int) == num) = false := by rw [beq_eq_false_iff_ne]; exact hn
        have hx := HN2.out hn
        have HX := Lib.hid hx
        clear hx HY2 HN2 hn
        gi_wp2_with fail
        refine ⟨fun _ h => (by cases h), ?_⟩
        rw [← HW.out]
        clear e0 e1 e2 e3 e4 e5 en en2 hnb
        gi_wp2_with fail
        gi_roundg (gk - 1)
        case measure => omega
        case rel => exact ⟨i + 1, S, by go_num, by omega, by rw [HX.out]; exact hJ2, hT2, hF2, hK2⟩
    · have q1 : ¬ (i : Int) < (l.length : Int) := by omega
      have htk : l.take i = l := List.take_of_length_le (by omega)
      rw [htk] at hJs
      clear htk
      gi_wp2_with fail
      go_end0
      exact ⟨⟨_, rfl⟩, .inl ⟨S, hJs, hF⟩⟩
end Go.Proofs.Ytjcldnkgidfifaa
