/-
  pbuf: walks (5): Each, and what its iterator tells.
-/
import Derived.RangeFuncNested
import Derived.RangeFuncBound
import Derived.RangeFuncCalls
import Derived.RangeFuncLeaves
import Derived.Shelf.Abstract
import Derived.Shelf.RegionOpen
import Derived.WalkKit
import Derived.OwnWalkIn
import Derived.TacticsInMore
import Derived.LoopNIn
import Derived.LoopIn
import Derived.Sort.LoopGhostIn
import Derived.Test.YtjcldnkgidfifaaRangeP
import Derived.Test.YtjcldnkgidfifaaPbD
namespace Go.Proofs.Ytjcldnkgidfifaa
open Go.RowKit Go.Shelf
set_option linter.unusedVariables false
set_option linter.unusedSimpArgs false
attribute [local go_sem] Oper.semAt_some

/-- What the iterator tells in one round: a field, and a reason. -/
structure Itm where
  f : Fld
  code : Nat
  place : Nat
  what : List UInt8
def zeroF : Fld := ⟨0, 0, 0, 0, []⟩
abbrev diagV (code place : Int) (what : List UInt8) : Value := .agg #[.int .i64 code, .int .i64 place, .string ⟨what.toArray⟩]
def itmV (x : Itm) : Array Value := #[fldC x.f, diagV x.code x.place x.what]
def ItmEnc (_ : World) (v : Array Value) (x : Itm) : Prop := v = itmV x
def fieldWord : List UInt8 := [102, 105, 101, 108, 100]
def bytesWord : List UInt8 := [98, 121, 116, 101, 115]
/-- What is told from a place on. -/
def itemsW (b : List UInt8) (p : Nat) : List Itm :=
  if h : b.length ≤ p then [] else
  match oneF (b.drop p) 0 with
  | none => [⟨zeroF, 10, p, fieldWord⟩]
  | some (f, k) => ⟨{ f with place := p }, 0, 0, []⟩ :: (if h2 : k = 0 then [] else itemsW b (p + k))
termination_by b.length - p
def itemsF (b : List UInt8) : List Itm := if 60000 < b.length then [⟨zeroF, 2, 0, bytesWord⟩] else itemsW b 0
theorem itemsW_end {b : List UInt8} {p : Nat} (h : b.length ≤ p) : itemsW b p = [] := by rw [itemsW, dif_pos h]
theorem itemsW_bad {b : List UInt8} {p : Nat} (h : p < b.length) (ho : none = oneF (b.drop p) 0) : itemsW b p = [⟨zeroF, 10, p, fieldWord⟩] := by
  rw [itemsW, dif_neg (by omega), ← ho]
theorem itemsW_good {b : List UInt8} {p k : Nat} {f : Fld} (h : p < b.length) (ho : some (f, k) = oneF (b.drop p) 0) : itemsW b p = ⟨{ f with place := p }, 0, 0, []⟩ :: itemsW b (p + k) := by
  have hk := (oneF_lim ho.symm).1
  rw [itemsW, dif_neg (by omega), ← ho]
  simp only []
  rw [dif_neg (by omega)]

set_option maxRecDepth 100000 in
set_option maxHeartbeats 4000000 in
theorem each1_iter (b : List UInt8) (bx B : Nat) (w : World) (hc : w.cell? ⟨bx, 0, none⟩ = some (.string ⟨b.toArray⟩)) (hbl : b.length ≤ 1000000000000) (hBw : B ≤ w.heap.size) :
    IterA Try.prog 55 #[.pointer (some ⟨bx, 0, none⟩)] ItmEnc (itemsF b) B (KeepC bx) w := by
  intro l J Jx S0 W1 hW1 hS0 hJ hJx hY h0
  have hc1 := (hW1.cell (p := ⟨bx, 0, none⟩) (World.block_lt_of_cell? w ⟨bx, 0, none⟩ hc)).trans hc
  refine callsIn_of_wp Try.func55 rfl (by trivial) ?_ rfl
  simp only [IterArgs, Try.ntmps55, List.size_toArray, List.length_cons, List.length_nil, Nat.reduceAdd, Nat.reduceSub, Array.replicate_succ, Array.replicate_zero, List.push_toArray, List.append_toArray, List.nil_append, List.cons_append]
  by_cases hlen : 60000 < b.length
  · have hli : (60000 : Int) < ((b.length : Nat) : Int) := by omega
    have hitems : itemsF b = [⟨zeroF, 2, 0, bytesWord⟩] := by unfold itemsF; rw [if_pos hlen]
    obtain ⟨fn, tmps, assign, body, hy, hR⟩ := hY [] ⟨zeroF, 2, 0, bytesWord⟩ _ S0 W1 h0 rfl (by rw [hitems]; exact List.prefix_refl _)
    have HI := Lib.hid hitems
    clear hitems
    replace hy : (Instr.yield l #[.agg #[.int .i64 0, .int .i64 0, .int .i64 0, .int .u64 0, .string ⟨#[]⟩], .agg #[.int .i64 2, .int .i64 0, .string ⟨#[98, 121, 116, 101, 115]⟩]]).run Try.prog W1 = _ := hy
    gi_wp2
    refine ⟨rfl, hR.mono ?_⟩
    rintro e W3 (⟨rfl, S3, hJ3, hF3, hT3, hK3⟩ | ⟨rfl, S3, hJ3, hF3⟩)
    · gi_wp2
      (try simp only [Exit.inBlock, Exit.then])
      refine bodyPost_ret (results_none rfl _ _ _) rfl ?_
      exact ⟨⟨_, rfl⟩, .inl ⟨S3, by rw [HI.out]; exact hJ3, hF3⟩⟩
    · gi_wp2
      (try simp only [Exit.inBlock, Exit.then])
      refine bodyPost_ret (results_none rfl _ _ _) rfl ?_
      exact ⟨⟨_, rfl⟩, .inr ⟨_, S3, by rw [HI.out]; exact List.prefix_refl _, hJ3, hF3⟩⟩
  · have hli : ¬ (60000 : Int) < ((b.length : Nat) : Int) := by omega
    have hitems : itemsF b = itemsW b 0 := by unfold itemsF; rw [if_neg hlen]
    have HI := Lib.hid hitems
    clear hitems
    gi_wp2_with fail
    gi_loopg [3] b.length (fun g p wr => ∃ (at9 : Nat) (S : Nat → Prop) (pre : List Itm), p = .int .i64 (at9 : Int) ∧ g + at9 = b.length ∧ J pre S wr ∧ Hid (itemsF b = pre ++ itemsW b at9) ∧ wr.cell? ⟨bx, 0, none⟩ = some (.string ⟨b.toArray⟩) ∧ Top S wr ∧ Foot S0 S W1 wr)
    case atStart => exact ⟨0, S0, [], rfl, by omega, h0, Lib.hid (by rw [HI.out]; rfl), hc1, fun k hk => (hS0 k hk).2, Foot.refl _ _⟩
    case round =>
      obtain ⟨p, S, pre, rfl, hg, hJs, HP, hcr, hT, hF⟩ := hrel
      by_cases hlt : p < b.length
      · have hi1 : (p : Int) < ((b.length : Nat) : Int) := by omega
        have hx := bytes_extract b p b.length
        rw [List.take_length] at hx
        have hdl : (b.drop p).length ≤ 1000000000000 := by rw [List.length_drop]; omega
        have hpi : (p : Int) ≤ ((b.length : Nat) : Int) := by omega
        have hq0 : (0 : Int) ≤ (p : Int) := by omega
        obtain ⟨o, ho⟩ : ∃ o, o = oneF (b.drop p) 0 := ⟨_, rfl⟩
        have HO := Lib.hid ho
        clear ho
        gi_wp2_with fail
        refine ⟨trivial, rfl, callsIn_wide.2 ((one_any (b.drop p) o _ HO hdl).mono ?_)⟩
        rintro e w1 ⟨⟨a1, a2, a3, a4, a5, a6, a7, rfl, h8, h9⟩, hb1⟩
        have H8 := Lib.hid h8
        have H9 := Lib.hid h9
        clear h8 h9
        obtain ⟨w2, hw2⟩ : ∃ w2, w2 = w1.alloc (.cells #[.int .i64 a1, .int .i64 a2, .int .i64 a3, .int .u64 (a4 : Int), .string ⟨a5.toArray⟩] 77) := ⟨_, rfl⟩
        have hb2 : Below w1.heap.size w1 w2 := by rw [hw2]; exact (Below.refl _ _).alloc (Nat.le_refl _) _
        obtain ⟨px, hpx⟩ : ∃ p, p = w1.heap.size := ⟨_, rfl⟩
        have hbx : BoxL w2 px [.int .i64 a1, .int .i64 a2, .int .i64 a3, .int .u64 (a4 : Int), .string ⟨a5.toArray⟩] := by rw [hw2, hpx]; exact BoxL.of5 (by go_simp) (by go_simp) (by go_simp) (by go_simp) (by go_simp) (by go_simp) (by go_simp) (by go_simp) (by go_simp) (by go_simp)
        have hb12 := hb1.trans (hb2.mono hb1.size)
        have hJ2 := hJ _ _ _ _ hJs hb12
        have hc2 := (hb12.cell (p := ⟨bx, 0, none⟩) (World.block_lt_of_cell? wr ⟨bx, 0, none⟩ hcr)).trans hcr
        have hT2 : Top S w2 := fun k hk => Nat.lt_of_lt_of_le (hT k hk) hb12.size
        have hF2 := hF.trans (Foot.of_below (S := S) hb12)
        have hnS : ¬ S px := fun h => by have := hT _ h; have := hb1.size; omega
        have HW := Lib.hid hw2; clear hw2
        cases o with
        | none =>
          obtain rfl := H9.out rfl
          have hit := itemsW_bad hlt HO.out
          have hpre : itemsF b = pre ++ [⟨zeroF, 10, p, fieldWord⟩] := by rw [HP.out, hit]
          obtain ⟨fn, tmps, assign, body, hy, hR⟩ := hY pre ⟨zeroF, 10, p, fieldWord⟩ _ S w2 hJ2 rfl (by rw [hpre]; exact List.prefix_refl _)
          have HPRE := Lib.hid hpre
          clear hit hpre
          replace hy : (Instr.yield l #[.agg #[.int .i64 0, .int .i64 0, .int .i64 0, .int .u64 0, .string ⟨#[]⟩], .agg #[.int .i64 10, .int .i64 (p : Int), .string ⟨#[102, 105, 101, 108, 100]⟩]]).run Try.prog w2 = _ := hy
          rw [HW.out] at hy
          gi_wp2_with fail
          rw [← HW.out]
          refine ⟨rfl, hR.mono ?_⟩
          rintro e W3 (⟨rfl, S3, hJ3, hF3, hT3, hK3⟩ | ⟨rfl, S3, hJ3, hF3⟩)
          · gi_wp2
            (try simp only [Exit.inBlock, Exit.then])
            refine bodyPost_ret (results_none rfl _ _ _) rfl ?_
            exact ⟨⟨_, rfl⟩, .inl ⟨S3, by rw [HPRE.out]; exact hJ3, hF2.trans hF3⟩⟩
          · gi_wp2
            (try simp only [Exit.inBlock, Exit.then])
            refine bodyPost_ret (results_none rfl _ _ _) rfl ?_
            exact ⟨⟨_, rfl⟩, .inr ⟨_, S3, by rw [HPRE.out]; exact List.prefix_refl _, hJ3, hF2.trans hF3⟩⟩
        | some fk =>
          obtain ⟨f, k⟩ := fk
          have h8 := H8.out f k rfl
          obtain ⟨rfl, rfl, rfl, rfl, rfl, rfl, rfl⟩ := h8
          obtain ⟨w3, hw3⟩ : ∃ w3, w3 = w1.alloc (.cells #[.int .i64 (f.num : Int), .int .i64 (f.kind : Int), .int .i64 (p : Int), .int .u64 (f.val : Int), .string ⟨f.data.toArray⟩] 77) := ⟨_, rfl⟩
          have hb13 : Below wr.heap.size wr w3 := by rw [hw3]; exact hb1.trans (((Below.refl _ _).alloc (Nat.le_refl _) _).mono hb1.size)
          have hJ3 := hJ _ _ _ _ hJs hb13
          have hc3 := (hb13.cell (p := ⟨bx, 0, none⟩) (World.block_lt_of_cell? wr ⟨bx, 0, none⟩ hcr)).trans hcr
          have hT3 : Top S w3 := fun k hk => Nat.lt_of_lt_of_le (hT k hk) hb13.size
          have hF3 := hF.trans (Foot.of_below (S := S) hb13)
          have hit := itemsW_good hlt HO.out
          have hlim := oneF_lim HO.out.symm
          obtain ⟨hk1, hk2, _⟩ := hlim
          rw [List.length_drop] at hk2
          have hpre : itemsF b = (pre ++ [⟨{ f with place := p }, 0, 0, []⟩]) ++ itemsW b (p + k) := by rw [HP.out, hit]; simp
          obtain ⟨fn, tmps, assign, body, hy, hR⟩ := hY pre ⟨{ f with place := p }, 0, 0, []⟩ _ S w3 hJ3 rfl (by rw [hpre]; exact List.prefix_append _ _)
          have HPRE := Lib.hid hpre
          clear hit hpre
          replace hy : (Instr.yield l #[.agg #[.int .i64 (f.num : Int), .int .i64 (f.kind : Int), .int .i64 (p : Int), .int .u64 (f.val : Int), .string ⟨f.data.toArray⟩], .agg #[.int .i64 0, .int .i64 0, .string ⟨#[]⟩]]).run Try.prog w3 = _ := hy
          have HW3 := Lib.hid hw3
          clear hw3
          rw [HW3.out] at hy
          gi_wp2_with fail
          rw [← HW3.out]
          refine ⟨rfl, hR.mono ?_⟩
          rintro e W4 (⟨rfl, S4, hJ4, hF4, hT4, hK4⟩ | ⟨rfl, S4, hJ4, hF4⟩)
          · gi_wp2
            gi_roundg (gk - k)
            case measure => omega
            case rel => exact ⟨p + k, S4, _, by go_num, by omega, hJ4, HPRE, hK4 _ hc3, hT4, hF3.trans hF4⟩
          · gi_wp2
            (try simp only [Exit.inBlock, Exit.then])
            refine bodyPost_ret (results_none rfl _ _ _) rfl ?_
            exact ⟨⟨_, rfl⟩, .inr ⟨_, S4, by rw [HPRE.out]; exact List.prefix_append _ _, hJ4, hF3.trans hF4⟩⟩
      · have hi1 : ¬ (p : Int) < ((b.length : Nat) : Int) := by omega
        have hend := itemsW_end (b := b) (p := p) (by omega)
        have hpre : itemsF b = pre := by rw [HP.out, hend]; simp
        have HPRE := Lib.hid hpre
        clear hend hpre
        gi_wp2_with fail
        go_end0
        exact ⟨⟨_, rfl⟩, .inl ⟨S, by rw [HPRE.out]; exact hJs, hF⟩⟩
end Go.Proofs.Ytjcldnkgidfifaa
