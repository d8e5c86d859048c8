/-
  Pc09: SortN SeqA (what is needed of them).
-/
import Derived.Shelf.Sort.Plain
import Derived.Ground.Names2Prog
import Derived.Shelf.Slices.CompactI
import Derived.Shelf.Slices.In.SortNone
import Derived.Test.YtieffhkfefimeaaGreatDoorProg
import Derived.Deep.RegionHeld3
import Derived.WalkKit
set_option maxRecDepth 100000
set_option linter.unusedVariables false
set_option linter.unusedSimpArgs false

namespace Go.Proofs
open Go.Shelf
def Tryz.lays189_ren : Go.Shelf.Ren := ⟨fun | 189 => 107 | 125 => 154 | 257 => 153 | 128 => 185 | 129 => 186 | 294 => 176 | 295 => 177 | 296 => 178 | 297 => 179 | 298 => 180 | 299 => 181 | 216 => 182 | 300 => 183 | 301 => 184 | 328 => 193 | 329 => 194 | 330 => 195 | 331 => 196 | 332 => 197 | 215 => 198 | 343 => 204 | n => n, fun | 28 => 41 | 3 => 3 | 46 => 27 | 0 => 0 | 51 => 196 | 53 => 22 | 4 => 4 | 183 => 212 | 182 => 211 | 131 => 71 | 5 => 5 | 9 => 9 | 218 => 228 | 222 => 231 | 228 => 239 | 229 => 92 | n => n, fun | n => n⟩
theorem Tryz.lays189 : Go.Proofs.Lays.n189 Tryz.prog Tryz.lays189_ren := {
 mixed := by kernel_rfl
 f125 := Tryz.func154.trans (congrArg some (by kernel_rfl))
 f128 := Tryz.func185.trans (congrArg some (by kernel_rfl))
 f129 := Tryz.func186.trans (congrArg some (by kernel_rfl))
 f189 := Tryz.func107.trans (congrArg some (by kernel_rfl))
 f215 := Tryz.func198.trans (congrArg some (by kernel_rfl))
 f216 := Tryz.func182.trans (congrArg some (by kernel_rfl))
 f257 := Tryz.func153.trans (congrArg some (by kernel_rfl))
 f294 := Tryz.func176.trans (congrArg some (by kernel_rfl))
 f295 := Tryz.func177.trans (congrArg some (by kernel_rfl))
 f296 := Tryz.func178.trans (congrArg some (by kernel_rfl))
 f297 := Tryz.func179.trans (congrArg some (by kernel_rfl))
 f298 := Tryz.func180.trans (congrArg some (by kernel_rfl))
 f299 := Tryz.func181.trans (congrArg some (by kernel_rfl))
 f300 := Tryz.func183.trans (congrArg some (by kernel_rfl))
 f301 := Tryz.func184.trans (congrArg some (by kernel_rfl))
 f328 := Tryz.func193.trans (congrArg some (by kernel_rfl))
 f329 := Tryz.func194.trans (congrArg some (by kernel_rfl))
 f330 := Tryz.func195.trans (congrArg some (by kernel_rfl))
 f331 := Tryz.func196.trans (congrArg some (by kernel_rfl))
 f332 := Tryz.func197.trans (congrArg some (by kernel_rfl))
 f343 := Tryz.func204.trans (congrArg some (by kernel_rfl))
 t0 := Tryz.underlying0
 a0 := Tryz.isAgg0
 z0 := Tryz.sizeOf0
 v0 := Tryz.zeroValue0
 t3 := Tryz.underlying3
 a3 := Tryz.isAgg3
 z3 := Tryz.sizeOf3
 v3 := Tryz.zeroValue3
 t4 := Tryz.underlying4
 a4 := Tryz.isAgg4
 z4 := Tryz.sizeOf4
 v4 := Tryz.zeroValue4
 t5 := Tryz.underlying5
 a5 := Tryz.isAgg5
 z5 := Tryz.sizeOf5
 v5 := Tryz.zeroValue5
 t9 := Tryz.underlying9
 a9 := Tryz.isAgg9
 z9 := Tryz.sizeOf9
 v9 := Tryz.zeroValue9
 t28 := Tryz.underlying41
 a28 := Tryz.isAgg41
 z28 := Tryz.sizeOf41
 v28 := Tryz.zeroValue41
 t46 := Tryz.underlying27
 a46 := Tryz.isAgg27
 z46 := Tryz.sizeOf27
 v46 := Tryz.zeroValue27
 t51 := Tryz.underlying196
 a51 := Tryz.isAgg196
 z51 := Tryz.sizeOf196
 v51 := Tryz.zeroValue196
 t53 := Tryz.underlying22
 a53 := Tryz.isAgg22
 z53 := Tryz.sizeOf22
 v53 := Tryz.zeroValue22
 t131 := Tryz.underlying71
 a131 := Tryz.isAgg71
 z131 := Tryz.sizeOf71
 v131 := Tryz.zeroValue71
 t182 := Tryz.underlying211
 a182 := Tryz.isAgg211
 z182 := Tryz.sizeOf211
 v182 := Tryz.zeroValue211
 t183 := Tryz.underlying212
 a183 := Tryz.isAgg212
 z183 := Tryz.sizeOf212
 v183 := Tryz.zeroValue212
 t218 := Tryz.underlying228
 a218 := Tryz.isAgg228
 z218 := Tryz.sizeOf228
 v218 := Tryz.zeroValue228
 t222 := Tryz.underlying231
 a222 := Tryz.isAgg231
 z222 := Tryz.sizeOf231
 v222 := Tryz.zeroValue231
 t228 := Tryz.underlying239
 a228 := Tryz.isAgg239
 z228 := Tryz.sizeOf239
 v228 := Tryz.zeroValue239
 t229 := Tryz.underlying92
 a229 := Tryz.isAgg92
 z229 := Tryz.sizeOf92
 v229 := Tryz.zeroValue92 }
open Go.Sort Go.RowKit in
theorem Tryz.slices_Sort_int (blk off cap : Nat) (zs : List Int) (w : World) (hH : Holds (Value.int .i64) w blk off zs.toArray) (hblk : blk < w.heap.size) (hsz : zs.length < 4611686018427387904) :
  Calls Tryz.prog 107 #[.slice (some ⟨blk, off, none⟩) zs.length cap] w fun e w' =>
   e = .returned (.tuple #[]) ∧ ∃ n os, w' = grow (putRow (Value.int .i64) (Sort.ahead w n) blk off (zs.mergeSort fun x y => decide (x ≤ y)).toArray) os := Any.slices_Sort_int Tryz.lays189 blk off cap zs w hH hblk hsz
def Tryz.laysNm220_ren : Go.Shelf.Ren := ⟨fun | 20 => 108 | n => n, fun | 22 => 41 | 3 => 3 | 4 => 4 | 0 => 0 | n => n, fun | n => n⟩
theorem Tryz.laysNm220 : Go.Proofs.Lays2.n20 Tryz.prog Tryz.laysNm220_ren := {
 mixed := by kernel_rfl
 f20 := Tryz.func108.trans (congrArg some (by kernel_rfl))
 t0 := Tryz.underlying0
 a0 := Tryz.isAgg0
 z0 := Tryz.sizeOf0
 v0 := Tryz.zeroValue0
 t3 := Tryz.underlying3
 a3 := Tryz.isAgg3
 z3 := Tryz.sizeOf3
 v3 := Tryz.zeroValue3
 t4 := Tryz.underlying4
 a4 := Tryz.isAgg4
 z4 := Tryz.sizeOf4
 v4 := Tryz.zeroValue4
 t22 := Tryz.underlying41
 a22 := Tryz.isAgg41
 z22 := Tryz.sizeOf41
 v22 := Tryz.zeroValue41
 i3 := by kernel_rfl }
open Go.RowKit Go.Lib Go.Sort in
theorem Tryz.slices_Compact_int_arr (blk off cap : Nat) (d : Array Int) (w : World) (hH : Holds encI w blk off d) (hsz : d.size ≤ 9223372036854775807) (hcap : d.size ≤ cap) :
  Calls Tryz.prog 108 #[.slice (some ⟨blk, off, none⟩) d.size cap] w fun e w' => e = .returned (.slice (some ⟨blk, off, none⟩) (compactUpTo d d.size).length cap) ∧ ∃ q, w' = putRow encI (Sort.ahead w q) blk off (compactUpTo d d.size ++ List.replicate (d.size - (compactUpTo d d.size).length) 0).toArray := Any.slices_Compact_int_arr Tryz.laysNm220 blk off cap d w hH hsz hcap
open Go.RowKit Go.Lib Go.Sort in
theorem Tryz.slices_Compact_int (blk off cap : Nat) (zs : List Int) (w : World) (hH : Holds (Value.int .i64) w blk off zs.toArray) (hsz : zs.length ≤ 9223372036854775807) (hcap : zs.length ≤ cap) :
  Calls Tryz.prog 108 #[.slice (some ⟨blk, off, none⟩) zs.length cap] w fun e w' => e = .returned (.slice (some ⟨blk, off, none⟩) (Lib.compact zs).length cap) ∧ ∃ q, w' = putRow (Value.int .i64) (Sort.ahead w q) blk off (Lib.compact zs ++ List.replicate (zs.length - (Lib.compact zs).length) 0).toArray := Any.slices_Compact_int Tryz.laysNm220 blk off cap zs w hH hsz hcap
open Go.RowKit Go.Lib Go.Sort in
theorem Tryz.slices_Compact_int_empty (a : Option Addr) (cap : Nat) (w : World) :
  Calls Tryz.prog 108 #[.slice a 0 cap] w fun e w' => e = .returned (.slice a 0 cap) ∧ w' = w := Any.slices_Compact_int_empty Tryz.laysNm220 a cap w
open Go.RowKit Go.Sort in
theorem Tryz.slices_Sort_int_none (p : Option Addr) (cap : Nat) (w : World) :
  Calls Tryz.prog 107 #[.slice p 0 cap] w fun e w' => e = .returned (.tuple #[]) ∧ w' = w := Any.slices_Sort_int_none Tryz.lays189 p cap w
end Go.Proofs

namespace Go.Proofs.YtieffhkfefimeaaGreatDoor
open Go.RowKit

section
variable {P : Program} {ops : Array Oper} {Q : Exit → Act → World → Prop} {S : World → Prop}
def wpSeqH (P : Program) (ops : Array Oper) (Q : Exit → Act → World → Prop) (S : World → Prop) : List (Bool × Oper) → Act → World → Prop
 | [], a, w => Q .normal a w
 | (true, o) :: rest, a, w => ∃ v, YieldsIf P ops S o v a ∧ wpSeqH P ops Q S rest (a.put o.dst v) w
 | (false, o) :: rest, a, w => ∀ K : Act → World → Prop, Shut (∀ a w, S w → (S w → wpSeqH P ops Q S rest a w) → K a w) →
   if Region.wanted o (yielded ops a.tmps) = true then Oper.wp P o a w K Q else K (a.put o.dst undef) w
def seqOk (ops : Array Oper) : List (Bool × Nat) → Array Bool → Bool
 | [], listed => (Region.ready .any ops listed).isEmpty
 | (true, i) :: r, listed => Region.free .any ops listed i && (Region.ready .any ops listed).contains i && seqOk ops r (listed.setIfInBounds i true)
 | (false, i) :: r, listed => (Region.ready .any ops listed == [i]) && seqOk ops r (listed.setIfInBounds i true)
def pickOps (ops : Array Oper) : List (Bool × Nat) → List (Bool × Oper)
 | [] => []
 | (b, i) :: r => match ops[i]? with
  | some o => (b, o) :: pickOps ops r
  | none => pickOps ops r
theorem wpAnyH_of_seq (hs : Region.noSelect ops = true) (hQ : ∀ d v c a w, Q (.panic c) (a.put d v) w → Q (.panic c) a w) :
  ∀ (l : List (Bool × Nat)) (listed : Array Bool) (a : Act) (w : World), seqOk ops l listed = true → (l.all fun x => decide (x.2 < ops.size)) = true → S w → wpSeqH P ops Q S (pickOps ops l) a w → wpAnyH P .any ops Q S l.length listed a w
 | [], listed, a, w, hk, _, _, h => by
  simp only [seqOk, List.isEmpty_iff] at hk
  exact ⟨hk, h⟩
 | (b, i) :: r, listed, a, w, hk, hlt, hS, h => by
  simp only [List.all_cons, Bool.and_eq_true, decide_eq_true_eq] at hlt
  have hi : ops[i]? = some ops[i] := Array.getElem?_eq_getElem hlt.1
  simp only [pickOps, hi] at h
  cases b with
  | true =>
   simp only [seqOk, Bool.and_eq_true] at hk
   obtain ⟨v, hy, h⟩ := h
   exact wpAnyH_take hi hs hk.1.1 hk.1.2 (fun c a w => hQ _ _ c a w) hy hS (wpAnyH_of_seq hs hQ r _ _ _ hk.2 hlt.2 hS h)
  | false =>
   simp only [seqOk, Bool.and_eq_true, beq_iff_eq] at hk
   refine wpAnyH_ready hk.1 (by simp) (AllReadyH.cons hi (fun K hK => ?_) AllReadyH.nil)
   exact h K (fun a' w' hS' hw => hK.out a' w' hS' fun hS'' => wpAnyH_of_seq hs hQ r _ _ _ hk.2 hlt.2 hS'' (hw hS''))
theorem wp_region_seq {id : Nat} {a : Act} {w : World} (l : List (Bool × Nat)) (hm : P.follows .mixedOrders = true) (hs : Region.noSelect ops = true) (hl : l.length = ops.size) (hlt : (l.all fun x => decide (x.2 < ops.size)) = true)
  (hk : seqOk ops l (Array.replicate ops.size false) = true) (hQ : ∀ d v c a w, Q (.panic c) (a.put d v) w → Q (.panic c) a w) (hS : S w.drew)
  (h : S w.drew → wpSeqH P ops Q S (pickOps ops l) a w.drew) : (Code.region id ops true).wp P Q a w := by
 refine wp_region_held_drew hm hS fun hS' => ?_
 have := wpAnyH_of_seq (P := P) (Q := Q) (S := S) hs hQ l _ _ _ hk hlt hS' (h hS')
 rwa [hl] at this
theorem seq_take {o : Oper} {rest : List (Bool × Oper)} {a : Act} {w : World} {v : Value} (hw : Region.wanted o (yielded ops a.tmps) = true) (hy : ∀ w, S w → (execOp a.eval o).run P w = .ok (.value v) w)
  (h : wpSeqH P ops Q S rest (a.put o.dst v) w) : wpSeqH P ops Q S ((true, o) :: rest) a w := ⟨v, .inl ⟨hw, hy⟩, h⟩
theorem seq_leave {o : Oper} {rest : List (Bool × Oper)} {a : Act} {w : World} (hw : Region.wanted o (yielded ops a.tmps) = false)
  (h : wpSeqH P ops Q S rest (a.put o.dst undef) w) : wpSeqH P ops Q S ((true, o) :: rest) a w := ⟨undef, .inr ⟨hw, rfl⟩, h⟩
theorem seq_step {o : Oper} {rest : List (Bool × Oper)} {a : Act} {w : World} (hw : Region.wanted o (yielded ops a.tmps) = true)
  (h : ∀ K : Act → World → Prop, Shut (∀ a w, S w → (S w → wpSeqH P ops Q S rest a w) → K a w) → Oper.wp P o a w K Q) : wpSeqH P ops Q S ((false, o) :: rest) a w := fun K hK => by
 rw [if_pos hw]; exact h K hK
theorem seq_pass {o : Oper} {rest : List (Bool × Oper)} {a : Act} {w : World} (hw : Region.wanted o (yielded ops a.tmps) = false) (hS : S w)
  (h : wpSeqH P ops Q S rest (a.put o.dst undef) w) : wpSeqH P ops Q S ((false, o) :: rest) a w := fun K hK => by
 rw [if_neg (by rw [hw]; simp)]; exact hK.out _ _ hS fun _ => h
theorem seq_end {a : Act} {w : World} (h : Q .normal a w) : wpSeqH P ops Q S [] a w := h
end
end Go.Proofs.YtieffhkfefimeaaGreatDoor
