/-
  Pe02: SeqF RatA RatB SeqT RatC StrQ RatD HeapG StrD DecA DecB DecC RefQ RefR MathT SeqB RatL CloN BookM ValA ValB HeapK HeapM FldA MathPd StrC FldB FldC FldD FldE (what is needed of them).
-/
import Derived.Test.YtlmjkbdodecbmaaDoorPe00
import Derived.Test.YtlmjkbdodecbmaaDoorPe01
import Derived.OwnWalkIn
import Derived.Lib.Bytealg
import Derived.BigCall
import Derived.Deep.DeepCutAuto
import Derived.WalkMore
import Derived.Laws.StructEq
import Derived.Shelf.Strconv.Clone
import Derived.Test.YtlmjkbdodecbmaaDoorProg

namespace Go.Proofs.YtlmjkbdodecbmaaDoor
open Go.RowKit
set_option linter.unusedVariables false
/-- A block that may be made at any time: the operation's number, its slot, what stands in the block at first. -/
structure Fl where
  i : Nat
  d : Nat
  z : Obj
/-- Two states that differ in these slots alone. -/
structure Same (D : List Nat) (a a' : Act) : Prop where
  defers : a'.defers = a.defers
  size : a'.tmps.size = a.tmps.size
  slot : ∀ s, s ∉ D → a'.tmps[s]? = a.tmps[s]?
theorem Same.refl (D : List Nat) (a : Act) : Same D a a := ⟨rfl, rfl, fun _ _ => rfl⟩
theorem Same.put {D : List Nat} {a a' : Act} (h : Same D a a') (d : Option Tmp) (v : Value) : Same D (a.put d v) (a'.put d v) := by
  cases d with
  | none => exact h
  | some d =>
    refine ⟨h.defers, by simp [Act.put, h.size], fun s hs => ?_⟩
    simp only [Act.put, Array.getElem?_setIfInBounds, h.size]
    split
    · rfl
    · exact h.slot s hs
theorem Act.ext' {a b : Act} (h : a.tmps = b.tmps) (hd : a.defers = b.defers) : a = b := by
  cases a; cases b; cases h; cases hd; rfl
theorem Same.one {d : Nat} {a a' : Act} (h : Same [d] a a') : a' = a.put (some d) (a'.tmps.getD d undef) := by
  refine Act.ext' (Array.ext_getElem? fun i => ?_) h.defers
  simp only [Act.put, Array.getElem?_setIfInBounds]
  split
  · rename_i e
    subst e
    rw [← h.size]
    split
    · rename_i h1; simp [h1]
    · rename_i h1; simp [h1]
  · rename_i e
    exact h.slot i (by simpa using fun e2 => e e2.symm)
/-- The block lies there. -/
def At (base : Nat) (a : Act) (w : World) (f : Fl) : Prop := ∃ g, a.tmps.getD f.d undef = .pointer (some ⟨g, 0, none⟩) ∧ base ≤ g ∧ w.heap[g]? = some f.z
section
variable {P : Program} {ops : Array Oper} {Q : Exit → Act → World → Prop} {S : World → Prop}
/-- The walk in one order, blocks coming up in between. -/
def wpSeqF (P : Program) (ops : Array Oper) (Q : Exit → Act → World → Prop) (S : World → Prop) (base : Nat) (fs : List Fl) (l2 : List (Bool × Nat)) : List (Bool × Oper) → Act → World → Prop
  | [], a, w => ∀ a' w', Same (fs.map (·.d)) a a' → Below w.heap.size w w' → S w' → (∀ f ∈ fs, At base a' w' f) → (∀ f ∈ fs, ∀ f' ∈ fs, f.i ≠ f'.i → a'.tmps.getD f.d undef ≠ a'.tmps.getD f'.d undef) → wpSeqH P ops Q S (pickOps ops l2) a' w'
  | (true, o) :: rest, a, w => ∃ v, (∀ a', Same (fs.map (·.d)) a a' → YieldsIf P ops S o v a') ∧ wpSeqF P ops Q S base fs l2 rest (a.put o.dst v) w
  | (false, o) :: rest, a, w => ∀ a' w', Same (fs.map (·.d)) a a' → Below w.heap.size w w' → S w' → ∀ K : Act → World → Prop, Shut (∀ v w'', S w'' → Below w'.heap.size w' w'' → wpSeqF P ops Q S base fs l2 rest (a'.put o.dst v) w'' → K (a'.put o.dst v) w'') →
      Region.wanted o (yielded ops a'.tmps) = true ∧ Oper.wp P o a' w' K Q
theorem Same.trans {D : List Nat} {a b c : Act} (h : Same D a b) (h' : Same D b c) : Same D a c :=
  ⟨h'.defers.trans h.defers, h'.size.trans h.size, fun s hs => (h'.slot s hs).trans (h.slot s hs)⟩
theorem Same.symm {D : List Nat} {a b : Act} (h : Same D a b) : Same D b a :=
  ⟨h.defers.symm, h.size.symm, fun s hs => (h.slot s hs).symm⟩
theorem wpSeqF.same {base : Nat} {fs : List Fl} {l2 : List (Bool × Nat)} : ∀ (l : List (Bool × Oper)) {a b : Act} {w w' : World}, Same (fs.map (·.d)) a b → Below w.heap.size w w' → wpSeqF P ops Q S base fs l2 l a w → wpSeqF P ops Q S base fs l2 l b w'
  | [], a, b, w, w', hs, hb, h => fun a' w'' h1 h2 h3 h4 h5 => h a' w'' (hs.trans h1) (hb.trans (h2.mono hb.size)) h3 h4 h5
  | (true, o) :: rest, a, b, w, w', hs, hb, h => by
    obtain ⟨v, hy, h⟩ := h
    exact ⟨v, fun a' h1 => hy a' (hs.trans h1), wpSeqF.same rest (hs.put _ _) hb h⟩
  | (false, o) :: rest, a, b, w, w', hs, hb, h => fun a' w'' h1 h2 h3 => h a' w'' (hs.trans h1) (hb.trans (h2.mono hb.size)) h3
/-- What each block's operation is. -/
def FlOk (P : Program) (ops : Array Oper) (Q : Exit → Act → World → Prop) (f : Fl) : Prop := ∃ o, ops[f.i]? = some o ∧ o.dst = some f.d ∧ (∀ t, Region.wanted o t = true) ∧
  ∀ (a : Act) (w : World) (K : Act → World → Prop), K (a.put (some f.d) (.pointer (some ⟨w.heap.size, 0, none⟩))) (w.alloc f.z) → Oper.wp P o a w K Q
/-- An alloc may come up at any time. -/
theorem FlOk.alloc {i d : Nat} {z : Obj} {o : Oper} (ho : ops[i]? = some o) (hd : o.dst = some d) (hg : o.guard = none) (hr : ∀ (f : Operand → Value) (w : World), (execOp f o).run P w = .ok (.value (.pointer (some ⟨w.heap.size, 0, none⟩))) (w.alloc z)) : FlOk P ops Q ⟨i, d, z⟩ := by
  refine ⟨o, ho, hd, fun t => ?_, fun a w K hK => ?_⟩
  · simp [Region.wanted, hg]
  · unfold Oper.wp
    rw [hr, Oper.upon_value, hd]
    exact hK
/-- One block, by its slot. -/
theorem At.slot {base i d : Nat} {z : Obj} {t : Array Value} {ds : List Deferred} {w : World} {x : Value} (h : At base ⟨t, ds⟩ w ⟨i, d, z⟩) (hx : t.getD d undef = x) : ∃ g, x = .pointer (some ⟨g, 0, none⟩) ∧ base ≤ g ∧ w.heap[g]? = some z := by
  obtain ⟨g, h1, h2, h3⟩ := h
  exact ⟨g, by rw [← hx]; exact h1, h2, h3⟩
end
end Go.Proofs.YtlmjkbdodecbmaaDoor

namespace Go.Proofs.YtlmjkbdodecbmaaDoor
open Go.RowKit
set_option linter.unusedVariables false
section
variable {P : Program} {ops : Array Oper} {Q : Exit → Act → World → Prop} {S : World → Prop}
/-- The post of the region without its last operation. -/
def TailQ (P : Program) (ops : Array Oper) (Q : Exit → Act → World → Prop) : Exit → Act → World → Prop
  | .normal, a, w => wpOp P ops Q (ops.size - 1) (fun a w => Q .normal a w) a w
  | e, a, w => Q e a w
/-- What is listed had all that it waits for listed ahead. -/
def Shut2 (ops : Array Oper) (listed : Array Bool) : Prop := ∀ j o, ops[j]? = some o → listed.getD j false = true → ∀ e ∈ o.after, Region.binds .any e = true → listed.getD e.on false = true
theorem tail_end {a : Act} {w : World} {o : Oper} (ho : ops[ops.size - 1]? = some o) (hg : o.guard = none) (h : Oper.wp P o a w (fun a w => Q .normal a w) Q) : TailQ P ops Q .normal a w := by
  show wpOp P ops Q (ops.size - 1) (fun a w => Q .normal a w) a w
  unfold wpOp
  rw [ho]
  have : ∀ t, Region.wanted o t = true := fun t => by simp [Region.wanted, hg]
  simp only [this, if_true]
  exact .inl h
end
end Go.Proofs.YtlmjkbdodecbmaaDoor

namespace Go.Proofs.YtlmjkbdodecbmaaDoor
open Go.RowKit
set_option linter.unusedVariables false
set_option linter.unusedSimpArgs false
attribute [local go_sem] field_nat
theorem of_neg (v : Int) (h : v < 0) : qOf true v.natAbs 1 = (v : Rat) := by
  rw [qOf_one]; congr 1; simp [sg]; omega
theorem of_pos (v : Int) (h : 0 ≤ v) : qOf false v.natAbs 1 = (v : Rat) := by
  rw [qOf_one]; congr 1; simp [sg]; omega
end Go.Proofs.YtlmjkbdodecbmaaDoor

namespace Go.Proofs.YtlmjkbdodecbmaaDoor
open Go.RowKit
set_option linter.unusedVariables false
set_option linter.unusedSimpArgs false
/-- A block of five cells, a variable of the call's own. -/
structure Box5 (w : World) (b : Nat) (x0 x1 x2 x3 x4 : Value) : Prop where
  c0 : w.cell? ⟨b, 0, none⟩ = some x0
  c1 : w.cell? ⟨b, 1, none⟩ = some x1
  c2 : w.cell? ⟨b, 2, none⟩ = some x2
  c3 : w.cell? ⟨b, 3, none⟩ = some x3
  c4 : w.cell? ⟨b, 4, none⟩ = some x4
  f0 : w.frozen? ⟨b, 0, none⟩ = false
  f1 : w.frozen? ⟨b, 1, none⟩ = false
  f2 : w.frozen? ⟨b, 2, none⟩ = false
  f3 : w.frozen? ⟨b, 3, none⟩ = false
  f4 : w.frozen? ⟨b, 4, none⟩ = false
theorem Box5.block {w w' : World} {b : Nat} {x0 x1 x2 x3 x4 : Value} (h : Box5 w b x0 x1 x2 x3 x4) (hg : w'.heap[b]? = w.heap[b]?) : Box5 w' b x0 x1 x2 x3 x4 :=
  ⟨(World.cell?_of_block (w := w) (a := ⟨b, 0, none⟩) hg).trans h.c0, (World.cell?_of_block (w := w) (a := ⟨b, 1, none⟩) hg).trans h.c1, (World.cell?_of_block (w := w) (a := ⟨b, 2, none⟩) hg).trans h.c2, (World.cell?_of_block (w := w) (a := ⟨b, 3, none⟩) hg).trans h.c3, (World.cell?_of_block (w := w) (a := ⟨b, 4, none⟩) hg).trans h.c4,
    (World.frozen?_of_block (w := w) (a := ⟨b, 0, none⟩) hg).trans h.f0, (World.frozen?_of_block (w := w) (a := ⟨b, 1, none⟩) hg).trans h.f1, (World.frozen?_of_block (w := w) (a := ⟨b, 2, none⟩) hg).trans h.f2, (World.frozen?_of_block (w := w) (a := ⟨b, 3, none⟩) hg).trans h.f3, (World.frozen?_of_block (w := w) (a := ⟨b, 4, none⟩) hg).trans h.f4⟩
theorem Box5.lt {w : World} {b : Nat} {x0 x1 x2 x3 x4 : Value} (h : Box5 w b x0 x1 x2 x3 x4) : b < w.heap.size := World.block_lt_of_cell? w ⟨b, 0, none⟩ h.c0
theorem Box5.kept {w w' : World} {b : Nat} {x0 x1 x2 x3 x4 : Value} (h : Box5 w b x0 x1 x2 x3 x4) (hb : Below w.heap.size w w') : Box5 w' b x0 x1 x2 x3 x4 := h.block (hb.block b h.lt)
theorem Box5.drew {w : World} {b : Nat} {x0 x1 x2 x3 x4 : Value} (h : Box5 w b x0 x1 x2 x3 x4) : Box5 w.drew b x0 x1 x2 x3 x4 := ⟨h.c0, h.c1, h.c2, h.c3, h.c4, h.f0, h.f1, h.f2, h.f3, h.f4⟩
end Go.Proofs.YtlmjkbdodecbmaaDoor

namespace Go.Proofs.YtlmjkbdodecbmaaDoor
open Go.RowKit
set_option linter.unusedVariables false
set_option linter.unusedSimpArgs false
attribute [local go_sem] field_nat
theorem RIs.len {w : World} {o : Option Addr} {l c n : Nat} (h : RIs w (.slice o l c) n) : l = (rlimbs n).length := by
  obtain ⟨ao, cap, h1, _⟩ := h.open
  injection h1
end Go.Proofs.YtlmjkbdodecbmaaDoor

namespace Go.Proofs.YtlmjkbdodecbmaaDoor
open Go.RowKit
set_option linter.unusedVariables false
set_option linter.unusedSimpArgs false
attribute [local go_sem] field_nat
theorem QB.small {neg : Bool} {n d k : Nat} (hn : n < 4294967296) (hd : d < 4294967296) (h0 : 0 < d) (hk : 1 ≤ k) : QB (qOf neg n d) k := QB.of _ (limbs_bound hn hk) (limbs_bound hd hk) h0
theorem QB.int {v : Int} {k : Nat} (h : v.natAbs < 18446744073709551616) (hk : 2 ≤ k) : QB (v : Rat) k := by
  have hl : (limbs v.natAbs).length ≤ k := Nat.le_trans (limbs_length_le (k := 2) (by omega)) hk
  rcases (show v < 0 ∨ 0 ≤ v by omega) with h0 | h0
  · rw [← of_neg v h0]; exact QB.of _ hl (limbs_bound (by decide) (by omega)) (by decide)
  · rw [← of_pos v h0]; exact QB.of _ hl (limbs_bound (by decide) (by omega)) (by decide)
end Go.Proofs.YtlmjkbdodecbmaaDoor

namespace Go.Proofs.YtlmjkbdodecbmaaDoor
open Go.RowKit
set_option linter.unusedVariables false
section
variable {ops : Array Oper}
/-- What has come up, as a list and as a mask. -/
structure Rel (ops : Array Oper) (listed : Array Bool) (m : Nat) : Prop where
  size : listed.size = ops.size
  bit : ∀ j, listed.getD j false = m.testBit j
theorem Rel.set {listed : Array Bool} {m i : Nat} (h : Rel ops listed m) (hi : i < ops.size) : Rel ops (listed.setIfInBounds i true) (m ||| 2 ^ i) := by
  refine ⟨by simpa using h.size, fun j => ?_⟩
  rw [Nat.testBit_or, Nat.testBit_two_pow, ← h.bit]
  simp only [Array.getD_eq_getD_getElem?, Array.getElem?_setIfInBounds]
  split
  · rename_i e; subst e
    rw [if_pos (by rw [h.size]; exact hi)]; simp
  · rename_i e; simp [e]
variable {P : Program} {Q : Exit → Act → World → Prop} {S : World → Prop}
end
end Go.Proofs.YtlmjkbdodecbmaaDoor

namespace Go.Proofs
open Go.Shelf
def Tryd.laysM316_ren : Go.Shelf.Ren := ⟨fun | 316 => 98 | n => n, fun | 9 => 9 | 3 => 3 | 4 => 4 | 37 => 171 | 0 => 0 | 127 => 172 | 5 => 5 | n => n, fun | n => n⟩
theorem Tryd.laysM316 : Go.Proofs.LaysM.n316 Tryd.prog Tryd.laysM316_ren := {
  mixed := by kernel_rfl
  f316 := Tryd.func98.trans (congrArg some (by kernel_rfl))
  t0 := Tryd.underlying0
  a0 := Tryd.isAgg0
  z0 := Tryd.sizeOf0
  v0 := Tryd.zeroValue0
  t3 := Tryd.underlying3
  a3 := Tryd.isAgg3
  z3 := Tryd.sizeOf3
  v3 := Tryd.zeroValue3
  t4 := Tryd.underlying4
  a4 := Tryd.isAgg4
  z4 := Tryd.sizeOf4
  v4 := Tryd.zeroValue4
  t9 := Tryd.underlying9
  a9 := Tryd.isAgg9
  z9 := Tryd.sizeOf9
  v9 := Tryd.zeroValue9
  t37 := Tryd.underlying171
  a37 := Tryd.isAgg171
  z37 := Tryd.sizeOf171
  v37 := Tryd.zeroValue171
  t127 := Tryd.underlying172
  a127 := Tryd.isAgg172
  z127 := Tryd.sizeOf172
  v127 := Tryd.zeroValue172
  t5 := Tryd.underlying5
  a5 := Tryd.isAgg5
  z5 := Tryd.sizeOf5
  v5 := Tryd.zeroValue5
  i0 := by kernel_rfl
  i3 := by kernel_rfl
  i4 := by kernel_rfl
  i5 := by kernel_rfl
  i9 := by kernel_rfl
  i37 := by kernel_rfl
  i127 := by kernel_rfl }
open Go.RowKit
theorem Tryd.stringslite_Clone (s : ByteArray) (w : World) (hlim : s.size ≤ 281474976710656) :
    Calls Tryd.prog 98 #[.string s] w fun e w' => e = .returned (.string s) ∧ Below w.heap.size w w' := Any.stringslite_Clone Tryd.laysM316 s w hlim
end Go.Proofs

namespace Go.Proofs.YtlmjkbdodecbmaaDoor
open Go.RowKit
set_option linter.unusedVariables false
set_option linter.unusedSimpArgs false
/-- What is left of the room. -/
def roomL : Int → List Nat → Int
  | n, [] => n
  | n, k :: ks => if n < 0 ∨ n < (k : Int) then -1 else roomL (n - k) ks
theorem roomL_drop {n : Int} {ks : List Nat} {i : Nat} (hi : i < ks.length) : roomL n (ks.drop i) = if n < 0 ∨ n < ((ks[i]?.getD 0 : Nat) : Int) then -1 else roomL (n - (ks[i]?.getD 0 : Nat)) (ks.drop (i + 1)) := by
  rw [List.drop_eq_getElem_cons hi, List.getElem?_eq_getElem hi]; rfl
set_option maxRecDepth 100000 in
set_option maxHeartbeats 1000000 in
theorem room_any (n : Int) (ao : Option Addr) (cap : Nat) (ks : List Nat) (w : World) (hn : -1 ≤ n) (hn2 : n ≤ 1000000000) (hc : Cells .i64 w ao ks) (hlen : ks.length ≤ 1000000) :
    Calls Tryd.prog 36 #[.int .i64 n, .slice ao ks.length cap] w fun e w' => e = .returned (.int .i64 (roomL n ks)) ∧ w = w' := by
  go_enter Tryd.func36, Tryd.ntmps36
  go_wp2_with fail
  go_loopg [0, 5] ks.length (fun gg nv iv wr => ∃ (m : Int) (i : Nat), i + gg = ks.length ∧ iv = .int .i64 (i : Int) ∧ nv = .int .i64 m ∧ -1 ≤ m ∧ m ≤ 1000000000 ∧ roomL m (ks.drop i) = roomL n ks ∧ w = wr)
  case atStart => exact ⟨n, 0, by omega, rfl, rfl, hn, hn2, rfl, rfl⟩
  case round =>
    obtain ⟨m, i, hi, rfl, rfl, hm1, hm2, hr, rfl⟩ := hrel
    by_cases hil : i < ks.length
    · rcases hc with h | ⟨b, off, rfl, hb, hcell⟩
      · rw [h] at hil; simp at hil
      have c1 := hcell i hil
      have hd := roomL_drop (n := m) hil
      rw [hd] at hr
      have q1 : (0 : Int) ≤ (i : Int) := by omega
      have q2 : (i : Int) < (ks.length : Int) := by omega
      generalize ks[i]?.getD 0 = k at *
      have HR := Lib.hid hr
      clear hr hd hcell
      by_cases hneg : m < 0
      · have HN := Lib.hid (show roomL n ks = -1 by rw [← HR.out, if_pos (.inl hneg)])
        go_wp2_with fail
        go_ret
        exact ⟨ret_one (by rw [HN.out]; rfl), rfl⟩
      · by_cases hlt : m < (k : Int)
        · have HN := Lib.hid (show roomL n ks = -1 by rw [← HR.out, if_pos (.inr hlt)])
          go_wp2_with fail
          go_ret
          exact ⟨ret_one (by rw [HN.out]; rfl), rfl⟩
        · have HN := Lib.hid (show roomL (m - k) (ks.drop (i + 1)) = roomL n ks by rw [← HR.out, if_neg (by omega)])
          go_wp2_with fail
          go_roundg (gk - 1)
          case measure => omega
          case rel => exact ⟨m - k, i + 1, by omega, by go_num, rfl, by omega, by omega, HN.out, rfl⟩
    · have hd : ks.drop i = [] := List.drop_of_length_le (by omega)
      rw [hd] at hr
      have HR := Lib.hid hr
      clear hr hd
      go_wp2_with fail
      go_ret
      exact ⟨ret_one (by rw [← HR.out]; rfl), rfl⟩
end Go.Proofs.YtlmjkbdodecbmaaDoor

namespace Go.Proofs.YtlmjkbdodecbmaaDoor
open Go.RowKit
set_option linter.unusedVariables false
set_option linter.unusedSimpArgs false
attribute [local go_sem] field_nat
/-- A fraction and a yes or no are told. -/
def NPost (w : World) (q : Rat) (b : Bool) (e : Ending) (w' : World) : Prop := ∃ r, e = .returned (.tuple #[r, .bool b]) ∧ QIs w' r q ∧ Below w.heap.size w w'
theorem NPost.out {w w' : World} {q : Rat} {b : Bool} {e : Ending} (h : NPost w q b e w') : ∃ s xo xl xc yo yl yc, e = .returned (.tuple #[.agg #[.bool s, .slice xo xl xc, .slice yo yl yc], .bool b]) ∧ s = decide (q < 0) ∧ NatIs w' (.agg #[.slice xo xl xc]) q.num.natAbs ∧ NatIs w' (.agg #[.slice yo yl yc]) (den0 q) ∧ QIs w' (.agg #[.bool s, .slice xo xl xc, .slice yo yl yc]) q ∧ Below w.heap.size w w' := by
  obtain ⟨r, rfl, hq, hb⟩ := h
  obtain ⟨s, xo, xl, xc, yo, yl, yc, rfl, h1, h2, h3⟩ := hq.form
  exact ⟨_, _, _, _, _, _, _, rfl, h1, h2, h3, hq, hb⟩
section
variable {fn : Func} {s : Nat} {act : Act} {w w9 : World} {b : Nat} {s0 : Bool} {o1 o2 : Option Addr} {l1 l2 c1 c2 : Nat} {u0 u1 u2 : Value} {q : Rat}
end
section
variable {fn : Func} {s : Nat} {act : Act} {w w9 : World} {b : Nat} {x y z u0 u1 u2 : Value}
end
end Go.Proofs.YtlmjkbdodecbmaaDoor

namespace Go.Proofs.YtlmjkbdodecbmaaDoor
open Go.RowKit
set_option linter.unusedVariables false
set_option linter.unusedSimpArgs false
attribute [local go_sem] field_nat
/-- A cell of memory that only is read. -/
structure CellV (w : World) (b off : Nat) (v : Value) : Prop where
  cell : w.cell? ⟨b, off, none⟩ = some v
theorem CellV.kept {w w' : World} {b off : Nat} {v : Value} (h : CellV w b off v) (hb : Below w.heap.size w w') : CellV w' b off v := ⟨(hb.cell (p := ⟨b, off, none⟩) (World.block_lt_of_cell? w ⟨b, off, none⟩ h.cell)).trans h.cell⟩
theorem CellV.drew {w : World} {b off : Nat} {v : Value} (h : CellV w b off v) : CellV w.drew b off v := ⟨h.cell⟩
/-- A row of values in memory. -/
def Vals (w : World) (ao : Option Addr) (vs : List V3) : Prop := ∀ (i : Nat) (v : V3), vs[i]? = some v → ∃ b off, ao = some ⟨b, off, none⟩ ∧ CellV w b (off + i * 3) (.int .i64 v.k) ∧ CellV w b (off + i * 3 + 1) (.string ⟨v.n.toArray⟩) ∧ CellV w b (off + i * 3 + 2) (.string ⟨v.c.toArray⟩)
theorem Vals.below {w w' : World} {ao : Option Addr} {vs : List V3} (h : Vals w ao vs) (hb : Below w.heap.size w w') : Vals w' ao vs := fun i v hi => by
  obtain ⟨b, off, h1, h2, h3, h4⟩ := h i v hi
  exact ⟨b, off, h1, h2.kept hb, h3.kept hb, h4.kept hb⟩
def valsRoom : Int → List V3 → Int
  | n, [] => n
  | n, v :: r => if n < 0 then n else valsRoom (roomL n [1, v.n.length, v.c.length]) r
theorem valsRoom_neg {n : Int} (h : n < 0) (vs : List V3) : valsRoom n vs = n := by
  cases vs with
  | nil => rfl
  | cons v r => unfold valsRoom; rw [if_pos h]
theorem valsRoom_drop {n : Int} {vs : List V3} {i : Nat} {v : V3} (h : vs[i]? = some v) (hn : ¬ n < 0) : valsRoom n (vs.drop i) = valsRoom (roomL n [1, v.n.length, v.c.length]) (vs.drop (i + 1)) := by
  have hi : i < vs.length := (List.getElem?_eq_some_iff.1 h).1
  rw [List.drop_eq_getElem_cons hi, (List.getElem?_eq_some_iff.1 h).2]
  rw [valsRoom, if_neg hn]
theorem roomL_range {n : Int} (ks : List Nat) (h1 : -1 ≤ n) (h2 : n ≤ 1000000000) : -1 ≤ roomL n ks ∧ roomL n ks ≤ 1000000000 := by
  induction ks generalizing n with
  | nil => exact ⟨h1, h2⟩
  | cons k ks ih =>
    unfold roomL
    split
    · omega
    · exact ih (by omega) (by omega)
theorem roomL_le (n : Int) (ks : List Nat) : roomL n ks ≤ n ∨ roomL n ks = -1 := by
  induction ks generalizing n with
  | nil => exact Or.inl (Int.le_refl _)
  | cons k ks ih =>
    unfold roomL
    split
    · exact Or.inr rfl
    · rcases ih (n - k) with h | h
      · exact Or.inl (by omega)
      · exact Or.inr h
theorem room_le {n : Int} {a b : Nat} (h : 0 ≤ roomL n [1, a, b]) : (a : Int) + b ≤ n := by
  unfold roomL at h
  split at h
  · omega
  · unfold roomL at h
    split at h
    · omega
    · unfold roomL at h
      split at h
      · omega
      · unfold roomL at h; omega
theorem cells3 (w : World) (x y z : Nat) : Cells .i64 (w.alloc (.cells #[.int .i64 (x : Int), .int .i64 (y : Int), .int .i64 (z : Int)] 3)) (some ⟨w.heap.size, 0, none⟩) [x, y, z] := by
  refine .inr ⟨_, 0, rfl, by simp, fun i hi => ?_⟩
  match i, hi with
  | 0, _ => go_simp
  | 1, _ => go_simp
  | 2, _ => go_simp
theorem room_z (n z : Int) (ao : Option Addr) (cap : Nat) (ks : List Nat) (w : World) (hn : -1 ≤ n) (hn2 : n ≤ 1000000000) (hc : Cells .i64 w ao ks) (hlen : ks.length ≤ 1000000) (hz : Hid (z = roomL n ks)) :
    Calls Tryd.prog 36 #[.int .i64 n, .slice ao ks.length cap] w fun e w' => e = .returned (.int .i64 z) ∧ Below w.heap.size w w' := by
  rw [hz.out]
  refine (room_any n ao cap ks w hn hn2 hc hlen).mono ?_
  rintro e w' ⟨rfl, rfl⟩
  exact ⟨rfl, Below.refl _ _⟩
theorem room_z3 (n z : Int) (ao : Option Addr) (x y t : Nat) (w : World) (hn : -1 ≤ n) (hn2 : n ≤ 1000000000) (hc : Cells .i64 w ao [x, y, t]) (hz : Hid (z = roomL n [x, y, t])) :
    Calls Tryd.prog 36 #[.int .i64 n, .slice ao 3 3] w fun e w' => e = .returned (.int .i64 z) ∧ Below w.heap.size w w' := room_z n z ao 3 [x, y, t] w hn hn2 hc (by simp) hz
end Go.Proofs.YtlmjkbdodecbmaaDoor

namespace Go.Proofs.YtlmjkbdodecbmaaDoor
open Go.RowKit
set_option linter.unusedVariables false
set_option linter.unusedSimpArgs false
/-- A slice of n elements of K cells each, of the call's own from block base on: its cells. -/
def OwnsK (K base : Nat) (e : TypeId) (w : World) (v : Value) (n : Nat) (xs : List Value) : Prop := w.ownsRow base e K v n xs
theorem OwnsK.nil (K base : Nat) (e : TypeId) (w : World) : OwnsK K base e w (.slice none 0 0) 0 [] := World.ownsRow_nil _ _ _ _
theorem OwnsK.len {K base : Nat} {e : TypeId} {w : World} {v : Value} {n : Nat} {xs : List Value} (h : OwnsK K base e w v n xs) : xs.length = n * K := h.1
theorem OwnsK.shape {K base : Nat} {e : TypeId} {w : World} {v : Value} {n : Nat} {xs : List Value} (h : OwnsK K base e w v n xs) :
    (v = .slice none 0 0 ∧ n = 0) ∨ ∃ g cap, v = .slice (some ⟨g, 0, none⟩) n cap ∧ base ≤ g ∧ g < w.heap.size ∧ n ≤ cap ∧ cap ≤ maxLen ∧
      (∀ j, j < n * K → w.cell? ⟨g, j, none⟩ = xs[j]?) ∧ (∀ j, w.frozen? ⟨g, j, none⟩ = false) := by
  have h0 := h
  obtain ⟨h1, ⟨rfl, hn⟩ | ⟨g, cap, cur, rfl, h2, h3, h4, h5, h6, h7⟩⟩ := h
  · exact .inl ⟨rfl, hn⟩
  · exact .inr ⟨g, cap, rfl, h2, (Array.getElem?_eq_some_iff.1 h3).1, h4, h5, fun j hj => World.ownsRow.cellAt h0 j (by omega), fun j => World.ownsRow.frozenAt h0 j⟩
theorem OwnsK.kept {K base : Nat} {e : TypeId} {w w' : World} {v : Value} {n : Nat} {xs : List Value} (h : OwnsK K base e w v n xs) (hb : Below w.heap.size w w') : OwnsK K base e w' v n xs :=
  World.ownsRow.kept (row := none) h ⟨hb.os, hb.tape, hb.output, hb.size, fun k hk _ => hb.block k hk⟩ (by cases hv : v.ownBlock <;> simp)
theorem OwnsK.alloc {K base : Nat} {e : TypeId} {w : World} {v : Value} {n : Nat} {xs : List Value} (h : OwnsK K base e w v n xs) (o : Obj) : OwnsK K base e (w.alloc o) v n xs := World.ownsRow.alloc h o
theorem OwnsK.mono {K base base' : Nat} {e : TypeId} {w : World} {v : Value} {n : Nat} {xs : List Value} (h : OwnsK K base e w v n xs) (hb : base' ≤ base) : OwnsK K base' e w v n xs := by
  obtain ⟨h1, h2 | ⟨g, cap, cur, h2, h3, h4⟩⟩ := h
  · exact ⟨h1, .inl h2⟩
  · exact ⟨h1, .inr ⟨g, cap, cur, h2, by omega, h4⟩⟩
/-- What the program's tables say of a slice type whose elements are K cells. -/
structure ElemK (P : Program) (t e : TypeId) (z : Value) (K bytes : Nat) : Prop where
  und : P.underlying t = some (.slice e)
  info : ∃ i, P.info? e = some i ∧ i.zero = some z ∧ i.size = K ∧ i.bytes = bytes
  many : z.cells.size = K
  pos : 0 < K
theorem elemK_of {P : Program} {t e : TypeId} {z : Value} {K bytes : Nat} (h1 : P.underlying t = some (.slice e)) (h2 : (P.info? e).map (fun i => (i.zero, i.size, i.bytes)) = some (some z, K, bytes)) (h3 : z.cells.size = K) (h4 : 0 < K) : ElemK P t e z K bytes :=
  ⟨h1, info_parts h2, h3, h4⟩
end Go.Proofs.YtlmjkbdodecbmaaDoor

namespace Go.Proofs.YtlmjkbdodecbmaaDoor
open Go.RowKit
set_option linter.unusedVariables false
set_option linter.unusedSimpArgs false
/-- A block whose first cells hold these, a variable of the call's own. -/
structure BoxL (w : World) (b : Nat) (xs : List Value) : Prop where
  cell : ∀ (i : Nat) (x : Value), xs[i]? = some x → w.cell? ⟨b, i, none⟩ = some x
  free : ∀ (i : Nat), i < xs.length → w.frozen? ⟨b, i, none⟩ = false
  lt : b < w.heap.size
theorem BoxL.block {w w' : World} {b : Nat} {xs : List Value} (h : BoxL w b xs) (hg : w'.heap[b]? = w.heap[b]?) : BoxL w' b xs :=
  ⟨fun i x hi => (World.cell?_of_block (w := w) (a := ⟨b, i, none⟩) hg).trans (h.cell i x hi), fun i hi => (World.frozen?_of_block (w := w) (a := ⟨b, i, none⟩) hg).trans (h.free i hi), by
    have h1 : w.heap[b]? = some (w.heap[b]'h.lt) := Array.getElem?_eq_getElem h.lt
    rw [← hg] at h1; exact (Array.getElem?_eq_some_iff.1 h1).1⟩
theorem BoxL.kept {w w' : World} {b : Nat} {xs : List Value} (h : BoxL w b xs) (hb : Below w.heap.size w w') : BoxL w' b xs := h.block (hb.block b h.lt)
theorem BoxL.below {w w' : World} {b B : Nat} {xs : List Value} (h : BoxL w b xs) (hb : Below B w w') (hB : b < B) : BoxL w' b xs := h.block (hb.block b hB)
theorem BoxL.drew {w : World} {b : Nat} {xs : List Value} (h : BoxL w b xs) : BoxL w.drew b xs := ⟨h.cell, h.free, h.lt⟩
theorem BoxL.new (w : World) (xs : List Value) (t : TypeId) : BoxL (w.alloc (.cells xs.toArray t)) w.heap.size xs := by
  refine ⟨fun i x hi => ?_, fun i hi => ?_, by simp⟩
  · unfold World.cell?
    rw [show (w.alloc (.cells xs.toArray t)).heap[w.heap.size]? = some (.cells xs.toArray t) from heap_alloc_new w _]
    simpa using hi
  · unfold World.frozen?
    rw [show (w.alloc (.cells xs.toArray t)).heap[w.heap.size]? = some (.cells xs.toArray t) from heap_alloc_new w _]
    simp
theorem BoxL.set {w : World} {b : Nat} {xs : List Value} (h : BoxL w b xs) (i : Nat) (u : Value) (hi : i < xs.length) : BoxL (w.setCell ⟨b, i, none⟩ u) b (xs.set i u) := by
  refine ⟨fun j x hj => ?_, fun j hj => ?_, by simpa [World.setCell] using h.lt⟩
  · by_cases e : j = i
    · subst e
      rw [List.getElem?_set_self hi] at hj
      cases hj
      exact cell_set (h.cell j (xs[j]'hi) (List.getElem?_eq_getElem hi))
    · rw [List.getElem?_set_ne (fun h => e h.symm)] at hj
      rw [World.cell?_setCell_other]
      · exact h.cell j x hj
      · intro e'; have h2 : i = j := by injection e'
        exact e h2.symm
  · rw [World.frozen?_setCell]
    exact h.free j (by simpa using hj)
theorem BoxL.of1 {w : World} {b : Nat} {x0 : Value} (c0 : w.cell? ⟨b, 0, none⟩ = some x0) (f0 : w.frozen? ⟨b, 0, none⟩ = false) : BoxL w b [x0] := by
  refine ⟨fun i x hi => ?_, fun i hi => ?_, World.block_lt_of_cell? w ⟨b, 0, none⟩ c0⟩
  · match i, hi with
    | 0, hi => simp at hi; subst hi; exact c0
  · match i, hi with
    | 0, hi => exact f0
/-- From w on to w': no old block has turned but those of S. -/
structure Keep (S : Nat → Prop) (w w' : World) : Prop where
  os : w'.os = w.os
  tape : w'.tape = w.tape
  output : w'.output = w.output
  size : w.heap.size ≤ w'.heap.size
  same : ∀ k, k < w.heap.size → ¬ S k → w'.heap[k]? = w.heap[k]?
theorem Keep.refl (S : Nat → Prop) (w : World) : Keep S w w := ⟨rfl, rfl, rfl, Nat.le_refl _, fun _ _ _ => rfl⟩
theorem Keep.of_below {S : Nat → Prop} {w w' : World} (h : Below w.heap.size w w') : Keep S w w' := ⟨h.os, h.tape, h.output, h.size, fun k hk _ => h.block k hk⟩
theorem Keep.trans {S S' : Nat → Prop} {a b c : World} (h : Keep S a b) (h' : Keep S' b c) (hS : ∀ k, k < a.heap.size → S' k → S k) : Keep S a c :=
  ⟨h'.os.trans h.os, h'.tape.trans h.tape, h'.output.trans h.output, Nat.le_trans h.size h'.size, fun k hk hs => (h'.same k (Nat.lt_of_lt_of_le hk h.size) (fun h2 => hs (hS k hk h2))).trans (h.same k hk hs)⟩
theorem Keep.then_below {S : Nat → Prop} {a b c : World} (h : Keep S a b) (h' : Below b.heap.size b c) : Keep S a c := h.trans (Keep.of_below (S := fun _ => False) h') (fun _ _ h => h.elim)
theorem Keep.mono {S S' : Nat → Prop} {a b : World} (h : Keep S a b) (hS : ∀ k, k < a.heap.size → S k → S' k) : Keep S' a b := ⟨h.os, h.tape, h.output, h.size, fun k hk hs => h.same k hk (fun h2 => hs (hS k hk h2))⟩
theorem Keep.below {S : Nat → Prop} {a b : World} {B : Nat} (h : Keep S a b) (hS : ∀ k, S k → B ≤ k) (hB : B ≤ a.heap.size) : Below B a b :=
  ⟨h.os, h.tape, h.output, h.size, fun k hk => h.same k (by omega) (fun h2 => by have := hS k h2; omega)⟩
theorem Keep.set {S : Nat → Prop} {a b : World} (h : Keep S a b) (g j : Nat) (u : Value) (hg : S g ∨ a.heap.size ≤ g) : Keep S a (b.setCell ⟨g, j, none⟩ u) := by
  have hs := grownBy_set (grownBy_refl b (some g)) j u
  exact ⟨hs.os.trans h.os, hs.tape.trans h.tape, hs.output.trans h.output, Nat.le_trans h.size hs.size, fun k hk hs2 => (hs.block k (Nat.lt_of_lt_of_le hk h.size) (fun e => by
    cases e
    rcases hg with h1 | h1
    · exact hs2 h1
    · omega)).trans (h.same k hk hs2)⟩
theorem BoxL.keep {S : Nat → Prop} {w w' : World} {b : Nat} {xs : List Value} (h : BoxL w b xs) (hk : Keep S w w') (hs : ¬ S b) : BoxL w' b xs := h.block (hk.same b h.lt hs)
end Go.Proofs.YtlmjkbdodecbmaaDoor

namespace Go.Proofs.YtlmjkbdodecbmaaDoor
open Go.RowKit
set_option linter.unusedVariables false
set_option linter.unusedSimpArgs false
theorem valsRoom_le : ∀ (vs : List V3) (n : Int), 0 ≤ valsRoom n vs → n ≤ 4000 → ∀ v ∈ vs, v.n.length ≤ 4000 ∧ v.c.length ≤ 4000 := by
  intro vs
  induction vs with
  | nil => intro n _ _ v hv; cases hv
  | cons u r ih =>
    intro n h hn v hv
    unfold valsRoom at h
    by_cases h0 : n < 0
    · rw [if_pos h0] at h; omega
    · rw [if_neg h0] at h
      by_cases h1 : roomL n [1, u.n.length, u.c.length] < 0
      · rw [valsRoom_neg h1] at h; omega
      · have h2 := room_le (n := n) (a := u.n.length) (b := u.c.length) (by omega)
        rcases List.mem_cons.1 hv with rfl | hv
        · omega
        · rcases roomL_le n [1, u.n.length, u.c.length] with h3 | h3
          · exact ih _ h (by omega) v hv
          · omega
theorem roomL_sum (ks : List Nat) : ∀ {n : Int}, 0 ≤ roomL n ks → roomL n ks = n - ((ks.sum : Nat) : Int) ∧ 0 ≤ n := by
  induction ks with
  | nil => intro n h; unfold roomL at h ⊢; simp; exact h
  | cons k ks ih =>
    intro n h
    unfold roomL at h ⊢
    split at h
    · omega
    · rename_i h2
      rw [if_neg h2]
      obtain ⟨h3, h4⟩ := ih h
      rw [h3]
      simp only [List.sum_cons, Int.natCast_add]
      omega
/-- A field that is small. -/
structure Small (f : F5) : Prop where
  nm : f.nm.length ≤ 4000
  rn : f.r.n.length ≤ 4000
  rc : f.r.c.length ≤ 4000
  vals : f.vals.length ≤ 4000
/-- A field, and where the texts lie that it declares. -/
structure FV where
  f : F5
  vo : Option Addr
  vc : Nat
def FV.cells (x : FV) : List Value := [.string ⟨x.f.nm.toArray⟩, .int .i64 x.f.k, .slice x.vo x.f.vals.length x.vc, .int .i64 x.f.r.k, .string ⟨x.f.r.n.toArray⟩, .string ⟨x.f.r.c.toArray⟩, .int .i64 x.f.inv]
abbrev FV.val (x : FV) : Value := .agg #[.string ⟨x.f.nm.toArray⟩, .int .i64 x.f.k, .slice x.vo x.f.vals.length x.vc, .int .i64 x.f.r.k, .string ⟨x.f.r.n.toArray⟩, .string ⟨x.f.r.c.toArray⟩, .int .i64 x.f.inv]
/-- A row of fields in memory. -/
def Flds (w : World) (ao : Option Addr) (xs : List FV) : Prop :=
  (xs = [] ∨ ∃ b off, ao = some ⟨b, off, none⟩ ∧ b < w.heap.size ∧ ∀ i x, xs[i]? = some x → ∀ j c, x.cells[j]? = some c → w.cell? ⟨b, off + i * 7 + j, none⟩ = some c) ∧ ∀ x ∈ xs, Strs w (.slice x.vo x.f.vals.length x.vc) x.f.vals
theorem Flds.below {w w' : World} {ao : Option Addr} {xs : List FV} (h : Flds w ao xs) (hb : Below w.heap.size w w') : Flds w' ao xs := by
  refine ⟨?_, fun x hx => (h.2 x hx).below hb⟩
  rcases h.1 with h1 | ⟨b, off, h1, h2, h3⟩
  · exact .inl h1
  · exact .inr ⟨b, off, h1, Nat.lt_of_lt_of_le h2 hb.size, fun i x hi j c hj => (hb.cell (p := ⟨b, off + i * 7 + j, none⟩) h2).trans (h3 i x hi j c hj)⟩
/-- A field's cells, where they lie. -/
structure FldAt (w : World) (b o : Nat) (x : FV) : Prop where
  lt : b < w.heap.size
  c : ∀ j v, x.cells[j]? = some v → w.cell? ⟨b, o + j, none⟩ = some v
theorem FldAt.kept {w w' : World} {b o : Nat} {x : FV} (h : FldAt w b o x) (hb : Below w.heap.size w w') : FldAt w' b o x :=
  ⟨Nat.lt_of_lt_of_le h.lt hb.size, fun j v hj => (hb.cell (p := ⟨b, o + j, none⟩) h.lt).trans (h.c j v hj)⟩
theorem FldAt.drew {w : World} {b o : Nat} {x : FV} (h : FldAt w b o x) : FldAt w.drew b o x := ⟨h.lt, h.c⟩
theorem Flds.at {w : World} {ao : Option Addr} {xs : List FV} (h : Flds w ao xs) {i : Nat} {x : FV} (hi : xs[i]? = some x) : ∃ b off, ao = some ⟨b, off, none⟩ ∧ FldAt w b (off + i * 7) x := by
  rcases h.1 with rfl | ⟨b, off, h1, h2, h3⟩
  · simp at hi
  · exact ⟨b, off, h1, h2, h3 i x hi⟩
end Go.Proofs.YtlmjkbdodecbmaaDoor

namespace Go.Proofs.YtlmjkbdodecbmaaDoor
open Go.RowKit
set_option linter.unusedVariables false
set_option linter.unusedSimpArgs false
/-- A predicate. -/
inductive PT where
  | mk (op fld : Int) (vals : List V3) (kids : List PT)
instance : Inhabited PT := ⟨.mk 0 0 [] []⟩
def PT.op : PT → Int | .mk o _ _ _ => o
def PT.fld : PT → Int | .mk _ f _ _ => f
def PT.vals : PT → List V3 | .mk _ _ v _ => v
def PT.kids : PT → List PT | .mk _ _ _ k => k
theorem PT.ind {P : PT → Prop} (h : ∀ op fld vs ks, (∀ k ∈ ks, P k) → P (.mk op fld vs ks)) (p : PT) : P p :=
  PT.rec (motive_1 := P) (motive_2 := fun ks => ∀ k ∈ ks, P k) (fun op fld vs ks ih => h op fld vs ks ih) (by simp) (fun k ks h1 h2 x hx => by
    rcases List.mem_cons.1 hx with rfl | hx
    · exact h1
    · exact h2 x hx) p
mutual
/-- A predicate and all within it, each with its depth. -/
def walkP : Nat → PT → List (PT × Nat)
  | d, .mk o f v ks => (.mk o f v ks, d) :: walksP (d + 1) ks
def walksP : Nat → List PT → List (PT × Nat)
  | _, [] => []
  | d, k :: ks => walkP d k ++ walksP d ks
end
mutual
def sizeP : PT → Nat
  | .mk _ _ vs ks => 1 + (vs.length + sizesP ks)
def sizesP : List PT → Nat
  | [] => 0
  | k :: ks => sizeP k + sizesP ks
end
mutual
/-- What is left of the room behind a predicate. -/
def predR : Int → PT → Int
  | n, .mk _ _ vs ks => predsR (valsRoom (roomL n [1]) vs) ks
def predsR : Int → List PT → Int
  | n, [] => n
  | n, k :: ks => if n < 0 then n else predsR (predR n k) ks
end
theorem walkP_eq (d : Nat) (p : PT) : walkP d p = (p, d) :: walksP (d + 1) p.kids := by cases p; rfl
theorem walksP_append (d : Nat) (a b : List PT) : walksP d (a ++ b) = walksP d a ++ walksP d b := by
  induction a with
  | nil => rfl
  | cons k ks ih => rw [List.cons_append, walksP, walksP, ih, List.append_assoc]
theorem predR_eq (n : Int) (p : PT) : predR n p = predsR (valsRoom (roomL n [1]) p.vals) p.kids := by cases p; rw [predR]; rfl
theorem predsR_neg {n : Int} (h : n < 0) (ks : List PT) : predsR n ks = n := by
  cases ks with
  | nil => rfl
  | cons k r => rw [predsR, if_pos h]
theorem predsR_drop {n : Int} {ks : List PT} {i : Nat} {k : PT} (h : ks[i]? = some k) (hn : ¬ n < 0) : predsR n (ks.drop i) = predsR (predR n k) (ks.drop (i + 1)) := by
  have hi : i < ks.length := (List.getElem?_eq_some_iff.1 h).1
  rw [List.drop_eq_getElem_cons hi, (List.getElem?_eq_some_iff.1 h).2, predsR, if_neg hn]
theorem valsRoom_sum : ∀ (vs : List V3) (n : Int), 0 ≤ valsRoom n vs → valsRoom n vs + ((vs.length : Nat) : Int) ≤ n ∧ 0 ≤ n := by
  intro vs
  induction vs with
  | nil => intro n h; unfold valsRoom at h ⊢; simp; exact h
  | cons u r ih =>
    intro n h
    unfold valsRoom at h ⊢
    by_cases h0 : n < 0
    · rw [if_pos h0] at h; omega
    · rw [if_neg h0] at h ⊢
      obtain ⟨h1, h2⟩ := ih _ h
      obtain ⟨h3, h4⟩ := roomL_sum _ h2
      simp only [List.sum_cons, List.sum_nil, Int.natCast_add] at h3
      rw [List.length_cons]
      omega
/-- All texts and lists within are short. -/
inductive SmP (K : Nat) : PT → Prop
  | mk {op fld : Int} {vs : List V3} {ks : List PT} (hv : vs.length ≤ K) (hk : ks.length ≤ K) (ht : ∀ v ∈ vs, v.n.length ≤ K ∧ v.c.length ≤ K) (hs : ∀ k ∈ ks, SmP K k) : SmP K (.mk op fld vs ks)
theorem SmP.out {K : Nat} {p : PT} (h : SmP K p) : p.vals.length ≤ K ∧ p.kids.length ≤ K ∧ (∀ v ∈ p.vals, v.n.length ≤ K ∧ v.c.length ≤ K) ∧ ∀ k ∈ p.kids, SmP K k := by
  cases h with
  | mk hv hk ht hs => exact ⟨hv, hk, ht, hs⟩
theorem sizesP_len (ks : List PT) : ks.length ≤ sizesP ks := by
  induction ks with
  | nil => exact Nat.zero_le _
  | cons k ks ih =>
    rw [List.length_cons, sizesP]
    have : 1 ≤ sizeP k := by cases k; rw [sizeP]; omega
    omega
theorem predR_le (p : PT) : ∀ n : Int, 0 ≤ predR n p → n ≤ 4000 → predR n p + ((sizeP p : Nat) : Int) ≤ n ∧ 0 ≤ n ∧ SmP 4000 p := by
  refine PT.rec (motive_1 := fun p => ∀ n : Int, 0 ≤ predR n p → n ≤ 4000 → predR n p + ((sizeP p : Nat) : Int) ≤ n ∧ 0 ≤ n ∧ SmP 4000 p) (motive_2 := fun ks => ∀ n : Int, 0 ≤ predsR n ks → n ≤ 4000 → predsR n ks + ((sizesP ks : Nat) : Int) ≤ n ∧ 0 ≤ n ∧ ∀ k ∈ ks, SmP 4000 k) ?_ ?_ ?_ p
  · intro op fld vs ks ih n h hn
    rw [predR] at h ⊢
    rw [sizeP]
    have h0 : 0 ≤ valsRoom (roomL n [1]) vs := by
      by_cases h8 : valsRoom (roomL n [1]) vs < 0
      · rw [predsR_neg h8] at h; omega
      · omega
    obtain ⟨h1, h2⟩ := valsRoom_sum _ _ h0
    obtain ⟨h3, h4⟩ := roomL_sum _ h2
    simp only [List.sum_cons, List.sum_nil, Int.natCast_add] at h3
    obtain ⟨h5, h6, h7⟩ := ih _ h (by omega)
    have h8 := sizesP_len ks
    have h9 := valsRoom_le vs _ h0 (by omega)
    refine ⟨by omega, by omega, .mk (by omega) (by omega) h9 h7⟩
  · intro n h hn
    rw [predsR] at h ⊢
    rw [sizesP]
    exact ⟨by omega, h, by simp⟩
  · intro k ks ih1 ih2 n h hn
    rw [predsR] at h ⊢
    rw [sizesP]
    by_cases h0 : n < 0
    · rw [if_pos h0] at h; omega
    · rw [if_neg h0] at h ⊢
      have h9 : 0 ≤ predR n k := by
        by_cases h8 : predR n k < 0
        · rw [predsR_neg h8] at h; omega
        · omega
      obtain ⟨h1, h2, h3⟩ := ih1 n h9 hn
      obtain ⟨h4, h5, h6⟩ := ih2 _ h (by omega)
      refine ⟨by omega, h2, fun x hx => ?_⟩
      rcases List.mem_cons.1 hx with rfl | hx
      · exact h3
      · exact h6 x hx
def predB (p : PT) : Bool := decide (0 ≤ predR 600 p)
theorem predB_le {p : PT} (h : predB p = true) : sizeP p ≤ 600 ∧ SmP 4000 p := by
  unfold predB at h
  simp only [decide_eq_true_eq] at h
  obtain ⟨h1, h2, h3⟩ := predR_le p 600 h (by decide)
  exact ⟨by omega, h3⟩
theorem walkP_len (p : PT) : ∀ d, (walkP d p).length ≤ sizeP p := by
  refine PT.rec (motive_1 := fun p => ∀ d, (walkP d p).length ≤ sizeP p) (motive_2 := fun ks => ∀ d, (walksP d ks).length ≤ sizesP ks) ?_ ?_ ?_ p
  · intro op fld vs ks ih d
    rw [walkP, sizeP, List.length_cons]
    have := ih (d + 1)
    omega
  · intro d; rw [walksP, sizesP]; exact Nat.le_refl _
  · intro k ks ih1 ih2 d
    rw [walksP, sizesP, List.length_append]
    have := ih1 d
    have := ih2 d
    omega
/-- What is within a predicate is no deeper than it has parts. -/
theorem walkP_depth (p : PT) : ∀ d x, x ∈ walkP d p → d ≤ x.2 ∧ x.2 < d + sizeP p := by
  refine PT.rec (motive_1 := fun p => ∀ d x, x ∈ walkP d p → d ≤ x.2 ∧ x.2 < d + sizeP p) (motive_2 := fun ks => ∀ d x, x ∈ walksP d ks → d ≤ x.2 ∧ x.2 < d + sizesP ks) ?_ ?_ ?_ p
  · intro op fld vs ks ih d x hx
    rw [walkP] at hx
    rw [sizeP]
    rcases List.mem_cons.1 hx with rfl | hx
    · exact ⟨Nat.le_refl _, by show d < _; omega⟩
    · have := ih _ _ hx
      omega
  · intro d x hx; rw [walksP] at hx; cases hx
  · intro k ks ih1 ih2 d x hx
    rw [walksP] at hx
    rw [sizesP]
    rcases List.mem_append.1 hx with hx | hx
    · have := ih1 _ _ hx; omega
    · have := ih2 _ _ hx; omega
/-- What is still to be told: a heap whose top is the last one. -/
def todoP (st : List (PT × Nat)) : List (PT × Nat) := st.reverse.flatMap fun x => walkP x.2 x.1
theorem todoP_pop (st : List (PT × Nat)) (x : PT × Nat) : todoP (st ++ [x]) = x :: (walksP (x.2 + 1) x.1.kids ++ todoP st) := by
  unfold todoP
  rw [List.reverse_append, List.reverse_singleton, List.singleton_append, List.flatMap_cons, walkP_eq]
  rfl
theorem todoP_push (st : List (PT × Nat)) (k : PT) (d : Nat) : todoP (st ++ [(k, d)]) = walkP d k ++ todoP st := by
  unfold todoP
  rw [List.reverse_append, List.reverse_singleton, List.singleton_append, List.flatMap_cons]
end Go.Proofs.YtlmjkbdodecbmaaDoor

namespace Go.Proofs.YtlmjkbdodecbmaaDoor
open Go.RowKit
set_option linter.unusedVariables false
set_option linter.unusedSimpArgs false
theorem Strs.take {w : World} {ao : Option Addr} {c : Nat} {ls : List (List UInt8)} (h : Strs w (.slice ao ls.length c) ls) {k : Nat} (hk : k ≤ ls.length) : Strs w (.slice ao k c) (ls.take k) := by
  obtain ⟨ao', cap, e, h1, h2, h3⟩ := h
  cases e
  refine ⟨ao, c, by rw [List.length_take, Nat.min_eq_left hk], by rw [List.length_take]; omega, h2, ?_⟩
  rcases h3 with h3 | ⟨b, off, h4, h5, h6⟩
  · exact .inl (by rw [h3, List.take_nil])
  · refine .inr ⟨b, off, h4, h5, fun i hi => ?_⟩
    rw [List.length_take] at hi
    rw [List.getElem?_take_of_lt (by omega)]
    exact h6 i (by omega)
end Go.Proofs.YtlmjkbdodecbmaaDoor

namespace Go.Proofs.YtlmjkbdodecbmaaDoor
open Go.RowKit
set_option linter.unusedVariables false
set_option linter.unusedSimpArgs false
attribute [local go_sem] field_nat
theorem Strs.cellAt {w : World} {ao : Option Addr} {n c : Nat} {ls : List (List UInt8)} (h : Strs w (.slice ao n c) ls) {k : Nat} (hk : k < ls.length) : ∃ b off, ao = some ⟨b, off, none⟩ ∧ CellV w b (off + k) (.string ⟨(ls[k]?.getD []).toArray⟩) := by
  obtain ⟨ao', cap, e, h1, h2, h3⟩ := h
  cases e
  rcases h3 with h3 | ⟨b, off, h4, h5, h6⟩
  · rw [h3] at hk; simp at hk
  · exact ⟨b, off, h4, ⟨h6 k hk⟩⟩
end Go.Proofs.YtlmjkbdodecbmaaDoor
