/-
  Pd13: RefQ RefR MathT SeqB RatL CloN BookM (what is needed of them).
-/
import Derived.Test.YtlmjkbdodecbmaaDoorPd06
import Derived.Test.YtlmjkbdodecbmaaDoorPd08
import Derived.Test.YtlmjkbdodecbmaaDoorPd09
import Derived.Shelf.Strconv.Clone
import Derived.Test.YtlmjkbdodecbmaaDoorProg

namespace Go.Proofs.YtlmjkbdodecbmaaDoor
open Go.RowKit
set_option linter.unusedVariables false
set_option linter.unusedSimpArgs false
attribute [local go_sem] field_nat
theorem RIs.len {w : World} {o : Option Addr} {l c n : Nat} (h : RIs w (.slice o l c) n) : l = (rlimbs n).length := by
  obtain ⟨ao, cap, h1, _⟩ := h.open
  injection h1
end Go.Proofs.YtlmjkbdodecbmaaDoor

namespace Go.Proofs.YtlmjkbdodecbmaaDoor
open Go.RowKit
set_option linter.unusedVariables false
set_option linter.unusedSimpArgs false
attribute [local go_sem] field_nat
theorem str3 : str (dec 3) = [51] := str_dec (l := [51]) (by decide)
theorem str2 : str (dec 2) = [50] := str_dec (l := [50]) (by decide)
theorem dec_small {n : Nat} (h : n < 10) : (dec n).length ≤ 1200 := Nat.le_trans (dec_le (k := 1) (by omega) (by decide)) (by omega)
theorem QB.small {neg : Bool} {n d k : Nat} (hn : n < 4294967296) (hd : d < 4294967296) (h0 : 0 < d) (hk : 1 ≤ k) : QB (qOf neg n d) k := QB.of _ (limbs_bound hn hk) (limbs_bound hd hk) h0
theorem QB.int {v : Int} {k : Nat} (h : v.natAbs < 18446744073709551616) (hk : 2 ≤ k) : QB (v : Rat) k := by
  have hl : (limbs v.natAbs).length ≤ k := Nat.le_trans (limbs_length_le (k := 2) (by omega)) hk
  rcases (show v < 0 ∨ 0 ≤ v by omega) with h0 | h0
  · rw [← of_neg v h0]; exact QB.of _ hl (limbs_bound (by decide) (by omega)) (by decide)
  · rw [← of_pos v h0]; exact QB.of _ hl (limbs_bound (by decide) (by omega)) (by decide)
end Go.Proofs.YtlmjkbdodecbmaaDoor

namespace Go.Proofs.YtlmjkbdodecbmaaDoor
open Go.RowKit
set_option linter.unusedVariables false
section
variable {ops : Array Oper}
/-- What has come up, as a list and as a mask. -/
structure Rel (ops : Array Oper) (listed : Array Bool) (m : Nat) : Prop where
  size : listed.size = ops.size
  bit : ∀ j, listed.getD j false = m.testBit j
theorem Rel.set {listed : Array Bool} {m i : Nat} (h : Rel ops listed m) (hi : i < ops.size) : Rel ops (listed.setIfInBounds i true) (m ||| 2 ^ i) := by
  refine ⟨by simpa using h.size, fun j => ?_⟩
  rw [Nat.testBit_or, Nat.testBit_two_pow, ← h.bit]
  simp only [Array.getD_eq_getD_getElem?, Array.getElem?_setIfInBounds]
  split
  · rename_i e; subst e
    rw [if_pos (by rw [h.size]; exact hi)]; simp
  · rename_i e; simp [e]
variable {P : Program} {Q : Exit → Act → World → Prop} {S : World → Prop}
end
end Go.Proofs.YtlmjkbdodecbmaaDoor

namespace Go.Proofs
open Go.Shelf
def Tryd.laysM316_ren : Go.Shelf.Ren := ⟨fun | 316 => 98 | n => n, fun | 9 => 9 | 3 => 3 | 4 => 4 | 37 => 171 | 0 => 0 | 127 => 172 | 5 => 5 | n => n, fun | n => n⟩
theorem Tryd.laysM316 : Go.Proofs.LaysM.n316 Tryd.prog Tryd.laysM316_ren := {
  mixed := by kernel_rfl
  f316 := Tryd.func98.trans (congrArg some (by kernel_rfl))
  t0 := Tryd.underlying0
  a0 := Tryd.isAgg0
  z0 := Tryd.sizeOf0
  v0 := Tryd.zeroValue0
  t3 := Tryd.underlying3
  a3 := Tryd.isAgg3
  z3 := Tryd.sizeOf3
  v3 := Tryd.zeroValue3
  t4 := Tryd.underlying4
  a4 := Tryd.isAgg4
  z4 := Tryd.sizeOf4
  v4 := Tryd.zeroValue4
  t9 := Tryd.underlying9
  a9 := Tryd.isAgg9
  z9 := Tryd.sizeOf9
  v9 := Tryd.zeroValue9
  t37 := Tryd.underlying171
  a37 := Tryd.isAgg171
  z37 := Tryd.sizeOf171
  v37 := Tryd.zeroValue171
  t127 := Tryd.underlying172
  a127 := Tryd.isAgg172
  z127 := Tryd.sizeOf172
  v127 := Tryd.zeroValue172
  t5 := Tryd.underlying5
  a5 := Tryd.isAgg5
  z5 := Tryd.sizeOf5
  v5 := Tryd.zeroValue5
  i0 := by kernel_rfl
  i3 := by kernel_rfl
  i4 := by kernel_rfl
  i5 := by kernel_rfl
  i9 := by kernel_rfl
  i37 := by kernel_rfl
  i127 := by kernel_rfl }
open Go.RowKit
theorem Tryd.stringslite_Clone (s : ByteArray) (w : World) (hlim : s.size ≤ 281474976710656) :
    Calls Tryd.prog 98 #[.string s] w fun e w' => e = .returned (.string s) ∧ Below w.heap.size w w' := Any.stringslite_Clone Tryd.laysM316 s w hlim
end Go.Proofs

namespace Go.Proofs.YtlmjkbdodecbmaaDoor
open Go.RowKit
set_option linter.unusedVariables false
set_option linter.unusedSimpArgs false
/-- What is left of the room. -/
def roomL : Int → List Nat → Int
  | n, [] => n
  | n, k :: ks => if n < 0 ∨ n < (k : Int) then -1 else roomL (n - k) ks
theorem roomL_drop {n : Int} {ks : List Nat} {i : Nat} (hi : i < ks.length) : roomL n (ks.drop i) = if n < 0 ∨ n < ((ks[i]?.getD 0 : Nat) : Int) then -1 else roomL (n - (ks[i]?.getD 0 : Nat)) (ks.drop (i + 1)) := by
  rw [List.drop_eq_getElem_cons hi, List.getElem?_eq_getElem hi]; rfl
set_option maxRecDepth 100000 in
set_option maxHeartbeats 1000000 in
theorem room_any (n : Int) (ao : Option Addr) (cap : Nat) (ks : List Nat) (w : World) (hn : -1 ≤ n) (hn2 : n ≤ 1000000000) (hc : Cells .i64 w ao ks) (hlen : ks.length ≤ 1000000) :
    Calls Tryd.prog 36 #[.int .i64 n, .slice ao ks.length cap] w fun e w' => e = .returned (.int .i64 (roomL n ks)) ∧ w = w' := by
  go_enter Tryd.func36, Tryd.ntmps36
  go_wp2_with fail
  go_loopg [0, 5] ks.length (fun gg nv iv wr => ∃ (m : Int) (i : Nat), i + gg = ks.length ∧ iv = .int .i64 (i : Int) ∧ nv = .int .i64 m ∧ -1 ≤ m ∧ m ≤ 1000000000 ∧ roomL m (ks.drop i) = roomL n ks ∧ w = wr)
  case atStart => exact ⟨n, 0, by omega, rfl, rfl, hn, hn2, rfl, rfl⟩
  case round =>
    obtain ⟨m, i, hi, rfl, rfl, hm1, hm2, hr, rfl⟩ := hrel
    by_cases hil : i < ks.length
    · rcases hc with h | ⟨b, off, rfl, hb, hcell⟩
      · rw [h] at hil; simp at hil
      have c1 := hcell i hil
      have hd := roomL_drop (n := m) hil
      rw [hd] at hr
      have q1 : (0 : Int) ≤ (i : Int) := by omega
      have q2 : (i : Int) < (ks.length : Int) := by omega
      generalize ks[i]?.getD 0 = k at *
      have HR := Lib.hid hr
      clear hr hd hcell
      by_cases hneg : m < 0
      · have HN := Lib.hid (show roomL n ks = -1 by rw [← HR.out, if_pos (.inl hneg)])
        go_wp2_with fail
        go_ret
        exact ⟨ret_one (by rw [HN.out]; rfl), rfl⟩
      · by_cases hlt : m < (k : Int)
        · have HN := Lib.hid (show roomL n ks = -1 by rw [← HR.out, if_pos (.inr hlt)])
          go_wp2_with fail
          go_ret
          exact ⟨ret_one (by rw [HN.out]; rfl), rfl⟩
        · have HN := Lib.hid (show roomL (m - k) (ks.drop (i + 1)) = roomL n ks by rw [← HR.out, if_neg (by omega)])
          go_wp2_with fail
          go_roundg (gk - 1)
          case measure => omega
          case rel => exact ⟨m - k, i + 1, by omega, by go_num, rfl, by omega, by omega, HN.out, rfl⟩
    · have hd : ks.drop i = [] := List.drop_of_length_le (by omega)
      rw [hd] at hr
      have HR := Lib.hid hr
      clear hr hd
      go_wp2_with fail
      go_ret
      exact ⟨ret_one (by rw [← HR.out]; rfl), rfl⟩
end Go.Proofs.YtlmjkbdodecbmaaDoor
