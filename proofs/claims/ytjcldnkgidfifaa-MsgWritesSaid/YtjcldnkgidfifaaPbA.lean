/-
  pbuf: walks (1): PutVarint.
-/
import Derived.Test.YtjcldnkgidfifaaHeapN
import Derived.Test.YtjcldnkgidfifaaMathP
import Derived.Deep.LoopGhost
import Derived.Laws.BytesString
import Derived.WalkKit
import Derived.OwnWalk
import Derived.Laws.Bits64b
namespace Go.Proofs.Ytjcldnkgidfifaa
open Go.RowKit
set_option linter.unusedVariables false
set_option linter.unusedSimpArgs false

theorem Try.info5 : (Try.prog.info? 5).map (fun i => (i.zero, i.size, i.bytes)) = some (some (.int .u8 0), 1, 1) := by kernel_rfl
theorem E8 : Elem Try.prog 78 5 (.int .u8 0) 1 := elem_of Try.underlying78 Try.info5 rfl
def vnats (n : Nat) : List Nat := if n < 128 then [n] else (n % 128 + 128) :: vnats (n / 128)
decreasing_by omega
theorem vnats_lt {n : Nat} (h : n < 128) : vnats n = [n] := by rw [vnats, if_pos h]
theorem vnats_ge {n : Nat} (h : 128 ≤ n) : vnats n = (n % 128 + 128) :: vnats (n / 128) := by rw [vnats, if_neg (by omega)]
theorem str_vnats (n : Nat) : str (vnats n) = vbytes n := by
  induction n using Nat.strongRecOn with
  | _ n ih =>
    by_cases h : n < 128
    · rw [vnats_lt h, vbytes_lt h]; rfl
    · rw [vnats_ge (by omega), vbytes_ge (by omega), ← ih (n / 128) (by omega)]; rfl
theorem or128 (k : Nat) (h : k < 256) : bits .or .u8 (k : Int) 128 = ((k % 128 + 128 : Nat) : Int) := by
  have h9 : ∀ x : Fin 256, bits .or .u8 ((x.val : Nat) : Int) 128 = ((x.val % 128 + 128 : Nat) : Int) := by decide +kernel
  exact h9 ⟨k, h⟩
theorem and127 (k : Nat) (h : k < 256) : bits .and .u8 (k : Int) 127 = ((k % 128 : Nat) : Int) := by
  have h9 : ∀ x : Fin 256, bits .and .u8 ((x.val : Nat) : Int) 127 = ((x.val % 128 : Nat) : Int) := by decide +kernel
  exact h9 ⟨k, h⟩
theorem or_add (v c i : Nat) (hv : v < 2 ^ i) (hs : v + c * 2 ^ i < 18446744073709551616) : bits .or .u64 (v : Int) ((c * 2 ^ i : Nat) : Int) = ((v + c * 2 ^ i : Nat) : Int) := by
  rw [bits_or_u64_nat v (c * 2 ^ i) (by omega) (by omega)]
  congr 1
  rw [Nat.or_comm, Nat.mul_comm c, ← Nat.two_pow_add_eq_or_of_lt hv]; omega
theorem vnats_len (n : Nat) : (vnats n).length = (vbytes n).length := by rw [← str_vnats]; simp [str]

set_option maxRecDepth 100000 in
set_option maxHeartbeats 1000000 in
theorem pvarint_any (n : Nat) (w : World) (hn : n < 18446744073709551616) :
    Calls Try.prog 38 #[.int .u64 n] w fun e w' => e = .returned (.string ⟨(vbytes n).toArray⟩) ∧ Below w.heap.size w w' := by
  have hl10 : (vnats n).length ≤ 10 := by rw [vnats_len]; exact vbytes_ten hn
  have HS := Lib.hid (str_vnats n)
  go_enter Try.func38, Try.ntmps38
  go_wp2_with fail
  go_loopg [0, 3] n (fun m nv ov wr => ∃ (ds : List Nat), nv = .int .u64 (m : Int) ∧ m ≤ n ∧ Owns w.heap.size 5 wr ov (ints .u8 ds) ∧ Hid (ds ++ vnats m = vnats n) ∧ ds.length ≤ 9 ∧ Below w.heap.size w wr)
  case atStart => exact ⟨[], rfl, Nat.le_refl _, Owns.nil _ _ _, Lib.hid rfl, by simp, Below.refl _ _⟩
  case round =>
    obtain ⟨ds, rfl, hmn, ho, HV, hdl, hb⟩ := hrel
    have hlk := ints_length .u8 ds
    have hm64 : gk < 18446744073709551616 := by omega
    by_cases h128 : gk < 128
    · have hc : ¬ (128 : Int) ≤ (gk : Int) := by omega
      have hfin : Hid (str (ds ++ [gk]) = vbytes n) := Lib.hid (by rw [← HS.out, ← HV.out, vnats_lt h128])
      go_wp2_with (at_builtin; refine append1 E8 ho rfl rfl rfl rfl rfl (by rw [hlk]; omega) (by rw [hlk]; unfold maxLen; omega) hb.size ?_; intro v' w5 ho5 hb5 hg5; rw [show ints .u8 ds ++ [Value.int .u8 (gk : Int)] = ints .u8 (ds ++ [gk]) from by rw [ints_append]; rfl] at ho5; obtain ⟨ao3, cap3, rfl, hcap3, hcapm3, hnil3, hc3⟩ := ho5.toInts; have hcv := conv_string (P := Try.prog) Try.underlying78 Try.underlying5 Try.underlying9 hc3 cap3; generalize hrl : (ds ++ [gk]).length = rl at *; have HR := Lib.hid hrl; clear hrl)
      go_ret
      exact ⟨ret_one (congrArg (fun l : List UInt8 => Value.string ⟨l.toArray⟩) hfin.out), hb.trans (hb5.mono (Nat.le_refl _))⟩
    · have hc : (128 : Int) ≤ (gk : Int) := by omega
      go_wp2_with (at_builtin; refine append1 E8 ho rfl rfl rfl rfl rfl (by rw [hlk]; omega) (by rw [hlk]; unfold maxLen; omega) hb.size ?_; intro v' w5 ho5 hb5 hg5)
      go_roundg (gk / 128)
      case measure => omega
      case rel => exact ⟨ds ++ [gk % 128 + 128], by go_num, by omega, by rw [ints_append, show ints .u8 [gk % 128 + 128] = [Value.int .u8 (bits BinOp.or IntKind.u8 ((gk : Int) % 256) 128)] by rw [show (gk : Int) % 256 = ((gk % 256 : Nat) : Int) by omega, or128 _ (by omega), show gk % 256 % 128 = gk % 128 by omega]; rfl]; exact ho5, Lib.hid (by rw [← HV.out, vnats_ge (n := gk) (by omega)]; simp), by have h8 := congrArg List.length HV.out; rw [List.length_append] at h8; have h9 := vbytes_pos (gk / 128); rw [← vnats_len] at h9; rw [vnats_ge (n := gk) (by omega)] at h8; simp at h8 ⊢; omega, hb.trans (hb5.mono (Nat.le_refl _))⟩

theorem byte_at (l : List UInt8) (k : Nat) (hk : k < l.length) (h : k < (⟨l.toArray⟩ : ByteArray).size) : (((⟨l.toArray⟩ : ByteArray)[k]'h).toNat : Int) = ((l[k]?.getD 0).toNat : Int) := by
  show ((l.toArray[k]'h).toNat : Int) = _
  simp [hk]
theorem getV_at {i acc : Nat} {b : List UInt8} (h : i < b.length) (hi : i < 10) : getV i acc (b.drop i) = if i = 9 ∧ 1 < (b[i]?.getD 0).toNat then none else if (b[i]?.getD 0).toNat < 128 then some (acc + (b[i]?.getD 0).toNat % 128 * 128 ^ i, i + 1) else getV (i + 1) (acc + (b[i]?.getD 0).toNat % 128 * 128 ^ i) (b.drop (i + 1)) := by
  rw [List.drop_eq_getElem_cons h, getV, if_neg (by omega), List.getElem?_eq_getElem h]; rfl
theorem getV_end {i acc : Nat} {b : List UInt8} (h : ¬ (i < b.length ∧ i < 10)) : getV i acc (b.drop i) = none := by
  by_cases h1 : i < b.length
  · rw [List.drop_eq_getElem_cons h1, getV, if_pos (by omega)]
  · rw [List.drop_eq_nil_of_le (by omega)]; rfl
/-- What is told of a number that is read. -/
def tellV (o : Option (Nat × Nat)) : Value := match o with
  | some (v, k) => .tuple #[.int .u64 (v : Int), .int .i64 (k : Int), .bool true]
  | none => .tuple #[.int .u64 0, .int .i64 0, .bool false]
set_option maxRecDepth 100000 in
set_option maxHeartbeats 1000000 in
theorem gvarint_any (b : List UInt8) (o : Option (Nat × Nat)) (w : World) (hb : b.length ≤ 9223372036854775807) (hr : Hid (getV 0 0 b = o)) :
    Calls Try.prog 43 #[.string ⟨b.toArray⟩] w fun e w' => e = .returned (tellV o) ∧ Below w.heap.size w w' := by
  go_enter Try.func43, Try.ntmps43
  go_wp2_with fail
  go_step3
  go_wp2_with fail
  go_step3
  go_wp2_with fail
  go_loopg [5, 10] 10 (fun g vv iv wr => ∃ (i acc : Nat), i + g = 10 ∧ vv = .int .u64 (acc : Int) ∧ iv = .int .i64 (i : Int) ∧ acc < 128 ^ i ∧ i ≤ b.length ∧ Hid (getV i acc (b.drop i) = o) ∧ Below w.heap.size w wr)
  case atStart => exact ⟨0, 0, by omega, rfl, rfl, by decide, by omega, hr, Below.refl _ _⟩
  case round =>
    obtain ⟨i, acc, hi, rfl, rfl, ha, hil, HV, hbf⟩ := hrel
    clear hr
    by_cases hlt : i < b.length ∧ i < 10
    · obtain ⟨h1, h2⟩ := hlt
      have hg := getV_at (acc := acc) h1 h2
      have hby := byte_at b i h1 (by simpa [ByteArray.size] using h1)
      have hc256 : (b[i]?.getD 0).toNat < 256 := (b[i]?.getD 0).toNat_lt
      have hm : (i : Int) < min ((b.length : Nat) : Int) 10 := by omega
      have hi1 : (i : Int) < ((b.length : Nat) : Int) := by omega
      have hi2 : (i : Int) < 10 := by omega
      rw [HV.out] at hg
      have HG := Lib.hid hg
      clear hg HV
      generalize (b[i]?.getD 0).toNat = c at *
      have hand := and127 c hc256
      obtain ⟨d, hd⟩ : ∃ d, d = c % 128 := ⟨_, rfl⟩
      rw [← hd] at hand
      have hd128 : d < 128 := by omega
      have hq0 : (0 : Int) ≤ (i : Int) := by omega
      have hpw : (128 : Nat) ^ i = 2 ^ (7 * i) := by rw [Nat.pow_mul]
      have hstep : d * 2 ^ (7 * i) ≤ 127 * 2 ^ (7 * i) := Nat.mul_le_mul_right _ (by omega)
      have hcase : i = 9 ∧ 1 < c ∨ (d * 2 ^ (7 * i) + acc < 18446744073709551616) := by
        by_cases h9 : i = 9
        · subst h9
          by_cases h1c : 1 < c
          · exact .inl ⟨rfl, h1c⟩
          · right
            have : d * 2 ^ (7 * 9) ≤ 1 * 2 ^ (7 * 9) := Nat.mul_le_mul_right _ (by omega)
            have e : (128 : Nat) ^ 9 = 9223372036854775808 := by decide
            have e2 : (2 : Nat) ^ (7 * 9) = 9223372036854775808 := by decide
            omega
        · right
          have h8 : 128 ^ (i + 1) ≤ 128 ^ 9 := Nat.pow_le_pow_right (by decide) (by omega)
          have e : (128 : Nat) ^ 9 = 9223372036854775808 := by decide
          rw [Nat.pow_succ, hpw] at h8
          rw [hpw] at ha
          omega
      have HPW := Lib.hid hpw
      by_cases h9 : i = 9 ∧ 1 < c
      · obtain ⟨h9, h1c⟩ := h9
        have h9b : ((i : Int) == 9) = true := by rw [beq_iff_eq]; omega
        have hi3 : (1 : Int) < (c : Int) := by omega
        have hn : o = none := by rw [HG.out, if_pos ⟨h9, h1c⟩]
        clear HG hcase hstep hpw
        subst hn
        clear hand hd h9
        go_wp2_with fail
        (try rw [Exit.noGoto_ret])
        go_ret3
        exact ⟨rfl, hbf⟩
      · have hsum : acc + d * 2 ^ (7 * i) < 18446744073709551616 := by
          rcases hcase with h | h
          · exact (h9 h).elim
          · omega
        have hwr : IntKind.u64.wrap ((d : Int) * 2 ^ (7 * i)) = ((d * 2 ^ (7 * i) : Nat) : Int) := by
          rw [show (d : Int) * 2 ^ (7 * i) = ((d * 2 ^ (7 * i) : Nat) : Int) by simp]; exact IntWalk.u64_in _ (by omega)
        have hor := or_add acc d (7 * i) (by rw [← hpw]; exact ha) hsum
        have HS2 : Hid (acc + d * 2 ^ (7 * i) < 128 ^ (i + 1)) := Lib.hid (by rw [Nat.pow_succ, hpw]; rw [hpw] at ha; omega)
        have HG2 : Hid (o = if c < 128 then some (acc + d * 2 ^ (7 * i), i + 1) else getV (i + 1) (acc + d * 2 ^ (7 * i)) (b.drop (i + 1))) := Lib.hid (by rw [HG.out, if_neg h9, hd, hpw])
        clear HG hcase hstep hpw hsum
        generalize hT : acc + d * 2 ^ (7 * i) = T at *
        generalize d * 2 ^ (7 * i) = Y at *
        rw [← hwr] at hor
        have HOR := Lib.hid hor
        clear hT hd hwr hor
        by_cases h7 : c < 128
        · have hc7 : (c : Int) < 128 := by omega
          have hn : o = some (T, i + 1) := by rw [HG2.out, if_pos h7]
          clear HG2
          subst hn
          by_cases h9b : i = 9
          · have h9c : ((i : Int) == 9) = true := by rw [beq_iff_eq]; omega
            have hc1 : ¬ (1 : Int) < (c : Int) := by omega
            clear h9b h9
            go_wp2_with fail
            (try rw [Exit.noGoto_ret])
            go_ret3
            exact ⟨by unfold tellV; simp [HOR.out], hbf⟩
          · have h9c : ((i : Int) == 9) = false := by rw [beq_eq_false_iff_ne]; omega
            go_wp2_with fail
            (try rw [Exit.noGoto_ret])
            go_ret3
            exact ⟨by unfold tellV; simp [HOR.out], hbf⟩
        · have hc7 : ¬ (c : Int) < 128 := by omega
          have h9b : ¬ i = 9 := fun h => by have : 1 < c := by omega
                                            exact h9 ⟨h, this⟩
          have h9c : ((i : Int) == 9) = false := by rw [beq_eq_false_iff_ne]; omega
          go_wp2_with fail
          go_roundg (gk - 1)
          case measure => omega
          case rel => exact ⟨i + 1, T, by omega, by rw [HOR.out], by go_num, HS2.out, by omega, Lib.hid (by rw [HG2.out, if_neg h7]), hbf⟩
    · have hn : o = none := by rw [← HV.out]; exact getV_end hlt
      subst hn
      have hm : ¬ (i : Int) < min ((b.length : Nat) : Int) 10 := by omega
      go_wp2_with fail
      (try rw [Exit.noGoto_ret])
      go_ret3
      exact ⟨rfl, hbf⟩
end Go.Proofs.Ytjcldnkgidfifaa
