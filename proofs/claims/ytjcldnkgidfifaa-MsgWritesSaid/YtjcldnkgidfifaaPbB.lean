/-
  pbuf: walks (2): right, low, high, Put.
-/
import Derived.Test.YtjcldnkgidfifaaPbA
import Derived.Test.YtjcldnkgidfifaaHeapM
import Derived.Deep.LoopGhost
import Derived.WalkKit
import Derived.OwnWalk
namespace Go.Proofs.Ytjcldnkgidfifaa
open Go.RowKit
set_option linter.unusedVariables false
set_option linter.unusedSimpArgs false

/-- A field as a value. -/
abbrev fldV (num kind place : Int) (val : Nat) (data : List UInt8) : Value := .agg #[.int .i64 num, .int .i64 kind, .int .i64 place, .int .u64 (val : Int), .string ⟨data.toArray⟩]
theorem nil_or (l : List UInt8) : l = [] ∨ (l == []) = false := by
  cases l with
  | nil => exact .inl rfl
  | cons x l => exact .inr rfl
theorem shr32_yes {v : Nat} (h : v < 4294967296) : ((v : Int) / 4294967296 == 0) = true := by rw [beq_iff_eq]; omega
theorem shr32_no {v : Nat} (h : ¬ v < 4294967296) : ((v : Int) / 4294967296 == 0) = false := by rw [beq_eq_false_iff_ne]; omega

set_option maxRecDepth 100000 in
set_option maxHeartbeats 2000000 in
theorem right_b (num kind place : Int) (val : Nat) (data : List UInt8) (b : Bool) (w : World) (HB : Hid (b = rightF num kind val data)) (hval : val < 18446744073709551616) (hdl : data.length ≤ 9223372036854775807) :
    Calls Try.prog 48 #[fldV num kind place val data] w fun e w' => e = .returned (.bool b) ∧ Below w.heap.size w w' := by
  by_cases hn1 : num < 1
  case pos =>
    have h1n : ¬ 1 ≤ num := by omega
    have hbb : b = false := by rw [HB.out]; unfold rightF; simp [h1n]
    subst hbb
    clear HB
    go_enter Try.func48, Try.ntmps48
    go_wp2_with fail
    go_ret
    exact ⟨rfl, (Below.refl _ w).alloc (Nat.le_refl _) _⟩
  case neg =>
    by_cases hn2 : 536870911 < num
    case pos =>
      have h1 : 1 ≤ num := by omega
      have h2n : ¬ num ≤ 536870911 := by omega
      have hbb : b = false := by rw [HB.out]; unfold rightF; simp [h1, h2n]
      subst hbb
      clear HB
      go_enter Try.func48, Try.ntmps48
      go_wp2_with fail
      go_ret
      exact ⟨rfl, (Below.refl _ w).alloc (Nat.le_refl _) _⟩
    case neg =>
      have h1 : 1 ≤ num := by omega
      have h2 : num ≤ 536870911 := by omega
      by_cases k0 : kind = 0
      case pos =>
        subst k0
        rcases nil_or data with hd | hd
        · subst hd
          have hbb : b = true := by rw [HB.out]; unfold rightF; simp [h1, h2]
          subst hbb
          clear HB
          go_enter Try.func48, Try.ntmps48
          go_wp2_with fail
          go_ret
          exact ⟨rfl, (Below.refl _ w).alloc (Nat.le_refl _) _⟩
        · have hdn : ¬ data = [] := by intro h; rw [h] at hd; cases hd
          have hbb : b = false := by rw [HB.out]; unfold rightF; simp [h1, h2, hdn]
          subst hbb
          clear HB
          go_enter Try.func48, Try.ntmps48
          go_wp2_with fail
          go_ret
          exact ⟨rfl, (Below.refl _ w).alloc (Nat.le_refl _) _⟩
      case neg =>
        by_cases k1 : kind = 1
        case pos =>
          subst k1
          rcases nil_or data with hd | hd
          · subst hd
            have hbb : b = true := by rw [HB.out]; unfold rightF; simp [h1, h2]
            subst hbb
            clear HB
            go_enter Try.func48, Try.ntmps48
            go_wp2_with fail
            go_ret
            exact ⟨rfl, (Below.refl _ w).alloc (Nat.le_refl _) _⟩
          · have hdn : ¬ data = [] := by intro h; rw [h] at hd; cases hd
            have hbb : b = false := by rw [HB.out]; unfold rightF; simp [h1, h2, hdn]
            subst hbb
            clear HB
            go_enter Try.func48, Try.ntmps48
            go_wp2_with fail
            go_ret
            exact ⟨rfl, (Below.refl _ w).alloc (Nat.le_refl _) _⟩
        case neg =>
          by_cases k5 : kind = 5
          case pos =>
            subst k5
            rcases nil_or data with hd | hd
            · subst hd
              by_cases hv : val < 4294967296
              case pos =>
                have hs := shr32_yes hv
                have hbb : b = true := by rw [HB.out]; unfold rightF; simp [h1, h2, hv]
                subst hbb
                clear HB
                go_enter Try.func48, Try.ntmps48
                go_wp2_with fail
                go_ret
                exact ⟨rfl, (Below.refl _ w).alloc (Nat.le_refl _) _⟩
              case neg =>
                have hs := shr32_no hv
                have hbb : b = false := by rw [HB.out]; unfold rightF; simp [h1, h2, hv]
                subst hbb
                clear HB
                go_enter Try.func48, Try.ntmps48
                go_wp2_with fail
                go_ret
                exact ⟨rfl, (Below.refl _ w).alloc (Nat.le_refl _) _⟩
            · have hdn : ¬ data = [] := by intro h; rw [h] at hd; cases hd
              have hbb : b = false := by rw [HB.out]; unfold rightF; simp [h1, h2, hdn]
              subst hbb
              clear HB
              go_enter Try.func48, Try.ntmps48
              go_wp2_with fail
              go_ret
              exact ⟨rfl, (Below.refl _ w).alloc (Nat.le_refl _) _⟩
          case neg =>
            by_cases k2 : kind = 2
            case pos =>
              subst k2
              by_cases hv : val = 0
              case pos =>
                subst hv
                by_cases hl : data.length ≤ 60000
                case pos =>
                  have hli : ((data.length : Nat) : Int) ≤ 60000 := by omega
                  have hbb : b = true := by rw [HB.out]; unfold rightF; simp [h1, h2, hl]
                  subst hbb
                  clear HB
                  go_enter Try.func48, Try.ntmps48
                  go_wp2_with fail
                  go_ret
                  exact ⟨rfl, (Below.refl _ w).alloc (Nat.le_refl _) _⟩
                case neg =>
                  have hli : ¬ ((data.length : Nat) : Int) ≤ 60000 := by omega
                  have hbb : b = false := by rw [HB.out]; unfold rightF; simp [h1, h2, hl]
                  subst hbb
                  clear HB
                  go_enter Try.func48, Try.ntmps48
                  go_wp2_with fail
                  go_ret
                  exact ⟨rfl, (Below.refl _ w).alloc (Nat.le_refl _) _⟩
              case neg =>
                have hvb : (((val : Nat) : Int) == 0) = false := by rw [beq_eq_false_iff_ne]; omega
                have hbb : b = false := by rw [HB.out]; unfold rightF; simp [h1, h2, hv]
                subst hbb
                clear HB
                go_enter Try.func48, Try.ntmps48
                go_wp2_with fail
                go_ret
                exact ⟨rfl, (Below.refl _ w).alloc (Nat.le_refl _) _⟩
            case neg =>
              have e0 : (kind == 0) = false := by simp [k0]
              have e1 : (kind == 1) = false := by simp [k1]
              have e5 : (kind == 5) = false := by simp [k5]
              have e2 : (kind == 2) = false := by simp [k2]
              have hbb : b = false := by rw [HB.out]; unfold rightF; simp [h1, h2, k0, k1, k5, k2]
              subst hbb
              clear HB
              go_enter Try.func48, Try.ntmps48
              go_wp2_with fail
              go_ret
              exact ⟨rfl, (Below.refl _ w).alloc (Nat.le_refl _) _⟩

def littleN : Nat → Nat → List Nat
  | 0, _ => []
  | k + 1, n => n % 256 :: littleN k (n / 256)
theorem littleN_len (k n : Nat) : (littleN k n).length = k := by
  induction k generalizing n with
  | zero => rfl
  | succ k ih => simp [littleN, ih]
theorem str_little (k n : Nat) : str (littleN k n) = littleB k n := by
  induction k generalizing n with
  | zero => rfl
  | succ k ih => simp [littleN, littleB, ← ih, str]
theorem littleN_get (k n i : Nat) (h : i < k) : (littleN k n)[i]? = some (n / 2 ^ (8 * i) % 256) := by
  induction k generalizing n i with
  | zero => omega
  | succ k ih =>
    cases i with
    | zero => simp [littleN]
    | succ i =>
      simp only [littleN, List.getElem?_cons_succ]
      rw [ih (n / 256) i (by omega), Nat.div_div_eq_div_mul]
      congr 3
      rw [show 8 * (i + 1) = 8 + 8 * i by omega, Nat.pow_add]
def lowSt (k n i : Nat) : List Nat := (littleN k n).take i ++ List.replicate (k - i) 0
theorem lowSt_len (k n i : Nat) (h : i ≤ k) : (lowSt k n i).length = k := by simp [lowSt, littleN_len]; omega
theorem lowSt_zero (k n : Nat) : lowSt k n 0 = List.replicate k 0 := by simp [lowSt]
theorem lowSt_full (k n : Nat) : lowSt k n k = littleN k n := by
  simp [lowSt]; rw [List.take_of_length_le (by rw [littleN_len]; exact Nat.le_refl _)]
theorem lowSt_set (k n i : Nat) (h : i < k) : (lowSt k n i).set i (n / 2 ^ (8 * i) % 256) = lowSt k n (i + 1) := by
  apply List.ext_getElem?
  intro j
  have hl := lowSt_len k n i (by omega)
  have hg := littleN_get k n i h
  by_cases hj : j < k
  · by_cases e : j = i
    · subst e
      rw [List.getElem?_set_self (by omega)]
      unfold lowSt
      rw [List.getElem?_append_left (by rw [List.length_take, littleN_len]; omega), List.getElem?_take, if_pos (by omega), hg]
    · rw [List.getElem?_set_ne (fun h => e h.symm)]
      unfold lowSt
      by_cases hlt : j < i
      · rw [List.getElem?_append_left (by rw [List.length_take, littleN_len]; omega), List.getElem?_append_left (by rw [List.length_take, littleN_len]; omega), List.getElem?_take, List.getElem?_take, if_pos hlt, if_pos (by omega)]
      · rw [List.getElem?_append_right (by rw [List.length_take, littleN_len]; omega), List.getElem?_append_right (by rw [List.length_take, littleN_len]; omega), List.length_take, List.length_take, littleN_len, List.getElem?_replicate, List.getElem?_replicate, if_pos (by omega), if_pos (by omega)]
  · rw [List.getElem?_eq_none (by rw [List.length_set]; omega), List.getElem?_eq_none (by rw [lowSt_len _ _ _ (by omega)]; omega)]
set_option maxRecDepth 100000 in
set_option maxHeartbeats 1000000 in
theorem low_any (n k : Nat) (w : World) (hk : k ≤ 8) (hn : n < 18446744073709551616) :
    Calls Try.prog 49 #[.int .u64 (n : Int), .int .i64 (k : Int)] w fun e w' => e = .returned (.string ⟨(littleB k n).toArray⟩) ∧ Below w.heap.size w w' := by
  have HS := Lib.hid (str_little k n)
  have HZ := Lib.hid (lowSt_zero k n)
  have HF := Lib.hid (lowSt_full k n)
  go_enter Try.func49, Try.ntmps49
  go_wp2_with (at_make; refine makeN E8 (n := k) rfl rfl rfl rfl (by omega) (by unfold maxLen; omega) ?_; intro w8 ho8 hb8)
  have hm := ho8.mut
  rw [← HZ.out] at hm
  clear ho8 HZ
  go_loopg [11] k (fun g iv wr => ∃ (i : Nat), i + g = k ∧ iv = .int .i64 (i : Int) ∧ Mut .u8 wr w.heap.size 0 (lowSt k n i) ∧ Below w.heap.size w wr)
  case atStart => exact ⟨0, by omega, rfl, hm, hb8⟩
  clear hm hb8
  case round =>
    obtain ⟨i, hi, rfl, hm, hb⟩ := hrel
    have hl := lowSt_len k n i (by omega)
    by_cases hlt : i < k
    · have hi1 : (i : Int) < (k : Int) := by omega
      have hq0 : (0 : Int) ≤ (i : Int) := by omega
      have hc := hm.cell i (by omega)
      have hf := hm.free i (by omega)
      rw [Nat.zero_add] at hc hf
      have hm2 := hm.set i (n / 2 ^ (8 * i) % 256) (by omega)
      rw [lowSt_set k n i hlt, Nat.zero_add] at hm2
      generalize (lowSt k n i)[i]?.getD 0 = z at hc
      have hb2 := hb.setCell (p := ⟨w.heap.size, i, none⟩) (Nat.le_refl _) (.int .u8 ((n / 2 ^ (8 * i) % 256 : Nat) : Int))
      rw [show ((n / 2 ^ (8 * i) % 256 : Nat) : Int) = (n : Int) / 2 ^ (8 * i) % 256 by simp] at hm2 hb2
      clear hl hm
      go_wp2_with fail
      go_roundg (gk - 1)
      case measure => omega
      case rel => exact ⟨i + 1, by omega, by go_num, hm2, hb2⟩
    · have hi1 : ¬ (i : Int) < (k : Int) := by omega
      have e : i = k := by omega
      subst e
      rw [HF.out] at hm
      have hcv := conv_string (P := Try.prog) Try.underlying78 Try.underlying5 Try.underlying9 hm.cells i
      rw [littleN_len, HS.out] at hcv
      go_wp2_with fail
      go_ret
      exact ⟨rfl, hb⟩
theorem highB_snoc (l : List UInt8) (c : UInt8) : highB (l ++ [c]) = highB l + c.toNat * 256 ^ l.length := by
  induction l with
  | nil => simp [highB]
  | cons x l ih => simp only [List.cons_append, highB, ih, List.length_cons, Nat.pow_succ]; rw [Nat.mul_add, ← Nat.add_assoc]; congr 1; rw [Nat.mul_comm (256 ^ l.length) 256, ← Nat.mul_assoc, ← Nat.mul_assoc, Nat.mul_comm 256]
theorem highB_take {b : List UInt8} {i : Nat} (h : i < b.length) : highB (b.take (i + 1)) = highB (b.take i) + (b[i]?.getD 0).toNat * 256 ^ i := by
  rw [List.take_succ_eq_append_getElem h, highB_snoc, List.length_take, Nat.min_eq_left (by omega), List.getElem?_eq_getElem h]; rfl
set_option maxRecDepth 100000 in
set_option maxHeartbeats 1000000 in
theorem high_any (b : List UInt8) (n : Nat) (w : World) (hl : b.length ≤ 8) (hn : Hid (n = highB b)) :
    Calls Try.prog 77 #[.string ⟨b.toArray⟩] w fun e w' => e = .returned (.int .u64 (n : Int)) ∧ Below w.heap.size w w' := by
  go_enter Try.func77, Try.ntmps77
  go_wp2_with fail
  go_loopg [3, 7] b.length (fun g vv iv wr => ∃ (i acc : Nat), i + g = b.length ∧ vv = .int .u64 (acc : Int) ∧ iv = .int .i64 (i : Int) ∧ acc < 256 ^ i ∧ Hid (acc = highB (b.take i)) ∧ Below w.heap.size w wr)
  case atStart => exact ⟨0, 0, by omega, rfl, rfl, by decide, Lib.hid rfl, Below.refl _ _⟩
  case round =>
    obtain ⟨i, acc, hi, rfl, rfl, ha, HV, hbf⟩ := hrel
    by_cases hlt : i < b.length
    · have hi1 : (i : Int) < ((b.length : Nat) : Int) := by omega
      have hq0 : (0 : Int) ≤ (i : Int) := by omega
      have hby := byte_at b i hlt (by simpa [ByteArray.size] using hlt)
      have hc256 : (b[i]?.getD 0).toNat < 256 := (b[i]?.getD 0).toNat_lt
      have hst : acc + (b[i]?.getD 0).toNat * 256 ^ i = highB (b.take (i + 1)) := by rw [HV.out]; exact (highB_take hlt).symm
      have HST := Lib.hid hst
      clear hst HV
      generalize (b[i]?.getD 0).toNat = c at *
      have hpw : (256 : Nat) ^ i = 2 ^ (8 * i) := by rw [Nat.pow_mul]
      rw [hpw] at ha
      have hlim : acc + c * 2 ^ (8 * i) < 2 ^ (8 * i) * 256 := by
        have : c * 2 ^ (8 * i) ≤ 255 * 2 ^ (8 * i) := Nat.mul_le_mul_right _ (by omega)
        omega
      have h64 : 2 ^ (8 * i) * 256 ≤ 18446744073709551616 := by
        rw [show (256 : Nat) = 2 ^ 8 by decide, ← Nat.pow_add]
        exact Nat.le_trans (Nat.pow_le_pow_right (by decide) (show 8 * i + 8 ≤ 64 by omega)) (by decide)
      have hor := or_add acc c (8 * i) ha (by omega)
      have hwr : IntKind.u64.wrap ((c : Int) * 2 ^ (8 * i)) = ((c * 2 ^ (8 * i) : Nat) : Int) := by
        rw [show (c : Int) * 2 ^ (8 * i) = ((c * 2 ^ (8 * i) : Nat) : Int) by simp]; exact IntWalk.u64_in _ (by omega)
      rw [← hwr] at hor
      have HOR := Lib.hid hor
      have HPW := Lib.hid hpw
      have HLM : Hid (acc + c * 2 ^ (8 * i) < 256 ^ (i + 1)) := Lib.hid (by rw [Nat.pow_succ, hpw]; exact hlim)
      clear hor hwr hpw hlim h64 ha
      go_wp2_with fail
      go_roundg (gk - 1)
      case measure => omega
      case rel => exact ⟨i + 1, acc + c * 2 ^ (8 * i), by omega, by rw [HOR.out], by go_num, HLM.out, Lib.hid (by rw [← HST.out, HPW.out]), hbf⟩
    · have hi1 : ¬ (i : Int) < ((b.length : Nat) : Int) := by omega
      have hr : acc = n := by rw [hn.out, HV.out, List.take_of_length_le (by omega)]
      subst hr
      go_wp2_with fail
      go_ret
      exact ⟨rfl, hbf⟩

end Go.Proofs.Ytjcldnkgidfifaa
