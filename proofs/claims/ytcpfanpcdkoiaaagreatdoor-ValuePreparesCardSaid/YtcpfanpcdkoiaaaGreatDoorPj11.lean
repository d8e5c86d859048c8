/-
  Pj11: DecA (what is needed of them).
-/
import Derived.Test.YtcpfanpcdkoiaaaGreatDoorPj07
import Derived.Test.YtcpfanpcdkoiaaaGreatDoorPj10
import Derived.Deep.DeepCutAuto
import Derived.WalkMore
set_option maxRecDepth 100000
set_option linter.unusedVariables false
set_option linter.unusedSimpArgs false

namespace Go.Proofs.YtcpfanpcdkoiaaaGreatDoor
open Go.RowKit


attribute [local go_sem] field_nat
def trim43 (l : List UInt8) : List UInt8 := if l.head? = some 43 then l.tail else l
set_option maxHeartbeats 1000000 in
theorem ltrim_any (l : List UInt8) (w : World) (hl : l.length ≤ 9223372036854775807) :
  Calls Tryz.prog 251 #[.string ⟨l.toArray⟩, .string ⟨#[43]⟩] w fun e w' => e = .returned (.string ⟨(trim43 l).toArray⟩) ∧ w' = w := by
 cases l with
 | nil =>
  have hp : Calls Tryz.prog 202 #[.string ⟨#[]⟩, .string ⟨#[43]⟩] w fun e w' => e = .returned (.bool false) ∧ w' = w := by
   go_enter Tryz.func202, Tryz.ntmps202
   go_wp2
   go_ret
   exact ⟨rfl, rfl⟩
  go_enter Tryz.func251, Tryz.ntmps251
  go_wp2_with fail
  refine hp.mono ?_
  rintro e w' ⟨rfl, rfl⟩
  go_wp2_with fail
  go_ret
  exact ⟨rfl, rfl⟩
 | cons c t =>
  simp only [List.length_cons] at hl
  have h1 : (1 : Int) ≤ ((t.length : Nat) : Int) + 1 := by omega
  have h2 : ((⟨(c :: t).toArray⟩ : ByteArray).extract 0 1) = ⟨#[c]⟩ := by rw [bytes_extract]; rfl
  have h3 : ((⟨(c :: t).toArray⟩ : ByteArray).extract 1 (t.length + 1)) = ⟨t.toArray⟩ := by rw [bytes_extract]; simp
  have hp : Calls Tryz.prog 202 #[.string ⟨(c :: t).toArray⟩, .string ⟨#[43]⟩] w fun e w' => e = .returned (.bool (c == 43)) ∧ w' = w := by
   go_enter Tryz.func202, Tryz.ntmps202
   go_wp2
   go_ret
   exact ⟨rfl, rfl⟩
  go_enter Tryz.func251, Tryz.ntmps251
  go_wp2_with fail
  refine hp.mono ?_
  rintro e w' ⟨rfl, rfl⟩
  by_cases hc : c = 43
  ·subst hc
   go_wp2_with fail
   go_ret
   exact ⟨rfl, rfl⟩
  ·have hb : (c == 43) = false := by simpa using hc
   have hcn : trim43 (c :: t) = c :: t := by unfold trim43; rw [if_neg (by simpa using hc)]
   rw [hb]
   go_wp2_with fail
   go_ret
   exact ⟨ret_one (by rw [hcn]; rfl), rfl⟩
set_option maxHeartbeats 1000000 in
theorem trimpre_any (l : List UInt8) (w : World) (hl : l.length ≤ 9223372036854775807) :
  Calls Tryz.prog 233 #[.string ⟨l.toArray⟩, .string ⟨#[43]⟩] w fun e w' => e = .returned (.string ⟨(trim43 l).toArray⟩) ∧ w' = w := by
 go_enter Tryz.func233, Tryz.ntmps233
 go_wp2_with fail
 refine (ltrim_any l _ hl).mono ?_
 rintro e w' ⟨rfl, rfl⟩
 go_wp2_with fail
 go_ret
 exact ⟨rfl, rfl⟩
set_option maxHeartbeats 1000000 in
theorem sign_any (l : List UInt8) (w : World) (hl : l.length ≤ 9223372036854775807) :
  Calls Tryz.prog 206 #[.string ⟨l.toArray⟩] w fun e w' => e = .returned (.tuple #[.string ⟨(srest l).toArray⟩, .bool (sneg l)]) ∧ Below w.heap.size w w' := by
 have hc := cutprefix_any l w hl
 by_cases h : l.head? = some 45
 ·have h1 : cutNeg l = (true, l.tail) := by unfold cutNeg; rw [if_pos h]
  have h2 : srest l = l.tail := by unfold srest; rw [if_pos (Or.inl h)]
  have h3 : sneg l = true := decide_eq_true h
  rw [h1] at hc
  rw [h2, h3]
  clear h1 h2 h3 h
  go_enter Tryz.func206, Tryz.ntmps206
  go_wp2_with fail
  refine hc.mono ?_
  rintro e w' ⟨rfl, hb⟩
  go_wp2_with fail
  go_ret2
  exact ⟨rfl, hb⟩
 ·have h1 : cutNeg l = (false, l) := by unfold cutNeg; rw [if_neg h]
  have h2 : srest l = trim43 l := by unfold srest trim43; simp only [h, false_or]
  have h3 : sneg l = false := decide_eq_false h
  rw [h1] at hc
  rw [h2, h3]
  clear h1 h2 h3 h
  go_enter Tryz.func206, Tryz.ntmps206
  go_wp2_with fail
  refine hc.mono ?_
  rintro e w' ⟨rfl, hb⟩
  go_wp2_with fail
  refine (trimpre_any l _ hl).mono ?_
  rintro e w2 ⟨rfl, rfl⟩
  go_wp2_with fail
  go_ret2
  exact ⟨rfl, hb⟩
set_option maxHeartbeats 1000000 in
theorem ddigits_any (l : List UInt8) (w : World) (hl : l.length ≤ 9223372036854775807) :
  Calls Tryz.prog 207 #[.string ⟨l.toArray⟩] w fun e w' => e = .returned (.bool (l.all isDig)) ∧ w = w' := by
 go_enter Tryz.func207, Tryz.ntmps207
 go_wp2_with fail
 go_loopg [6] l.length (fun gg iv wr => ∃ k : Nat, k + gg = l.length ∧ iv = .int .i64 k ∧ (l.take k).all isDig = true ∧ w = wr)
 case atStart => exact ⟨0, by omega, rfl, by simp, rfl⟩
 case round =>
  obtain ⟨k, hk, rfl, hall, rfl⟩ := hrel
  have HA := Lib.hid hall; clear hall
  by_cases hkl : k < l.length
  ·have hby := byte_at l k hkl (by simpa [ByteArray.size] using hkl)
   have hsn := Lib.hid (all_snoc hkl HA.out)
   have hfa : isDig (l[k]?.getD 0) = false → l.all isDig = false := fun h => all_false hkl h
   have HF := Lib.hid hfa
   clear hfa
   generalize l[k]?.getD 0 = c at *
   by_cases h1 : c.toNat < 48
   ·have hz : isDig c = false := by simp [isDig]; omega
    have HZ := Lib.hid (HF.out hz)
    clear hz
    go_wp2_with fail
    go_ret
    exact ⟨ret_one (congrArg Value.bool HZ.out.symm), rfl⟩
   ·by_cases h2 : 57 < c.toNat
    ·have hz : isDig c = false := by simp [isDig]; omega
     have HZ := Lib.hid (HF.out hz)
     clear hz
     go_wp2_with fail
     go_ret
     exact ⟨ret_one (congrArg Value.bool HZ.out.symm), rfl⟩
    ·have hz : isDig c = true := by simp [isDig]; omega
     have HZ := Lib.hid hz
     clear hz
     go_wp2_with fail
     go_roundg (gk - 1)
     case measure => omega
     case rel => exact ⟨k + 1, by omega, by go_num, by rw [hsn.out]; exact HZ.out, rfl⟩
  ·obtain rfl : k = l.length := by omega
   have hall2 : l.all isDig = true := by have := HA.out; rwa [List.take_length] at this
   have HB := Lib.hid hall2
   clear hall2 HA
   go_wp2_with fail
   go_ret
   exact ⟨ret_one (congrArg Value.bool HB.out.symm), rfl⟩
theorem ddigits_b (l : List UInt8) (b : Bool) (w : World) (hl : l.length ≤ 9223372036854775807) (hb : Hid (l.all isDig = b)) :
  Calls Tryz.prog 207 #[.string ⟨l.toArray⟩] w fun e w' => e = .returned (.bool b) ∧ Below w.heap.size w w' := by
 rw [← hb.out]
 refine (ddigits_any l w hl).mono ?_
 rintro e w' ⟨rfl, rfl⟩
 exact ⟨rfl, Below.refl _ _⟩
theorem strip_len {s : List UInt8} (h : numOk s = true) (h2 : dnum s < 10 ^ 3) : s.length ≤ 3 := by
 have h3 := dec_dnum s h
 have h4 := dec_le h2 (by decide)
 rw [← h3, List.length_map]; exact h4
theorem take_lt {s : List UInt8} (h : s.all isDig = true) (k : Nat) (hk : s.length ≤ 3) : dnum (s.take k) < 1000 := by
 have h1 := dnum_lt (s.take k) (take_drop_digs h k).1
 have h2 : (s.take k).length ≤ 3 := by rw [List.length_take]; omega
 have h3 := pow10_le h2
 omega
theorem take_dnum {s : List UInt8} {k : Nat} (hk : k < s.length) : dnum (s.take (k + 1)) = dnum (s.take k) * 10 + ((s[k]?.getD 0).toNat - 48) := by
 rw [List.take_add_one, List.getElem?_eq_getElem hk]
 simp only [Option.toList_some, Option.getD_some]
 exact dnum_snoc _ _
set_option maxHeartbeats 1000000 in
theorem dsmall_any (l : List UInt8) (w : World) (hl : l.length ≤ 1000000000) (hd : l.all isDig = true) :
  Calls Tryz.prog 162 #[.string ⟨l.toArray⟩] w fun e w' => ∃ n : Nat, e = .returned (.tuple #[.int .i64 n, .bool (decide (dnum l ≤ 400))]) ∧ (dnum l ≤ 400 → n = dnum l) ∧ w = w' := by
 have hs := strip_num hd
 have hle := (List.dropWhile_sublist (l := l) (· == 48)).length_le
 have hdd : (l.dropWhile (· == 48)).all isDig = true := by
  rw [List.all_eq_true]
  exact fun c hc => List.all_eq_true.1 hd c ((List.dropWhile_sublist _).subset hc)
 have ht := trimLeft0_any l w hl
 have hbig : 3 < (l.dropWhile (· == 48)).length → ¬ dnum l ≤ 400 := by
  intro h3 h4
  have h5 : l.dropWhile (· == 48) ≠ [] := fun h => by rw [h] at h3; simp at h3
  have := strip_len (hs.2.2 h5) (by rw [hs.1]; omega)
  omega
 rw [← hs.1] at hbig ⊢
 clear hs hd
 generalize l.dropWhile (· == 48) = s at *
 have HB := Lib.hid hbig; clear hbig
 have HD := Lib.hid hdd; clear hdd
 by_cases h3 : 3 < s.length
 ·have hz := HB.out h3
  rw [decide_eq_false hz]
  have HZ := Lib.hid hz; clear hz
  go_enter Tryz.func162, Tryz.ntmps162
  go_wp2_with fail
  refine ht.mono ?_
  rintro e w' ⟨rfl, rfl⟩
  go_wp2_with fail
  go_ret2
  exact ⟨0, rfl, fun h => (HZ.out h).elim, rfl⟩
 ·have h4 : s.length ≤ 3 := by omega
  go_enter Tryz.func162, Tryz.ntmps162
  go_wp2_with fail
  refine ht.mono ?_
  rintro e w' ⟨rfl, rfl⟩
  go_wp2_with fail
  go_loopg [4, 13] s.length (fun gg nv iv wr => ∃ k : Nat, k + gg = s.length ∧ nv = .int .i64 (dnum (s.take k) : Nat) ∧ iv = .int .i64 k ∧ w = wr)
  case atStart => exact ⟨0, by omega, rfl, rfl, rfl⟩
  case round =>
   obtain ⟨k, hk, rfl, rfl, rfl⟩ := hrel
   have hn := take_lt HD.out k h4
   by_cases hkl : k < s.length
   ·have hby := byte_at s k hkl (by simpa [ByteArray.size] using hkl)
    have hsn := Lib.hid (take_dnum hkl)
    have hc : isDig (s[k]?.getD 0) = true := by rw [List.getElem?_eq_getElem hkl]; exact List.all_eq_true.1 HD.out _ (List.getElem_mem hkl)
    generalize s[k]?.getD 0 = c at *
    have hc2 := isDig_iff.1 hc
    obtain ⟨hc3, hc4⟩ := hc2
    clear hc
    generalize dnum (s.take k) = n at *
    go_wp2_with fail
    go_roundg (gk - 1)
    case measure => omega
    case rel => exact ⟨k + 1, by omega, by rw [hsn.out]; go_num, by go_num, rfl⟩
   ·obtain rfl : k = s.length := by omega
    rw [List.take_length] at hn ⊢
    go_wp2_with fail
    go_ret2
    exact ⟨dnum s, ret_one (by congr 3; simp; omega), fun _ => rfl, rfl⟩
theorem blen10 (k K : Nat) (h : 4 * k < K) : blen (10 ^ k) ≤ K := by
 apply blen_le
 have h3 : (10 : Nat) ^ k ≤ 16 ^ k := Nat.pow_le_pow_left (by decide) _
 have h4 : (16 : Nat) ^ k = 2 ^ (4 * k) := by rw [Nat.pow_mul]
 have h5 : (2 : Nat) ^ (4 * k) < 2 ^ K := Nat.pow_lt_pow_right (by decide) h
 omega
theorem pow10_ok (k : Nat) (hk : k < 2500) : powC 10 (k : Int) = 0 ∧ powV 10 (k : Int) = 10 ^ k := by
 have e : (k : Int).toNat = k := by omega
 have h1 : powC 10 (k : Int) = 0 := by
  unfold powC
  have h5 := blen10 k 10000 (by omega)
  rw [if_neg (by omega), if_neg (by rw [e]; omega)]
 refine ⟨h1, ?_⟩
 unfold powV
 rw [if_pos h1, e]
theorem pow10_any (va : Value) (k : Nat) (w : World) (ha : NatIs w va 10) (hk : k < 2500) :
  Calls Tryz.prog 212 #[va, .int .i64 (k : Int)] w fun e w' => ∃ r, e = .returned (.tuple #[r, .int .i64 0]) ∧ NatIs w' r (10 ^ k) ∧ Below w.heap.size w w' := by
 have h := pow_any va 10 (k : Int) w ha (Nat.le_trans (limbs_bound (by decide) (Nat.le_refl 1)) (by decide))
 unfold PowPost at h
 rw [(pow10_ok k hk).1, (pow10_ok k hk).2] at h
 exact h
set_option maxHeartbeats 1000000 in
theorem power_any (k : Nat) (w : World) (hk : k < 2500) : Calls Tryz.prog 165 #[.int .i64 (k : Int)] w fun e w' => ∃ r, e = .returned r ∧ NatIs w' r (10 ^ k) ∧ Below w.heap.size w w' := by
 obtain ⟨w0, hw0⟩ : ∃ w0, w0 = (w.alloc (.cells #[.slice none 0 0] 111)) := ⟨_, rfl⟩
 have hbf : Below w.heap.size w w0 := by rw [hw0]; exact ((Below.refl _ w).alloc (Nat.le_refl _) _)
 obtain ⟨pr, hpr⟩ : ∃ p, p = w.heap.size := ⟨_, rfl⟩
 have hbr : Box w0 pr (Value.slice none 0 0) := by rw [hw0, hpr]; exact ⟨by go_simp, by go_simp, by simp <;> omega⟩
 have HP : Hid (w.heap.size ≤ pr) := Lib.hid (by omega)
 have HW := Lib.hid hw0; clear hw0
 go_enter Tryz.func165, Tryz.ntmps165
 go_upto_region 1 with fail
 rw [← HW.out, ← hpr]
 clear hpr HW
 go_wp2_with fail
 refine (of_any 10 _ (by decide)).mono ?_
 rintro e w1 ⟨r9, rfl, ho, hb⟩
 replace hbr := hbr.kept hb
 replace hbf := hbf.trans (hb.mono hbf.size)
 clear hb
 obtain ⟨oO, oL, oC, rfl⟩ := ho.form
 go_wp2_with fail
 refine (pow10_any _ k _ ho hk).mono ?_
 rintro e w2 ⟨r9, rfl, hp, hb⟩
 replace hbr := hbr.kept hb
 replace ho := ho.below hb
 replace hbf := hbf.trans (hb.mono hbf.size)
 clear hb
 obtain ⟨pO, pL, pC, rfl⟩ := hp.form
 obtain ⟨w3, hwE⟩ : ∃ W, W = (w2.alloc (.cells #[.slice pO pL pC] 111)) := ⟨_, rfl⟩
 have hb : Below w2.heap.size w2 w3 := by rw [hwE]; exact ((Below.refl _ w2).alloc (Nat.le_refl _) _)
 obtain ⟨pp, hpp⟩ : ∃ p, p = w2.heap.size := ⟨_, rfl⟩
 have hbp : Box w3 pp (Value.slice pO pL pC) := by rw [hwE, hpp]; exact ⟨by go_simp, by go_simp, by simp <;> omega⟩
 replace HP : Hid (w.heap.size ≤ pr ∧ pr < pp) := Lib.hid (by have h1 := HP.out; have h9 := hbf.size; have h2r := hbr.lt; omega)
 have HW := Lib.hid hwE; clear hwE
 go_upto_region 2 with fail
 rw [← HW.out, ← hpp]
 clear hpp HW
 replace hbr := hbr.kept hb
 replace ho := ho.below hb
 replace hp := hp.below hb
 replace hbf := hbf.trans (hb.mono hbf.size)
 clear hb
 have ep := hbp.cell
 have er := hbr.cell
 have fr := hbr.free
 go_wp2_with fail
 exact ret_nat rfl rfl (cell_set er) rfl ⟨_, rfl, hp.setS hbr, hbf.setCell (p := ⟨pr, 0, none⟩) (show w.heap.size ≤ pr by have := HP.out; omega) _⟩
end Go.Proofs.YtcpfanpcdkoiaaaGreatDoor
