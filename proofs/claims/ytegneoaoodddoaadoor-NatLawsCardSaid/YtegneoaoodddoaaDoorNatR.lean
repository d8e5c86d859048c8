/-
  nat: walks (16): step.
-/
import Derived.Test.YtegneoaoodddoaaDoorNatQ
import Derived.Test.YtegneoaoodddoaaDoorNatH
namespace Go.Proofs.YtegneoaoodddoaaDoor
open Go.RowKit
set_option linter.unusedVariables false
set_option linter.unusedSimpArgs false
attribute [local go_sem] and_low and_one

theorem ms_car {z t b : Nat} (hz : z < 4294967296) (hb : b ≤ 1) : IntKind.u64.wrap (IntKind.u64.wrap ((z : Int) - (t : Int) % 4294967296) - (b : Int)) / 4294967296 % 2 = ((msB z t b : Nat) : Int) := by
  rw [IntKind.wrap_u64, IntKind.wrap_u64]; unfold msB; split <;> omega
theorem ms_val {z t b : Nat} (hz : z < 4294967296) (hb : b ≤ 1) : IntKind.u64.wrap (IntKind.u64.wrap ((z : Int) - (t : Int) % 4294967296) - (b : Int)) % 4294967296 = ((msV z t b : Nat) : Int) := by
  rw [IntKind.wrap_u64, IntKind.wrap_u64]; unfold msV; omega

theorem get_mid {A us C : List Nat} {i : Nat} (h : i < us.length) : (A ++ us ++ C)[A.length + i]?.getD 0 = us[i]?.getD 0 := by
  rw [List.append_assoc, List.getElem?_append_right (by omega), Nat.add_sub_cancel_left, List.getElem?_append_left h]
theorem set_mid {A us C : List Nat} {i z : Nat} (h : i < us.length) : (A ++ us ++ C).set (A.length + i) z = A ++ us.set i z ++ C := by
  rw [List.append_assoc, List.set_append_right _ _ (by omega), Nat.add_sub_cancel_left, List.set_append_left _ _ h, List.append_assoc]

/-- What step leaves: the digit; in the place of us what is left. -/
def StepPost (w : World) (g : Nat) (A us C vs : List Nat) (e : Ending) (w' : World) : Prop :=
  e = .returned (.int .u32 ((val us / val vs : Nat) : Int)) ∧ ∃ ws, ws.length = us.length ∧ (∀ x ∈ ws, x < 4294967296) ∧ val ws = val us % val vs ∧ Mut .u32 w' g 0 (A ++ ws ++ C) ∧ w.grownBy w' (some g)

set_option maxRecDepth 100000 in
set_option maxHeartbeats 2000000 in
theorem step_any (g cu vb voff cv m n1 n2 : Nat) (A us C vs : List Nat) (w : World) (hm : m = n1 + 1) (hn : n1 = n2 + 1) (h : GuessIn us vs n2) (hm9 : m ≤ 1000000000) (hA9 : A.length ≤ 1000000000) (hne : vb ≠ g)
    (hM : Mut .u32 w g 0 (A ++ us ++ C)) (hv : ∀ i, i < vs.length → w.cell? ⟨vb, voff + i, none⟩ = some (.int .u32 ((vs[i]?.getD 0 : Nat) : Int))) :
    Calls Tryd.prog 66 #[.slice (some ⟨g, A.length, none⟩) (m + 1) cu, .slice (some ⟨vb, voff, none⟩) m cv] w fun e w' => StepPost w g A us C vs e w' := by
  have hu : ∀ i, i < us.length → w.cell? ⟨g, A.length + i, none⟩ = some (.int .u32 ((us[i]?.getD 0 : Nat) : Int)) := fun i hi => by
    have := hM.cell (A.length + i) (by simp; omega)
    rwa [Nat.zero_add, get_mid hi] at this
  have hgw := hM.lt
  have hul : us.length = m + 1 := by rw [h.ul]; omega
  have hvl : vs.length = m := by rw [h.vl]; omega
  have HM := Lib.hid hM
  have HV := Lib.hid hv
  have HH := Lib.hid h
  have hm2 : 2 ≤ m := by omega
  have hvb : vb < w.heap.size := World.block_lt_of_cell? w ⟨vb, voff + 0, none⟩ (hv 0 (by omega))
  have HMM := Lib.hid hm
  have HNN := Lib.hid hn
  have hgu := guess_any g A.length cu vb voff cv m n1 n2 us vs w hm hn h hm9 hu hv
  have hst := MsInv.start (ys := vs) (q := 0) h.ult
  have hAl : A.length + m < 9223372036854775807 := by omega
  clear hM hv hu hm hn h
  go_enter Tryd.func66, Tryd.ntmps66
  go_wp2_with fail
  refine hgu.mono ?_
  clear hgu
  rintro e w1 ⟨q, rfl, hq1, hq2, hq3, hb1⟩
  have hM1 := HM.out.below hb1 hgw
  have hst := MsInv.start (ys := vs) (q := q) HH.out.ult
  have hgr : w.grownBy w1 (some g) := ⟨hb1.os, hb1.tape, hb1.output, hb1.size, fun k hk _ => hb1.block k hk⟩
  go_wp2_with fail
  go_loopg [6, 7, 16] (m + 1) (fun gg bv cv' iv wr => ∃ (i b c : Nat) (ys : List Nat), i + gg = m + 1 ∧ iv = .int .i64 (i : Int) ∧ bv = .int .u64 (b : Int) ∧ cv' = .int .u64 (c : Int) ∧ MsInv us vs q i c b ys ∧ Mut .u32 wr g 0 (A ++ ys ++ C) ∧ w.grownBy wr (some g))
  case atStart => exact ⟨0, 0, 0, us, by omega, rfl, rfl, rfl, hst, hM1, hgr⟩
  case round =>
    obtain ⟨i, b, c, ys, hi, rfl, rfl, rfl, hinv, hmz, hgr1⟩ := hrel
    by_cases him : i < m + 1
    · have hyl := hinv.len
      have hcar := hinv.car
      have hbor := hinv.bor
      have hz := hmz.cell (A.length + i) (by simp; omega)
      have hf := hmz.free (A.length + i) (by simp; omega)
      rw [Nat.zero_add, get_mid (by omega)] at hz
      rw [Nat.zero_add] at hf
      have hzB := getD_lt (k := i) hinv.lt (by decide)
      have hnx := hinv.next HH.out.vlt (by omega) hq3
      have hms := hmz.set (A.length + i) (msV (ys[i]?.getD 0) (c + q * (vs[i]?.getD 0)) b) (by simp; omega)
      rw [Nat.zero_add, set_mid (by omega)] at hms
      by_cases hiv : i < m
      · have hvi := (World.cell?_of_block (a := ⟨vb, voff + i, none⟩) (hgr1.block vb hvb (by simpa using hne))).trans (HV.out i (by omega))
        have hvB := getD_lt (k := i) HH.out.vlt (by decide)
        have hqV : q * (vs[i]?.getD 0) ≤ 4294967295 * 4294967295 := Nat.mul_le_mul (by omega) (by omega)
        generalize ys[i]?.getD 0 = z at *
        generalize vs[i]?.getD 0 = V at *
        have e1 : IntKind.u64.wrap ((q : Int) * (V : Int)) = ((q * V : Nat) : Int) := by rw [IntWalk.u64_in _ (by rw [← Int.natCast_mul]; omega)]; simp
        generalize q * V = qv at *
        have HN := Lib.hid hnx
        have HMS := Lib.hid hms
        clear hnx hms hmz hinv hst hM1 hgr hyl
        have hsc := ms_car (t := c + qv) hzB hbor
        have hsv := ms_val (t := c + qv) hzB hbor
        rw [Int.natCast_add] at hsc hsv
        have HSC := Lib.hid hsc
        have HSV := Lib.hid hsv
        clear hsc hsv
        go_wp2_with fail
        go_roundg (gk - 1)
        case measure => omega
        case rel => exact ⟨i + 1, _, _, _, by omega, by go_num, congrArg (Value.int .u64) HSC.out, by go_num, HN.out, by rw [← HSV.out] at HMS; exact HMS.out, grownBy_set hgr1 _ _⟩
      · have hy0 : vs[i]?.getD 0 = 0 := by rw [List.getElem?_eq_none (by omega)]; rfl
        rw [hy0, Nat.mul_zero, Nat.add_zero] at hnx hms
        generalize ys[i]?.getD 0 = z at *
        have HN := Lib.hid hnx
        have HMS := Lib.hid hms
        have hsc := ms_car (t := c) hzB hbor
        have hsv := ms_val (t := c) hzB hbor
        have HSC := Lib.hid hsc
        have HSV := Lib.hid hsv
        clear hsc hsv hnx hms hmz hinv hst hM1 hgr hyl hy0
        go_wp2_with fail
        go_roundg (gk - 1)
        case measure => omega
        case rel => exact ⟨i + 1, _, _, _, by omega, by go_num, congrArg (Value.int .u64) HSC.out, by go_num, HN.out, by rw [← HSV.out] at HMS; exact HMS.out, grownBy_set hgr1 _ _⟩
    · obtain rfl : gk = 0 := by omega
      obtain rfl : i = m + 1 := by omega
      rw [← hul] at hinv
      have hpos := HH.out.pos
      have hbor := hinv.bor
      have hyl := hinv.len
      rcases (by omega : b = 0 ∨ b = 1) with rfl | rfl
      · obtain ⟨k1, k2⟩ := hinv.right (by omega) hq1 hpos
        have hylt := hinv.lt
        have K1 := Lib.hid k1
        clear k1 hst hM1 hinv
        go_wp2_with fail
        go_ret
        exact ⟨congrArg (fun n : Nat => Ending.returned (.int .u32 (n : Int))) K1.out, ys, hyl, hylt, k2, hmz, hgr1⟩
      · have hst2 := AddInv.start (ys := vs) hinv.lt
        have HI := Lib.hid hinv
        clear hst hM1 hinv
        go_wp2_with fail
        go_loopg [7, 60] (m + 1) (fun gg cv' iv wx => ∃ (i c : Nat) (zs : List Nat), i + gg = m + 1 ∧ iv = .int .i64 (i : Int) ∧ cv' = .int .u64 (c : Int) ∧ AddInv ys vs i c zs ∧ Mut .u32 wx g 0 (A ++ zs ++ C) ∧ w.grownBy wx (some g))
        case atStart => exact ⟨0, 0, ys, by omega, rfl, rfl, hst2, hmz, hgr1⟩
        case round =>
          obtain ⟨i, c2, zs, hi2, rfl, rfl, hadd, hmz2, hgr2⟩ := hrel
          have hzl := hadd.len
          have hcar := hadd.car
          by_cases him2 : i < m + 1
          · have hz := hmz2.cell (A.length + i) (by simp; omega)
            have hf := hmz2.free (A.length + i) (by simp; omega)
            rw [Nat.zero_add, get_mid (by omega)] at hz
            rw [Nat.zero_add] at hf
            have hzB := getD_lt (k := i) hadd.lt (by decide)
            have hnx := hadd.next HH.out.vlt (by omega)
            have hms := hmz2.set (A.length + i) ((c2 + vs[i]?.getD 0 + zs[i]?.getD 0) % 4294967296) (by simp; omega)
            rw [Nat.zero_add, set_mid (by omega)] at hms
            by_cases hiv : i < m
            · have hvi := (World.cell?_of_block (a := ⟨vb, voff + i, none⟩) (hgr2.block vb hvb (by simpa using hne))).trans (HV.out i (by omega))
              have hvB := getD_lt (k := i) HH.out.vlt (by decide)
              generalize zs[i]?.getD 0 = z at *
              generalize vs[i]?.getD 0 = V at *
              have HN := Lib.hid hnx
              have HMS := Lib.hid hms
              clear hnx hms hmz2 hmz hadd hst2 hzl hyl
              go_wp2_with fail
              go_roundg (gk - 1)
              case measure => omega
              case rel => exact ⟨i + 1, _, _, by omega, by go_num, by go_num, HN.out, HMS.out, grownBy_set hgr2 _ _⟩
            · have hy0 : vs[i]?.getD 0 = 0 := by rw [List.getElem?_eq_none (by omega)]; rfl
              rw [hy0, Nat.add_zero] at hnx hms
              generalize zs[i]?.getD 0 = z at *
              have HN := Lib.hid hnx
              have HMS := Lib.hid hms
              clear hnx hms hmz2 hmz hadd hst2 hzl hyl hy0
              go_wp2_with fail
              go_roundg (gk - 1)
              case measure => omega
              case rel => exact ⟨i + 1, _, _, by omega, by go_num, by go_num, HN.out, HMS.out, grownBy_set hgr2 _ _⟩
          · obtain rfl : gk = 0 := by omega
            obtain rfl : i = m + 1 := by omega
            rw [← hul] at hadd
            obtain ⟨k1, k2⟩ := HI.out.more hadd (by omega) hq2 hpos HH.out.vlt
            have hzlt := hadd.lt
            have hzl2 : zs.length = us.length := hzl.trans hyl
            have K1 : Hid (q - 1 = val us / val vs) := Lib.hid (by rw [k1, Nat.add_sub_cancel])
            have hq0 : 0 < q := by rw [k1]; exact Nat.succ_pos _
            have K2 := Lib.hid k2
            clear k1 hq1 hq2 k2
            have hqw : IntKind.u64.wrap ((q : Int) - 1) = ((q - 1 : Nat) : Int) := by rw [IntWalk.u64_in _ (by omega)]; omega
            clear hadd hst2 hmz
            go_wp2_with fail
            go_ret
            exact ⟨congrArg (fun n : Nat => Ending.returned (.int .u32 (n : Int))) K1.out, zs, hzl2, hzlt, K2.out, hmz2, hgr2⟩
end Go.Proofs.YtegneoaoodddoaaDoor
