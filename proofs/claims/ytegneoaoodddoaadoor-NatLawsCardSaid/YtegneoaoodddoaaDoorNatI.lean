/-
  nat: walks (9): Mul.
-/
import Derived.Test.YtegneoaoodddoaaDoorNatH
namespace Go.Proofs.YtegneoaoodddoaaDoor
open Go.RowKit
set_option linter.unusedVariables false
set_option linter.unusedSimpArgs false
attribute [local go_sem] and_low field_nat

set_option maxRecDepth 100000 in
set_option maxHeartbeats 1000000 in
theorem mul_any (va vb : Value) (a b : Nat) (w : World) (ha : NatIs w va a) (hb : NatIs w vb b) (hla : (limbs a).length ≤ 100000000) (hlb : (limbs b).length ≤ 100000000) :
    Calls Tryd.prog 36 #[va, vb] w fun e w' => ∃ r, e = .returned r ∧ NatIs w' r (a * b) ∧ Below w.heap.size w w' := by
  obtain ⟨ao, ca, rfl, ha1, ha2, ha3, ha4⟩ := ha.open
  obtain ⟨bo, cb, rfl, hb1, hb2, hb3, hb4⟩ := hb.open
  obtain ⟨w0, hw0⟩ : ∃ w0, w0 = ((w.alloc (.cells #[.slice ao (limbs a).length ca] 25)).alloc (.cells #[.slice bo (limbs b).length cb] 25)).alloc (.cells #[.slice none 0 0] 25) := ⟨_, rfl⟩
  have hbel : Below w.heap.size w w0 := by
    rw [hw0]; exact (((Below.refl _ w).alloc (Nat.le_refl _) _).alloc (by simp <;> omega) _).alloc (by simp <;> omega) _
  have hsz0 : w0.heap.size = w.heap.size + 3 := by rw [hw0]; simp
  have hba : Box w0 w.heap.size (.slice ao (limbs a).length ca) := by
    rw [hw0]; exact ⟨by go_simp, by go_simp, by simp <;> omega⟩
  have hbb : Box w0 (w.heap.size + 1) (.slice bo (limbs b).length cb) := by
    rw [hw0]; exact ⟨by go_simp, by go_simp, by simp <;> omega⟩
  have hbr : Box w0 (w.heap.size + 2) (.slice none 0 0) := by
    rw [hw0]; exact ⟨by go_simp, by go_simp, by simp <;> omega⟩
  have hca := ha4.below hbel
  have hcb := hb4.below hbel
  have HW := Lib.hid hw0; clear hw0
  have HSZ := Lib.hid hsz0; clear hsz0
  have hszl : w.heap.size + 3 ≤ w0.heap.size := by rw [HSZ.out]; exact Nat.le_refl _
  have hxB := limbs_lt a
  have hyB := limbs_lt b
  have hst := MulOut.start (limbs a) (limbs b)
  clear ha hb ha4 hb4 ha3 hb3
  go_enter Tryd.func36, Tryd.ntmps36
  go_upto_region 1 with fail
  rw [← HW.out]
  have e1 := hba.cell
  have e2 := hbb.cell
  go_wp2_with (at_make; refine makeN E32 (n := (limbs a).length + (limbs b).length) rfl rfl rfl rfl (by omega) (by unfold maxLen; omega) ?_; intro w1 ho hb1; have e3 := (hba.kept hb1).cell; have e4 := (hbb.kept hb1).cell)
  have hm := ho.mut
  have hgw := hm.lt
  clear e1 e2 ho
  go_loopg [22] (limbs a).length (fun gg iv wr => ∃ (i : Nat) (zs : List Nat), i + gg = (limbs a).length ∧ iv = .int .i64 i ∧ MulOut (limbs a) (limbs b) i zs ∧ Mut .u32 wr w0.heap.size 0 zs ∧ Below w0.heap.size w0 wr)
  case atStart => exact ⟨0, _, by omega, rfl, hst, hm, hb1⟩
  case round =>
    obtain ⟨i, zs0, hi, rfl, hout, hmz, hbr0⟩ := hrel
    have hzl := hout.len
    by_cases hil : i < (limbs a).length
    · have hcar := hca.below hbr0
      rcases hcar with hcar | ⟨xb, xoff, rfl, hxb, hxc⟩
      · rw [hcar] at hil; simp at hil
      have hxk := hxc i hil
      have hxB2 := getD_lt (k := i) hxB (by decide)
      have f1 := (hba.kept hbr0).cell
      have f2 := (hbb.kept hbr0).cell
      have hin0 := MulIn.start (ys := limbs b) (i := i) (x := (limbs a)[i]?.getD 0) hout.lt
      have HO := Lib.hid hout
      have hcb0 : Cells .u32 wr bo (limbs b) := hcb.below hbr0
      clear hxc hst hm e3 e4 hout
      obtain ⟨x, hx⟩ : ∃ x, x = (limbs a)[i]?.getD 0 := ⟨_, rfl⟩
      rw [← hx] at hxk hxB2 hin0
      have HX := Lib.hid hx
      clear hx
      obtain ⟨go, hgo⟩ : ∃ go, go = gk := ⟨_, rfl⟩
      subst hgo
      go_wp2_with fail
      go_loopg [8, 30] (limbs b).length (fun gg cv jv wx => ∃ (j c : Nat) (zs : List Nat), j + gg = (limbs b).length ∧ jv = .int .i64 j ∧ cv = .int .u64 c ∧ MulIn zs0 (limbs b) i x j c zs ∧ Mut .u32 wx w0.heap.size 0 zs ∧ Below w0.heap.size w0 wx)
      case atStart => exact ⟨0, 0, zs0, by omega, rfl, rfl, hin0, hmz, hbr0⟩
      case round =>
        obtain ⟨j, c, zs, hj, rfl, rfl, hin, hmz1, hbr1⟩ := hrel
        have hzl1 := hin.len
        have hccar := hin.car
        have g1 := (hba.kept hbr1).cell
        have g2 := (hbb.kept hbr1).cell
        by_cases hjl : j < (limbs b).length
        · have hcbr := hcb.below hbr1
          rcases hcbr with hcbr | ⟨yb, yoff, rfl, hyb, hyc⟩
          · rw [hcbr] at hjl; simp at hjl
          have hyk := hyc j hjl
          have hyB2 := getD_lt (k := j) hyB (by decide)
          have hzk := hmz1.cell (i + j) (by omega)
          have hfk := hmz1.free (i + j) (by omega)
          rw [Nat.zero_add] at hzk hfk
          have hzB := getD_lt (k := i + j) hin.lt (by decide)
          have hnx := hin.next hxB2 hyB (by omega)
          have hms := hmz1.set (i + j) ((c + (x * (limbs b)[j]?.getD 0 + zs[i + j]?.getD 0)) % 4294967296) (by omega)
          rw [Nat.zero_add] at hms
          generalize zs[i + j]?.getD 0 = z at *
          generalize (limbs b)[j]?.getD 0 = yy at *
          have hmb := mul_bound hccar hxB2 hyB2 hzB
          have HN := Lib.hid hnx
          have HM := Lib.hid hms
          have HL := Lib.hid hzl
          have HL1 := Lib.hid hzl1
          clear hyc hin hnx hms hzl hzl1 hmz1 hcb hcb0 hmz hin0
          go_wp2_with fail
          go_roundg (gk - 1)
          case measure => omega
          case rel => exact ⟨j + 1, _, _, by omega, by go_num, by go_num, HN.out, HM.out, hbr1.setCell (by exact Nat.le_refl _) _⟩
        · obtain rfl : j = (limbs b).length := by omega
          have hzk := hmz1.cell (i + (limbs b).length) (by omega)
          have hfk := hmz1.free (i + (limbs b).length) (by omega)
          rw [Nat.zero_add] at hzk hfk
          rw [HX.out] at hin
          have hnx := MulOut.next HO.out hin hil
          have hms := hmz1.set (i + (limbs b).length) c (by omega)
          rw [Nat.zero_add] at hms
          have HN := Lib.hid hnx
          have HM := Lib.hid hms
          have HL := Lib.hid hzl
          have HL1 := Lib.hid hzl1
          clear hin hnx hms hmz1 hmz hin0 hzl hzl1
          go_wp2_with fail
          go_roundg (go - 1)
          case measure => omega
          case rel => exact ⟨i + 1, _, by omega, by go_num, HN.out, HM.out, hbr1.setCell (by exact Nat.le_refl _) _⟩
    · obtain rfl : i = (limbs a).length := by omega
      have hval : val zs0 = a * b := by
        have := hout.eq
        rwa [List.take_length, val_limbs, val_limbs] at this
      have hzB3 := hout.lt
      have hn := trim_nat (cap := (limbs a).length + (limbs b).length) (w' := wr) hmz.cells (by omega) hzB3 (by unfold maxLen; omega)
      have hcl := hmz.cells
      have hzc : zs0.length ≤ (limbs a).length + (limbs b).length := by omega
      have hbox := hbr.kept hbr0
      have HZL := Lib.hid hzl
      have HV := Lib.hid hval
      clear hzl hval e3 e4 hm hst hout hmz
      go_wp2_with fail
      rw [← HZL.out]
      refine (trim_any (some ⟨w0.heap.size, 0, none⟩) zs0.length zs0 wr hcl (Nat.le_refl _) (by rw [HZL.out]; unfold maxLen; omega) hzB3).mono ?_
      rintro e w6 ⟨rfl, hb6⟩
      have hn6 := hn.below hb6
      have hbox6 := hbox.kept hb6
      rw [HV.out] at hn6 ⊢
      have hc6 := hbox6.cell
      have hf6 := hbox6.free
      have hfin : Below w.heap.size w w6 := hbel.trans ((hbr0.trans (hb6.mono hbr0.size)).mono hbel.size)
      clear hn hcl hbox
      go_wp2
      refine ret_nat rfl rfl (cell_set hc6) rfl ⟨_, rfl, hn6.set _ _ (fun n e => by rw [hc6] at e; cases e), hfin.setCell (p := ⟨w.heap.size + 2, 0, none⟩) (by simp) _⟩
end Go.Proofs.YtegneoaoodddoaaDoor
