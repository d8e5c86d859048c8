/-
  nat: walks (8): Sub.
-/
import Derived.Test.YtegneoaoodddoaaDoorNatG
namespace Go.Proofs.YtegneoaoodddoaaDoor
open Go.RowKit
set_option linter.unusedVariables false
set_option linter.unusedSimpArgs false
attribute [local go_sem] and_low field_nat

theorem and_one (x : Int) : bits .and .u64 x 1 = x % 2 := by
  obtain ⟨a, ha⟩ := Int.eq_ofNat_of_zero_le (Int.emod_nonneg x (show (18446744073709551616 : Int) ≠ 0 by decide))
  have hlt : a < 18446744073709551616 := by omega
  have e : BitVec.ofInt 64 x = BitVec.ofInt 64 (a : Int) := by
    apply BitVec.eq_of_toInt_eq
    simp only [BitVec.toInt_ofInt, Int.bmod_def]
    omega
  have e1 : bits .and .u64 x 1 = bits .and .u64 (a : Int) 1 := by
    simp only [bits, IntKind.bits] at *
    rw [e]
  have e2 : bits .and .u64 (a : Int) 1 = (a : Int) % 2 := bits_mask .u64 64 (by decide) (fun n h0 h1 => by rw [IntKind.wrap_u64]; omega) 1 (by decide) a (by omega) (by omega)
  rw [e1, e2]
  omega
attribute [local go_sem] and_one

theorem sub_car {z t : Nat} (hz : z < 4294967296) (ht : t ≤ 4294967296) : IntKind.u64.wrap ((z : Int) - (t : Int)) / 4294967296 % 2 = ((subC z t : Nat) : Int) := by
  rw [IntKind.wrap_u64]; unfold subC; split <;> omega
theorem sub_val {z t : Nat} (hz : z < 4294967296) (ht : t ≤ 4294967296) : IntKind.u64.wrap ((z : Int) - (t : Int)) % 4294967296 = ((subV z t : Nat) : Int) := by
  rw [IntKind.wrap_u64]; unfold subV; split <;> omega

set_option maxRecDepth 100000 in
set_option maxHeartbeats 1000000 in
theorem sub_any (va vb : Value) (a b : Nat) (w : World) (ha : NatIs w va a) (hb : NatIs w vb b) (hla : (limbs a).length ≤ 100000000) :
    Calls Tryd.prog 35 #[va, vb] w fun e w' => ∃ r, e = .returned (.tuple #[r, .bool (decide (b ≤ a))]) ∧ NatIs w' r (a - b) ∧ Below w.heap.size w w' := by
  obtain ⟨ao, ca, rfl, ha1, ha2, ha3, ha4⟩ := ha.open
  obtain ⟨bo, cb, rfl, hb1, hb2, hb3, hb4⟩ := hb.open
  obtain ⟨w0, hw0⟩ : ∃ w0, w0 = ((w.alloc (.cells #[.slice ao (limbs a).length ca] 25)).alloc (.cells #[.slice bo (limbs b).length cb] 25)).alloc (.cells #[.slice none 0 0] 25) := ⟨_, rfl⟩
  have hbel : Below w.heap.size w w0 := by
    rw [hw0]; exact (((Below.refl _ w).alloc (Nat.le_refl _) _).alloc (by simp <;> omega) _).alloc (by simp <;> omega) _
  have hsz0 : w0.heap.size = w.heap.size + 3 := by rw [hw0]; simp
  have hba : Box w0 w.heap.size (.slice ao (limbs a).length ca) := by
    rw [hw0]; exact ⟨by go_simp, by go_simp, by simp <;> omega⟩
  have hbb : Box w0 (w.heap.size + 1) (.slice bo (limbs b).length cb) := by
    rw [hw0]; exact ⟨by go_simp, by go_simp, by simp <;> omega⟩
  have hbr : Box w0 (w.heap.size + 2) (.slice none 0 0) := by
    rw [hw0]; exact ⟨by go_simp, by go_simp, by simp <;> omega⟩
  have ha0 := ha.below hbel
  have hb0 := hb.below hbel
  have HW := Lib.hid hw0; clear hw0
  go_enter Tryd.func35, Tryd.ntmps35
  go_wp2_with fail
  rw [← HW.out]
  go_step3
  have e1 := hba.cell
  have e2 := hbb.cell
  go_wp2_with fail
  refine (cmp_any _ _ a b w0 ha0 hb0).mono ?_
  rintro e w1 ⟨rfl, hb1⟩
  have hba1 := hba.kept hb1
  have hbb1 := hbb.kept hb1
  have hbr1 := hbr.kept hb1
  have hc1 := (ha4.below hbel).below hb1
  have hcb1 := (hb4.below hbel).below hb1
  have hbel1 := hbel.trans (hb1.mono hbel.size)
  have hsz1 : w.heap.size + 3 ≤ w1.heap.size := by have := hb1.size; omega
  have r1 := hba1.cell
  have r2 := hbb1.cell
  have r3 := hbr1.cell
  have r4 := hbr1.free
  clear e1 e2 hba hbb hbr ha hb ha0 hb0 hb1 hsz0 HW ha4 hb4 hbel
  by_cases hlt : a < b
  · have hcm : cmpI a b = -1 := by unfold cmpI; rw [if_pos hlt]
    have hd : decide (b ≤ a) = false := by simp; omega
    have HD := Lib.hid hd
    rw [hcm]
    clear hcm hd
    go_wp2
    rw [Exit.noGoto_ret]
    refine ret_nat_tmp rfl rfl rfl (cell_set r3) rfl ⟨_, ret_pair (congrArg Value.bool HD.out.symm), ?_, hbel1.setCell (p := ⟨w.heap.size + 2, 0, none⟩) (by simp) _⟩
    rw [show a - b = 0 by omega]
    exact NatIs.zero _
  · have hcm : 0 ≤ cmpI a b := by unfold cmpI; rw [if_neg hlt]; split <;> decide
    have hd : decide (b ≤ a) = true := by simp; omega
    have HD := Lib.hid hd
    have hle : b ≤ a := by omega
    clear hd
    go_wp2_with fail
    refine (clone_any ao ca (limbs a) w1 hc1 ha1 (by unfold maxLen; omega) ha3 (by omega)).mono ?_
    rintro e w2 ⟨v, rfl, ho, hb2⟩
    clear hcm
    have hby := r2
    have hsz2 := hb2.size
    rcases ho.shape with ⟨rfl, hnil⟩ | ⟨g, cap, rfl, hg, hgw, hcap, hcapm, _, _⟩
    · have h0 : limbs a = [] := by simpa [ints] using hnil
      have ha00 := limbs_eq_nil.1 h0
      subst ha00
      obtain rfl : b = 0 := by omega
      have hb5 := (hbr1.kept hb2)
      have r5 := hb5.cell
      have r6 := hb5.free
      go_wp2_with fail
      go_step3
      go_wp2_with fail
      refine wp_loop_rounds 1 ?_
      rw [rounds_succ]
      go_wp2_with fail
      refine (trim_any none 0 [] w2 (.inl rfl) (Nat.le_refl _) (by decide) (by simp)).mono ?_
      rintro e w6 ⟨rfl, hb6⟩
      have hbox6 := hb5.kept hb6
      have hc6 := hbox6.cell
      have hf6 := hbox6.free
      have e0 : (limbs (val [])).length = 0 := by show (limbs 0).length = 0; rw [limbs_zero]; rfl
      rw [e0]
      clear e0
      go_wp2
      rw [Exit.noGoto_ret]
      refine ret_nat_tmp rfl rfl rfl (cell_set hc6) rfl ⟨_, ret_pair (congrArg Value.bool HD.out.symm), NatIs.zero _, ?_⟩
      exact (hbel1.trans ((hb2.trans (hb6.mono hb2.size)).mono hbel1.size)).setCell (p := ⟨w.heap.size + 2, 0, none⟩) (by simp) _
    · rw [ints_length] at hcap ho ⊢
      have hm := ho.mut
      unfold maxLen at hcapm
      have hxB := limbs_lt a
      have hyB := limbs_lt b
      have hst := SubInv.start (ys := limbs b) hxB
      have hb02 := hb2
      clear ho hc1 r1 r2 r3 r4
      go_wp2_with fail
      go_step3
      go_wp2_with fail
      go_loopg [7, 20] (limbs a).length (fun gg cv iv wr => ∃ (k c : Nat) (zs : List Nat), k + gg = (limbs a).length ∧ iv = .int .i64 k ∧ cv = .int .u64 c ∧ SubInv (limbs a) (limbs b) k c zs ∧ Mut .u32 wr g 0 zs ∧ Below w1.heap.size w1 wr)
      case atStart => exact ⟨0, 0, _, by omega, rfl, rfl, hst, hm, hb02⟩
      case round =>
        obtain ⟨k, c, zs, hk, rfl, rfl, hinv, hmz, hbr0⟩ := hrel
        have hbyr : wr.cell? ⟨w.heap.size + 1, 0, none⟩ = some (.slice bo (limbs b).length cb) := ((bcell hbr0).1 _ _ (by omega)).trans hby
        have hzl := hinv.len
        have hcar := hinv.car
        by_cases hkn : k < (limbs a).length
        · have hzk := hmz.cell k (by omega)
          have hfk := hmz.free k (by omega)
          rw [Nat.zero_add] at hzk hfk
          have hzB := getD_lt (k := k) hinv.lt (by decide)
          have hnx := hinv.next hyB (by omega)
          have hms := hmz.set k (subV (zs[k]?.getD 0) (c + (limbs b)[k]?.getD 0)) (by omega)
          rw [Nat.zero_add] at hms
          by_cases hky : k < (limbs b).length
          · have hcyr := hcb1.below hbr0
            rcases hcyr with hcyr | ⟨yb, yoff, rfl, hyb, hyc⟩
            · rw [hcyr] at hky; simp at hky
            have hyk := hyc k hky
            have hyB2 := getD_lt (k := k) hyB (by decide)
            generalize zs[k]?.getD 0 = z at *
            generalize (limbs b)[k]?.getD 0 = yy at *
            have HN := Lib.hid hnx
            have HM := Lib.hid hms
            have HL := Lib.hid hzl
            clear hyc hinv hnx hms hzl hmz hst hm hcb1 hb02 hby
            have hsc := Lib.hid (sub_car (t := c + yy) hzB (by omega))
            have hsv := Lib.hid (sub_val (t := c + yy) hzB (by omega))
            go_wp2_with fail
            go_roundg (gk - 1)
            case measure => omega
            case rel => exact ⟨k + 1, _, _, by omega, by go_num, congrArg (Value.int .u64) hsc.out, HN.out, by rw [← hsv.out] at HM; exact HM.out, hbr0.setCell (by exact hg) _⟩
          · have hy0 : (limbs b)[k]?.getD 0 = 0 := by rw [List.getElem?_eq_none (by omega)]; rfl
            rw [hy0, Nat.add_zero] at hnx hms
            by_cases hc0 : c = 0
            · subst hc0
              clear hy0 hnx hms hst hzk hfk
              have hval : val zs = a - b := by
                have := hinv.done (by omega) (.inr rfl) (by rw [val_limbs, val_limbs]; exact hle)
                rwa [val_limbs, val_limbs] at this
              have hzB3 := hinv.lt
              have hn := trim_nat (cap := cap) (w' := wr) hmz.cells (by rw [hzl]; exact hcap) hzB3 (by unfold maxLen; omega)
              have hcl := hmz.cells
              have hzc : zs.length ≤ cap := by rw [hzl]; exact hcap
              have hbox := hbr1.below hbr0 (by omega)
              have HZL := Lib.hid hzl
              have HV := Lib.hid hval
              clear hzl hval
              go_wp2_with fail
              rw [← HZL.out]
              refine (trim_any (some ⟨g, 0, none⟩) cap zs wr hcl hzc (by unfold maxLen; omega) hzB3).mono ?_
              rintro e w6 ⟨rfl, hb6⟩
              have hn6 := hn.below hb6
              have hbox6 := hbox.kept hb6
              rw [HV.out] at hn6 ⊢
              have hc6 := hbox6.cell
              have hf6 := hbox6.free
              have hfin : Below w.heap.size w w6 := hbel1.trans ((hbr0.trans (hb6.mono hbr0.size)).mono hbel1.size)
              clear hmz hinv hn hcl hbox
              go_wp2
              rw [Exit.noGoto_ret]
              refine ret_nat_tmp rfl rfl rfl (cell_set hc6) rfl ⟨_, ret_pair (congrArg Value.bool HD.out.symm), hn6.set _ _ (fun n e => by rw [hc6] at e; cases e), hfin.setCell (p := ⟨w.heap.size + 2, 0, none⟩) (by simp) _⟩
            · have hcp : 0 < c := by omega
              have HL := Lib.hid hzl
              generalize zs[k]?.getD 0 = z at *
              have HN := Lib.hid hnx
              have HM := Lib.hid hms
              clear hy0 hinv hnx hms hzl hmz hst hm hcb1 hb02 hby
              have hsc := Lib.hid (sub_car (t := c) hzB (by omega))
              have hsv := Lib.hid (sub_val (t := c) hzB (by omega))
              go_wp2_with fail
              go_roundg (gk - 1)
              case measure => omega
              case rel => exact ⟨k + 1, _, _, by omega, by go_num, congrArg (Value.int .u64) hsc.out, HN.out, by rw [← hsv.out] at HM; exact HM.out, hbr0.setCell (by exact hg) _⟩
        · obtain rfl : k = (limbs a).length := by omega
          have hla2 : (limbs b).length ≤ (limbs a).length := limbs_length_mono hle
          have hval : val zs = a - b := by
            have := hinv.done (by omega) (.inl (Nat.le_refl _)) (by rw [val_limbs, val_limbs]; exact hle)
            rwa [val_limbs, val_limbs] at this
          have hzB3 := hinv.lt
          have hn := trim_nat (cap := cap) (w' := wr) hmz.cells (by rw [hzl]; exact hcap) hzB3 (by unfold maxLen; omega)
          have hcl := hmz.cells
          have hzc : zs.length ≤ cap := by rw [hzl]; exact hcap
          have hbox := hbr1.below hbr0 (by omega)
          have HZL := Lib.hid hzl
          have HV := Lib.hid hval
          clear hzl hval
          go_wp2_with fail
          rw [← HZL.out]
          refine (trim_any (some ⟨g, 0, none⟩) cap zs wr hcl hzc (by unfold maxLen; omega) hzB3).mono ?_
          rintro e w6 ⟨rfl, hb6⟩
          have hn6 := hn.below hb6
          have hbox6 := hbox.kept hb6
          rw [HV.out] at hn6 ⊢
          have hc6 := hbox6.cell
          have hf6 := hbox6.free
          have hfin : Below w.heap.size w w6 := hbel1.trans ((hbr0.trans (hb6.mono hbr0.size)).mono hbel1.size)
          clear hmz hinv hn hcl hbox
          go_wp2
          rw [Exit.noGoto_ret]
          refine ret_nat_tmp rfl rfl rfl (cell_set hc6) rfl ⟨_, ret_pair (congrArg Value.bool HD.out.symm), hn6.set _ _ (fun n e => by rw [hc6] at e; cases e), hfin.setCell (p := ⟨w.heap.size + 2, 0, none⟩) (by simp) _⟩
end Go.Proofs.YtegneoaoodddoaaDoor
