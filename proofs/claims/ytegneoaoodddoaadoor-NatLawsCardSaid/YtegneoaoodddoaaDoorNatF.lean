/-
  nat: walks (6): Add.
-/
import Derived.Test.YtegneoaoodddoaaDoorNatD
import Derived.Test.YtegneoaoodddoaaDoorMathD
import Derived.Deep.LoopGhost
import Derived.Deep.DeepCutAuto
namespace Go.Proofs.YtegneoaoodddoaaDoor
open Go.RowKit
set_option linter.unusedVariables false
set_option linter.unusedSimpArgs false
attribute [local go_sem] and_low field_nat

/-- What is known behind the exchange: the longer one first. -/
def AddCut (w : World) (a b : Nat) (wx : World) : Prop :=
  ∃ x y ax cx ay cy, wx.cell? ⟨w.heap.size, 0, none⟩ = some (.slice ax (limbs x).length cx) ∧ wx.cell? ⟨w.heap.size + 1, 0, none⟩ = some (.slice ay (limbs y).length cy) ∧
    Box wx (w.heap.size + 2) (.slice none 0 0) ∧ Cells .u32 wx ax (limbs x) ∧ (limbs x).length ≤ cx ∧ cx ≤ 9223372036854775807 ∧ (ax = none → cx = 0) ∧ Cells .u32 wx ay (limbs y) ∧ (limbs y).length ≤ cy ∧ cy ≤ 9223372036854775807 ∧
    (limbs y).length ≤ (limbs x).length ∧ (limbs x).length ≤ 100000000 ∧ x + y = a + b ∧ Below w.heap.size w wx ∧ w.heap.size + 3 ≤ wx.heap.size

set_option maxRecDepth 100000 in
set_option maxHeartbeats 1000000 in
theorem add_any (va vb : Value) (a b : Nat) (w : World) (ha : NatIs w va a) (hb : NatIs w vb b) (hla : (limbs a).length ≤ 100000000) (hlb : (limbs b).length ≤ 100000000) :
    Calls Tryd.prog 15 #[va, vb] w fun e w' => ∃ r, e = .returned r ∧ NatIs w' r (a + b) ∧ Below w.heap.size w w' := by
  obtain ⟨ao, ca, rfl, ha1, ha2, ha3, ha4⟩ := ha.open
  obtain ⟨bo, cb, rfl, hb1, hb2, hb3, hb4⟩ := hb.open
  go_enter Tryd.func15, Tryd.ntmps15
  go_wp2_with fail
  go_step3
  go_upto_if 14 with fail
  go_cut [] (fun wx => AddCut w a b wx)
  case first =>
    have hbel : Below w.heap.size w (((w.alloc (.cells #[.slice ao (limbs a).length ca] 25)).alloc (.cells #[.slice bo (limbs b).length cb] 25)).alloc (.cells #[.slice none 0 0] 25)) :=
      (((Below.refl _ w).alloc (Nat.le_refl _) _).alloc (by simp <;> omega) _).alloc (by simp <;> omega) _
    have hca := ha4.below hbel
    have hcb := hb4.below hbel
    by_cases hlt : (limbs a).length < (limbs b).length
    · go_wp2
      go_meet
      have hfin := ((((Below.refl _ w).alloc (Nat.le_refl _) (.cells #[.slice bo (limbs b).length cb] 25)).alloc (by simp <;> omega) (.cells #[.slice ao (limbs a).length ca] 25)).alloc (by simp <;> omega) (.cells #[.slice none 0 0] 25))
      exact ⟨b, a, bo, cb, ao, ca, by go_simp, by go_simp, ⟨by go_simp, by go_simp, by simp [World.setCell]⟩, hb4.below hfin, hb1, hb2, hb3, ha4.below hfin, ha1, ha2, by omega, hlb, by omega, hfin, by simp [World.setCell] <;> omega⟩
    · go_wp2
      go_meet
      exact ⟨a, b, ao, ca, bo, cb, by go_simp, by go_simp, ⟨by go_simp, by go_simp, by simp⟩, hca, ha1, ha2, ha3, hcb, hb1, hb2, by omega, hla, rfl, hbel, by simp <;> omega⟩
  case rest =>
    clear ha ha1 ha2 ha3 ha4 hb hb1 hb2 hb3 hb4 hla hlb
    obtain ⟨x, y, ax, cx, ay, cy, hbx, hby, hbr, hcx, hx1, hx2, hx3, hcy, hy1, hy2, hyx, hxl, hsum, hbel, hsz⟩ := hcut
    have HSum := Lib.hid hsum; clear hsum
    have hbr' := hbr.cell
    have hbf := hbr.free
    go_wp2_with fail
    refine (clone_any ax cx (limbs x) wc hcx hx1 (by unfold maxLen; omega) hx3 (by omega)).mono ?_
    rintro e w1 ⟨v, rfl, ho, hb1⟩
    have hil := ints_length .u32 (limbs x)
    go_wp2_with (at_builtin; refine append1 E32 ho rfl rfl rfl rfl rfl (by rw [hil]; omega) (by rw [hil]; unfold maxLen; omega) hb1.size ?_; intro v' w2 ho2 hb2 _)
    have hone : ints .u32 (limbs x) ++ [.int .u32 0] = ints .u32 (limbs x ++ [0]) := by simp [ints]
    rw [hone] at ho2
    rcases ho2.shape with ⟨_, hnil⟩ | ⟨g, cap, rfl, hg, hgw, hcap, hcapm, _, _⟩
    · simp [ints] at hnil
    have hln : (ints .u32 (limbs x ++ [0])).length = (limbs x).length + 1 := by simp [ints]
    rw [hln] at hcap ho2 ⊢
    have hb02 : Below wc.heap.size wc w2 := hb1.trans hb2
    have hm := ho2.mut
    unfold maxLen at hcapm
    have hbl := hbel.size
    clear hbx hcx hx1 hx2 hx3 hbr' hbf ho hb1 hil hb2 hone ho2 hln
    have hxB := limbs_lt x
    have hyB := limbs_lt y
    have hxB2 : ∀ z ∈ limbs x ++ [0], z < 4294967296 := by
      intro z hz
      rcases List.mem_append.1 hz with h | h
      · exact hxB z h
      · simp at h; omega
    have hst := AddInv.start (ys := limbs y) hxB2
    go_wp2_with fail
    go_step3
    go_wp2_with fail
    go_loopg [6, 24] ((limbs x).length + 1) (fun gg cv iv wr => ∃ (k c : Nat) (zs : List Nat), k + gg = (limbs x).length + 1 ∧ iv = .int .i64 k ∧ cv = .int .u64 c ∧ AddInv (limbs x ++ [0]) (limbs y) k c zs ∧ Mut .u32 wr g 0 zs ∧ Below wc.heap.size wc wr)
    case atStart => exact ⟨0, 0, _, by omega, rfl, rfl, hst, hm, hb02⟩
    case round =>
      obtain ⟨k, c, zs, hk, rfl, rfl, hinv, hmz, hbr0⟩ := hrel
      have hbyr : wr.cell? ⟨w.heap.size + 1, 0, none⟩ = some (.slice ay (limbs y).length cy) := ((bcell hbr0).1 _ _ (by omega)).trans hby
      have hzl : zs.length = (limbs x).length + 1 := by rw [hinv.len]; simp
      have hcar := hinv.car
      by_cases hkn : k < (limbs x).length + 1
      · have hzk := hmz.cell k (by omega)
        have hfk := hmz.free k (by omega)
        rw [Nat.zero_add] at hzk hfk
        have hzB := getD_lt (k := k) hinv.lt (by decide)
        have hnx := hinv.next hyB (by simp; omega)
        have hms := hmz.set k ((c + (limbs y)[k]?.getD 0 + zs[k]?.getD 0) % 4294967296) (by omega)
        rw [Nat.zero_add] at hms
        by_cases hky : k < (limbs y).length
        · have hcyr := hcy.below hbr0
          rcases hcyr with hcyr | ⟨yb, yoff, rfl, hyb, hyc⟩
          · rw [hcyr] at hky; simp at hky
          have hyk := hyc k hky
          have hyB2 := getD_lt (k := k) hyB (by decide)
          generalize zs[k]?.getD 0 = z at *
          generalize (limbs y)[k]?.getD 0 = yy at *
          have HN := Lib.hid hnx
          have HM := Lib.hid hms
          have HL := Lib.hid hzl
          clear hyc hinv hnx hms hzl hmz hst hm hcy hb02 hby
          go_wp2_with fail
          go_roundg (gk - 1)
          case measure => omega
          case rel => exact ⟨k + 1, _, _, by omega, by go_num, by go_num, HN.out, HM.out, hbr0.setCell (by exact hg) _⟩
        · have hy0 : (limbs y)[k]?.getD 0 = 0 := by rw [List.getElem?_eq_none (by omega)]; rfl
          rw [hy0, Nat.add_zero] at hnx hms
          have HL := Lib.hid hzl
          by_cases hc0 : c = 0
          · subst hc0
            clear hy0 hnx hms hst hzk hfk
            have hval : val zs = x + y := by
              have := hinv.broke (by omega)
              rwa [val_limbs, val_limbs] at this
            rw [HSum.out] at hval
            have hzB3 := hinv.lt
            have hn := trim_nat (cap := cap) (w' := wr) hmz.cells (by rw [hzl]; exact hcap) hzB3 (by unfold maxLen; omega)
            have hcl := hmz.cells
            have hzc : zs.length ≤ cap := by rw [hzl]; exact hcap
            have hbox := hbr.below hbr0 (by omega)
            have HZL := Lib.hid hzl
            have HV := Lib.hid hval
            clear hzl hval
            go_wp2_with fail
            rw [← HZL.out]
            refine (trim_any (some ⟨g, 0, none⟩) cap zs wr hcl hzc (by unfold maxLen; omega) hzB3).mono ?_
            rintro e w6 ⟨rfl, hb6⟩
            have hn6 := hn.below hb6
            have hbox6 := hbox.kept hb6
            rw [HV.out] at hn6 ⊢
            have hc6 := hbox6.cell
            have hf6 := hbox6.free
            have hfin : Below w.heap.size w w6 := hbel.trans ((hbr0.trans (hb6.mono hbr0.size)).mono hbel.size)
            clear hmz hinv hn hcl hbox
            go_wp2
            rw [Exit.noGoto_ret]
            refine ret_nat rfl rfl (cell_set hc6) rfl ⟨_, rfl, hn6.set _ _ (fun n e => by rw [hc6] at e; cases e), hfin.setCell (p := ⟨w.heap.size + 2, 0, none⟩) (by simp) _⟩
          · have hcp : 0 < c := by omega
            generalize zs[k]?.getD 0 = z at *
            have HN := Lib.hid hnx
            have HM := Lib.hid hms
            clear hy0 hinv hnx hms hzl hmz hst hm hcy hb02 hby
            go_wp2_with fail
            go_roundg (gk - 1)
            case measure => omega
            case rel => exact ⟨k + 1, _, _, by omega, by go_num, by go_num, HN.out, HM.out, hbr0.setCell (by exact hg) _⟩
      · obtain rfl : k = (limbs x).length + 1 := by omega
        have hval : val zs = x + y := by
          have := hinv.done hxB hyB hyx
          rwa [val_limbs, val_limbs] at this
        rw [HSum.out] at hval
        have hzB3 := hinv.lt
        have hn := trim_nat (cap := cap) (w' := wr) hmz.cells (by rw [hzl]; exact hcap) hzB3 (by unfold maxLen; omega)
        have hcl := hmz.cells
        have hzc : zs.length ≤ cap := by rw [hzl]; exact hcap
        have hbox := hbr.below hbr0 (by omega)
        have HZL := Lib.hid hzl
        have HV := Lib.hid hval
        clear hzl hval
        go_wp2_with fail
        rw [← HZL.out]
        refine (trim_any (some ⟨g, 0, none⟩) cap zs wr hcl hzc (by unfold maxLen; omega) hzB3).mono ?_
        rintro e w6 ⟨rfl, hb6⟩
        have hn6 := hn.below hb6
        have hbox6 := hbox.kept hb6
        rw [HV.out] at hn6 ⊢
        have hc6 := hbox6.cell
        have hf6 := hbox6.free
        have hfin : Below w.heap.size w w6 := hbel.trans ((hbr0.trans (hb6.mono hbr0.size)).mono hbel.size)
        clear hmz hinv hn hcl hbox
        go_wp2
        rw [Exit.noGoto_ret]
        refine ret_nat rfl rfl (cell_set hc6) rfl ⟨_, rfl, hn6.set _ _ (fun n e => by rw [hc6] at e; cases e), hfin.setCell (p := ⟨w.heap.size + 2, 0, none⟩) (by simp) _⟩
end Go.Proofs.YtegneoaoodddoaaDoor
