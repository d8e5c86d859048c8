/-
  nat: walks (19): Gcd.
-/
import Derived.Test.YtegneoaoodddoaaDoorNatT
namespace Go.Proofs.YtegneoaoodddoaaDoor
open Go.RowKit
set_option linter.unusedVariables false
set_option linter.unusedSimpArgs false
attribute [local go_sem] and_low field_nat

set_option maxRecDepth 100000 in
set_option maxHeartbeats 1000000 in
theorem gcd_any (va vb : Value) (a b : Nat) (w : World) (ha : NatIs w va a) (hb : NatIs w vb b) (hla : (limbs a).length ≤ 1000000) (hlb : (limbs b).length ≤ 1000000) :
    Calls Tryd.prog 31 #[va, vb] w fun e w' => ∃ r, e = .returned r ∧ NatIs w' r (Nat.gcd a b) ∧ Below w.heap.size w w' := by
  obtain ⟨ao, ca, rfl, ha1, ha2, ha3, ha4⟩ := ha.open
  obtain ⟨bo, cb, rfl, hb1, hb2, hb3, hb4⟩ := hb.open
  obtain ⟨w0, hw0⟩ : ∃ w0, w0 = ((w.alloc (.cells #[.slice ao (limbs a).length ca] 25)).alloc (.cells #[.slice bo (limbs b).length cb] 25)).alloc (.cells #[.slice none 0 0] 25) := ⟨_, rfl⟩
  have hbel : Below w.heap.size w w0 := by
    rw [hw0]; exact (((Below.refl _ w).alloc (Nat.le_refl _) _).alloc (by simp <;> omega) _).alloc (by simp <;> omega) _
  have hba : Box w0 w.heap.size (.slice ao (limbs a).length ca) := by
    rw [hw0]; exact ⟨by go_simp, by go_simp, by simp <;> omega⟩
  have hbb : Box w0 (w.heap.size + 1) (.slice bo (limbs b).length cb) := by
    rw [hw0]; exact ⟨by go_simp, by go_simp, by simp <;> omega⟩
  have hbr : Box w0 (w.heap.size + 2) (.slice none 0 0) := by
    rw [hw0]; exact ⟨by go_simp, by go_simp, by simp <;> omega⟩
  have ha0 := ha.below hbel
  have hb0 := hb.below hbel
  have HW := Lib.hid hw0; clear hw0 ha hb ha1 ha2 ha3 ha4 hb1 hb2 hb3 hb4
  go_enter Tryd.func31, Tryd.ntmps31
  go_wp2_with fail
  rw [← HW.out]
  go_loopg [7] b (fun gg uv wr => ∃ (x : Nat) (xo yo : Option Addr) (xl xc yl yc : Nat), Box wr w.heap.size (.slice xo xl xc) ∧ Box wr (w.heap.size + 1) (.slice yo yl yc) ∧ Box wr (w.heap.size + 2) (.slice none 0 0) ∧ NatIs wr (.agg #[.slice xo xl xc]) x ∧ NatIs wr (.agg #[.slice yo yl yc]) gg ∧ (limbs x).length ≤ 1000000 ∧ (limbs gg).length ≤ 1000000 ∧ Nat.gcd x gg = Nat.gcd a b ∧ Below w.heap.size w wr)
  case atStart => exact ⟨a, _, _, _, _, _, _, hba, hbb, hbr, ha0, hb0, hla, hlb, rfl, hbel⟩
  case round =>
    obtain ⟨x, xo, yo, xl, xc, yl, yc, hbx, hby, hbz, hnx, hny, hlx, hly, hg, hbw⟩ := hrel
    have HG := Lib.hid hg; clear hg
    have e1 := hby.cell
    go_wp2_with fail
    refine (zero_any _ _ wr hny).mono ?_
    rintro e w1 ⟨rfl, hb1⟩
    have hbx1 := hbx.kept hb1
    have hby1 := hby.kept hb1
    have hbz1 := hbz.kept hb1
    have e2 := hbx1.cell
    have e3 := hby1.cell
    clear e1
    by_cases hz : gk = 0
    · have HZ := Lib.hid hz
      simp only [decide_eq_true hz]
      clear hz
      have e4 := hbz1.cell
      have f4 := hbz1.free
      have hfin := hbw.trans (hb1.mono hbw.size)
      have hgx : Nat.gcd a b = x := by rw [← HG.out, HZ.out, Nat.gcd_zero_right]
      have hn1 := (hnx.below hb1).set ⟨w.heap.size + 2, 0, none⟩ (.slice xo xl xc) (fun n e => by rw [e4] at e; cases e)
      rw [← hgx] at hn1
      clear hgx
      go_wp2
      exact ret_nat rfl rfl (cell_set e4) rfl ⟨_, rfl, hn1, hfin.setCell (p := ⟨w.heap.size + 2, 0, none⟩) (by simp) _⟩
    · simp only [decide_eq_false hz]
      have HZ : Hid (¬ gk = 0) := Lib.hid hz
      clear hz
      go_wp2_with fail
      refine (divmod_any _ _ x gk w1 (hnx.below hb1) (hny.below hb1) hlx hly).mono ?_
      rintro e w2 ⟨q, s, rfl, hq, hs, hb2⟩
      rw [if_neg HZ.out] at hs
      obtain ⟨qo, qc, rfl, _, _, _, _⟩ := hq.open
      obtain ⟨so, sc, rfl, _, _, _, _⟩ := hs.open
      have hbx2 := hbx1.kept hb2
      have hby2 := hby1.kept hb2
      have hbz2 := hbz1.kept hb2
      have hb12 := hb1.trans (hb2.mono hb1.size)
      have hny2 := hny.below hb12
      generalize (limbs (x / gk)).length = ql at *
      obtain ⟨sl, hsl⟩ : ∃ sl, sl = (limbs (x % gk)).length := ⟨_, rfl⟩
      rw [← hsl] at hs ⊢
      have hsl2 : sl ≤ 1000000 := by rw [hsl]; exact Nat.le_trans (limbs_length_mono (Nat.le_of_lt (Nat.mod_lt _ (by have := HZ.out; omega)))) hly
      have HSL := Lib.hid hsl
      obtain ⟨w3, hw3⟩ : ∃ w3, w3 = (w2.alloc (.cells #[.slice qo ql qc] 25)).alloc (.cells #[.slice so sl sc] 25) := ⟨_, rfl⟩
      have hb3 : Below w2.heap.size w2 w3 := by rw [hw3]; exact ((Below.refl _ w2).alloc (Nat.le_refl _) _).alloc (by simp) _
      have hs9 : Box w3 (w2.heap.size + 1) (.slice so sl sc) := by rw [hw3]; exact ⟨by go_simp, by go_simp, by simp <;> omega⟩
      have hbx3 := hbx2.kept hb3
      have hby3 := hby2.kept hb3
      have hbz3 := hbz2.kept hb3
      have hs3 := hs.below hb3
      have hny3 := hny2.below hb3
      have hb23 := hb12.trans (hb3.mono hb12.size)
      have hlt2 : w.heap.size + 2 < w2.heap.size := hbz2.lt
      have HW3 := Lib.hid hw3
      clear hw3 e2 e3 hsl
      have c1 := hbx3.cell
      have c2 := hby3.cell
      have c3 := hs9.cell
      have f1 := hbx3.free
      have f2 := hby3.free
      go_upto_region 3 with fail
      rw [← HW3.out]
      obtain ⟨q9, hq9⟩ : ∃ q, q = w2.heap.size := ⟨_, rfl⟩
      obtain ⟨q10, hq10⟩ : ∃ q, q = q9 + 1 := ⟨_, rfl⟩
      rw [← hq9] at c3 ⊢
      rw [← hq10] at c3 ⊢
      have x1 : ¬ (q10 = w.heap.size) := by omega
      have x2 : ¬ (w.heap.size = q10) := by omega
      have x3 : ¬ (q10 = w.heap.size + 1) := by omega
      have x4 : ¬ (w.heap.size + 1 = q10) := by omega
      clear hq9 hq10
      go_region
      all_goals
        go_wp2
        have hdr : Below w3.heap.size w3 w3.drew := (Below.refl _ _).drew
        go_roundg (x % gk)
        case measure => exact Nat.mod_lt _ (by have := HZ.out; omega)
        case rel =>
          refine ⟨gk, yo, so, yl, yc, sl, sc, ?_, ?_, ?_, ?_, ?_, hly, ?_, ?_, ?_⟩
          · exact (hbx3.drew.set _).setOther (by omega) 0 _
          · exact (hby3.drew.setOther (by omega) 0 _).set _
          · exact (hbz3.drew.setOther (by omega) 0 _).setOther (by omega) 0 _
          · exact ((hny3.below hdr).set _ _ (fun n e => by rw [hbx3.drew.cell] at e; cases e)).set _ _ (fun n e => by rw [(hby3.drew.setOther (by omega) 0 _).cell] at e; cases e)
          · exact ((hs3.below hdr).set _ _ (fun n e => by rw [hbx3.drew.cell] at e; cases e)).set _ _ (fun n e => by rw [(hby3.drew.setOther (by omega) 0 _).cell] at e; cases e)
          · rw [← HSL.out]; exact hsl2
          · rw [← HG.out, Nat.gcd_comm gk (x % gk), ← Nat.gcd_rec, Nat.gcd_comm]
          · exact ((hbw.trans ((hb23.trans (hdr.mono hb23.size)).mono hbw.size)).setCell (p := ⟨w.heap.size, 0, none⟩) (by simp) _).setCell (p := ⟨w.heap.size + 1, 0, none⟩) (by simp) _
end Go.Proofs.YtegneoaoodddoaaDoor
