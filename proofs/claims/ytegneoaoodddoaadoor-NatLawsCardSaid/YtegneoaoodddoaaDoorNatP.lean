/-
  nat: walks (10): number, Parse.
-/
import Derived.Test.YtegneoaoodddoaaDoorNatC
import Derived.Test.YtegneoaoodddoaaDoorHeapB
import Derived.Test.YtegneoaoodddoaaDoorMathE
import Derived.Deep.LoopGhost
namespace Go.Proofs.YtegneoaoodddoaaDoor
open Go.RowKit
set_option linter.unusedVariables false
set_option linter.unusedSimpArgs false
attribute [local go_sem] and_low field_nat

theorem byte_at (l : List UInt8) (k : Nat) (hk : k < l.length) (h : k < (⟨l.toArray⟩ : ByteArray).size) : (((⟨l.toArray⟩ : ByteArray)[k]'h).toNat : Int) = ((l[k]?.getD 0).toNat : Int) := by
  have e : (⟨l.toArray⟩ : ByteArray)[k]'h = l[k] := rfl
  rw [e, List.getElem?_eq_getElem hk]; rfl

theorem all_snoc {l : List UInt8} {k : Nat} (hk : k < l.length) (h : (l.take k).all isDig = true) : (l.take (k + 1)).all isDig = isDig (l[k]?.getD 0) := by
  rw [List.take_add_one, List.getElem?_eq_getElem hk, List.all_append, h]; simp
theorem all_false {l : List UInt8} {k : Nat} (hk : k < l.length) (h : isDig (l[k]?.getD 0) = false) : l.all isDig = false := by
  rw [List.all_eq_false]
  refine ⟨l[k], List.getElem_mem hk, ?_⟩
  rw [List.getElem?_eq_getElem hk] at h
  simpa using h

set_option maxRecDepth 100000 in
set_option maxHeartbeats 1000000 in
theorem number_any (l : List UInt8) (w : World) (hl : l.length ≤ 1000000000) :
    Calls Tryd.prog 43 #[.string ⟨l.toArray⟩] w fun e w' => e = .returned (.bool (numOk l)) ∧ w = w' := by
  go_enter Tryd.func43, Tryd.ntmps43
  go_wp2_with fail
  go_loopg [6] l.length (fun gg iv wr => ∃ k : Nat, k + gg = l.length ∧ iv = .int .i64 k ∧ (l.take k).all isDig = true ∧ w = wr)
  case atStart => exact ⟨0, by omega, rfl, by simp, rfl⟩
  case round =>
    obtain ⟨k, hk, rfl, hall, rfl⟩ := hrel
    have HA := Lib.hid hall; clear hall
    by_cases hkl : k < l.length
    · have hby := byte_at l k hkl (by simpa [ByteArray.size] using hkl)
      have hsn := Lib.hid (all_snoc hkl HA.out)
      have hfa : isDig (l[k]?.getD 0) = false → numOk l = false := fun h => by unfold numOk; rw [all_false hkl h]; rfl
      have HF := Lib.hid hfa
      clear hfa
      generalize l[k]?.getD 0 = c at *
      by_cases h1 : c.toNat < 48
      · have hz : isDig c = false := by simp [isDig]; omega
        have HZ := Lib.hid (HF.out hz)
        clear hz
        go_wp2_with fail
        go_ret
        exact ⟨ret_one (congrArg Value.bool HZ.out.symm), rfl⟩
      · by_cases h2 : 57 < c.toNat
        · have hz : isDig c = false := by simp [isDig]; omega
          have HZ := Lib.hid (HF.out hz)
          clear hz
          go_wp2_with fail
          go_ret
          exact ⟨ret_one (congrArg Value.bool HZ.out.symm), rfl⟩
        · have hz : isDig c = true := by simp [isDig]; omega
          have HZ := Lib.hid hz
          clear hz
          go_wp2_with fail
          go_roundg (gk - 1)
          case measure => omega
          case rel => exact ⟨k + 1, by omega, by go_num, by rw [hsn.out]; exact HZ.out, rfl⟩
    · obtain rfl : k = l.length := by omega
      have hall2 : l.all isDig = true := by have := HA.out; rwa [List.take_length] at this
      have HB := Lib.hid hall2
      clear hall2 HA
      rcases l with _ | ⟨c, r⟩
      · go_wp2_with fail
        go_ret
        exact ⟨rfl, rfl⟩
      · have hb0 : ∀ h, (((⟨(c :: r).toArray⟩ : ByteArray)[0]'h).toNat : Int) = (c.toNat : Int) := fun _ => rfl
        have hall3 := HB.out
        by_cases hc : c = 48
        · subst hc
          cases r with
          | nil =>
            clear hall3
            go_wp2_with fail
            go_ret
            exact ⟨rfl, rfl⟩
          | cons d r =>
            have hn : numOk (48 :: d :: r) = false := by simp [numOk]
            have HN := Lib.hid hn
            clear hn hall3
            go_wp2_with fail
            go_ret
            refine ⟨ret_one (congrArg Value.bool HN.out.symm), rfl⟩
        · have hn : numOk (c :: r) = true := by simp [numOk, hall3, hc]
          have HN := Lib.hid hn
          have h48 : (c == 48) = false := by simp [hc]
          have hcn : ((c.toNat : Int) != 48) = true := by
            rw [bne_iff_ne]; intro h; apply hc; rw [← UInt8.toNat_inj]; show c.toNat = 48; omega
          clear hn hall3
          go_wp2_with fail
          go_ret
          exact ⟨ret_one (congrArg Value.bool HN.out.symm), rfl⟩

def pcode (l : List UInt8) : Int := if numOk l then (if 1200 < l.length then 2 else 0) else 3
def pval (l : List UInt8) : Nat := if numOk l then (if 1200 < l.length then 0 else dnum l) else 0

set_option maxRecDepth 100000 in
set_option maxHeartbeats 1000000 in
theorem parse_any (l : List UInt8) (w : World) (hl : l.length ≤ 1000000000) :
    Calls Tryd.prog 11 #[.string ⟨l.toArray⟩] w fun e w' => ∃ r, e = .returned (.tuple #[r, .int .i64 (pcode l)]) ∧ NatIs w' r (pval l) ∧ Below w.heap.size w w' := by
  obtain ⟨w0, hw0⟩ : ∃ w0, w0 = w.alloc (.cells #[.slice none 0 0] 25) := ⟨_, rfl⟩
  have hbel : Below w.heap.size w w0 := by rw [hw0]; exact (Below.refl _ w).alloc (Nat.le_refl _) _
  have hbr : Box w0 w.heap.size (.slice none 0 0) := by rw [hw0]; exact ⟨by go_simp, by go_simp, by simp <;> omega⟩
  have hsz0 : w.heap.size < w0.heap.size := hbr.lt
  have HW := Lib.hid hw0; clear hw0
  have r1 := hbr.cell
  have r2 := hbr.free
  by_cases hok : numOk l = true
  · by_cases hlen : 1200 < l.length
    · have hp1 : pcode l = 2 := by unfold pcode; rw [if_pos hok, if_pos hlen]
      have hp2 : pval l = 0 := by unfold pval; rw [if_pos hok, if_pos hlen]
      have H1 := Lib.hid hp1
      have H2 := Lib.hid hp2
      have HO := Lib.hid hok
      clear hp1 hp2 hok
      go_enter Tryd.func11, Tryd.ntmps11
      go_wp2_with fail
      rw [← HW.out]
      refine (number_any l w0 hl).mono ?_
      rintro e w1 ⟨rfl, rfl⟩
      rw [HO.out]
      go_wp2
      refine ret_nat_tmp rfl rfl rfl (cell_set r1) rfl ⟨_, ret_pair (congrArg (Value.int .i64) H1.out.symm), by rw [H2.out]; exact NatIs.zero _, hbel.setCell (p := ⟨w.heap.size, 0, none⟩) (Nat.le_refl _) _⟩
    · have hp1 : pcode l = 0 := by unfold pcode; rw [if_pos hok, if_neg hlen]
      have hp2 : pval l = dnum l := by unfold pval; rw [if_pos hok, if_neg hlen]
      have H1 := Lib.hid hp1
      have H2 := Lib.hid hp2
      have HO := Lib.hid hok
      have hall : l.all isDig = true := by unfold numOk at hok; rw [Bool.and_eq_true] at hok; exact hok.1
      have HA := Lib.hid hall
      clear hp1 hp2 hok hall
      go_enter Tryd.func11, Tryd.ntmps11
      go_wp2_with fail
      rw [← HW.out]
      refine (number_any l w0 hl).mono ?_
      rintro e w1 ⟨rfl, rfl⟩
      rw [HO.out]
      go_wp2_with fail
      go_loopg [4, 18] l.length (fun gg lv iv wr => ∃ (k : Nat) (xs : List Nat), k + gg = l.length ∧ iv = .int .i64 k ∧ Owns w0.heap.size 73 wr lv (ints .u32 xs) ∧ (∀ x ∈ xs, x < 4294967296) ∧ xs.length ≤ k ∧ val xs = dnum (l.take k) ∧ Below w0.heap.size w0 wr)
      case atStart => exact ⟨0, [], by omega, rfl, Owns.nil _ _ _, by simp, by simp, by simp [val, dnum], Below.refl _ _⟩
      case round =>
        obtain ⟨k, xs, hk, rfl, ho, hx, hxl, hval, hb⟩ := hrel
        have HX := Lib.hid hx
        have HV := Lib.hid hval
        clear hx hval
        by_cases hkl : k < l.length
        · have hby := byte_at l k hkl (by simpa [ByteArray.size] using hkl)
          have hdg : isDig (l[k]?.getD 0) = true := by
            have h := HA.out
            rw [List.all_eq_true] at h
            rw [List.getElem?_eq_getElem hkl]
            exact h _ (List.getElem_mem hkl)
          have hdn : dnum (l.take (k + 1)) = dnum (l.take k) * 10 + ((l[k]?.getD 0).toNat - 48) := by
            rw [List.take_add_one, List.getElem?_eq_getElem hkl]
            exact dnum_snoc _ _
          have HD := Lib.hid hdn
          clear hdn
          generalize l[k]?.getD 0 = c at *
          have hc1 := isDig_iff.1 hdg
          clear hdg
          have ec : ((c.toNat : Int) - 48) = ((c.toNat - 48 : Nat) : Int) := by omega
          have HE := Lib.hid ec
          clear ec
          go_wp2_with fail
          rw [HE.out]
          refine (more_any w0.heap.size _ xs 10 (c.toNat - 48) wr ho hb.size HX.out (by decide) (by omega) (by omega)).mono ?_
          rintro e w2 ⟨v2, rfl, ho2, hb2⟩
          have hml := moreL_length xs 10 (c.toNat - 48)
          go_wp2_with fail
          go_roundg (gk - 1)
          case measure => omega
          case rel => exact ⟨k + 1, _, by omega, by go_num, ho2, moreL_lt xs 10 (c.toNat - 48) HX.out (by decide) (by omega), by omega, by rw [moreL_val, HV.out, HD.out], hb.trans hb2⟩
        · obtain rfl : k = l.length := by omega
          obtain ⟨ao, cap, rfl, hc1, hc2, hc3, hc4⟩ := ho.toInts
          have hn := trim_nat (w' := wr) hc4 hc1 HX.out hc2
          have hbox := hbr.kept hb
          generalize hxn : xs.length = xn at *
          have HXN := Lib.hid hxn; clear hxn
          go_wp2_with fail
          rw [← HXN.out]
          refine (trim_any ao cap xs wr hc4 (by rw [HXN.out]; exact hc1) hc2 HX.out).mono ?_
          rintro e w6 ⟨rfl, hb6⟩
          have hn6 := hn.below hb6
          have hbox6 := hbox.kept hb6
          have hv2 : val xs = pval l := by rw [HV.out, H2.out, List.take_length]
          rw [hv2] at hn6 ⊢
          have hc6 := hbox6.cell
          have hf6 := hbox6.free
          have hfin : Below w.heap.size w w6 := hbel.trans ((hb.trans (hb6.mono hb.size)).mono hbel.size)
          clear hn hbox hv2 hc1 hc2 hc3 hc4 ho r1 r2
          go_wp2
          refine ret_nat_tmp rfl rfl rfl (cell_set hc6) rfl ⟨_, ret_pair (congrArg (Value.int .i64) H1.out.symm), hn6.set _ _ (fun n e => by rw [hc6] at e; cases e), hfin.setCell (p := ⟨w.heap.size, 0, none⟩) (Nat.le_refl _) _⟩
  · have hok' : numOk l = false := by simpa using hok
    have hp1 : pcode l = 3 := by unfold pcode; rw [if_neg hok]
    have hp2 : pval l = 0 := by unfold pval; rw [if_neg hok]
    have H1 := Lib.hid hp1
    have H2 := Lib.hid hp2
    have HO := Lib.hid hok'
    clear hp1 hp2 hok hok'
    go_enter Tryd.func11, Tryd.ntmps11
    go_wp2_with fail
    rw [← HW.out]
    refine (number_any l w0 hl).mono ?_
    rintro e w1 ⟨rfl, rfl⟩
    rw [HO.out]
    go_wp2
    refine ret_nat_tmp rfl rfl rfl (cell_set r1) rfl ⟨_, ret_pair (congrArg (Value.int .i64) H1.out.symm), by rw [H2.out]; exact NatIs.zero _, hbel.setCell (p := ⟨w.heap.size, 0, none⟩) (Nat.le_refl _) _⟩
end Go.Proofs.YtegneoaoodddoaaDoor
