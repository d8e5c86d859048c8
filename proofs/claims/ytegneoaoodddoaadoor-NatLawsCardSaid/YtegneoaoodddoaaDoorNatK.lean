/-
  nat: walks (12): down, Shift.
-/
import Derived.Test.YtegneoaoodddoaaDoorNatG
import Derived.Test.YtegneoaoodddoaaDoorMathF
namespace Go.Proofs.YtegneoaoodddoaaDoor
open Go.RowKit
set_option linter.unusedVariables false
set_option linter.unusedSimpArgs false
attribute [local go_sem] and_low field_nat

theorem at_int (v : Value) (n : Nat) (j : Int) (w : World) (h : NatIs w v n) (h0 : 0 ≤ j) (h1 : j ≤ 9223372036854775807) :
    Calls Tryd.prog 58 #[v, .int .i64 j] w fun e w' => e = .returned (.int .u32 (((limbs n)[j.toNat]?.getD 0 : Nat) : Int)) ∧ Below w.heap.size w w' := by
  obtain ⟨i, rfl⟩ := Int.eq_ofNat_of_zero_le h0
  rw [Int.toNat_natCast]
  exact at_any v n i w h (by omega)

set_option maxRecDepth 100000 in
set_option maxHeartbeats 1000000 in
theorem down_any (va : Value) (a k : Nat) (w : World) (ha : NatIs w va a) (hla : (limbs a).length ≤ 1000000) (hk : k ≤ 1000000000) :
    Calls Tryd.prog 56 #[va, .int .i64 (-(k : Int))] w fun e w' => ∃ r, e = .returned r ∧ NatIs w' r (a / 2 ^ k) ∧ Below w.heap.size w w' := by
  obtain ⟨ao, ca, rfl, ha1, ha2, ha3, ha4⟩ := ha.open
  obtain ⟨w0, hw0⟩ : ∃ w0, w0 = (w.alloc (.cells #[.slice ao (limbs a).length ca] 25)).alloc (.cells #[.slice none 0 0] 25) := ⟨_, rfl⟩
  have hbel : Below w.heap.size w w0 := by
    rw [hw0]; exact ((Below.refl _ w).alloc (Nat.le_refl _) _).alloc (by simp <;> omega) _
  have hsz0 : w.heap.size + 2 ≤ w0.heap.size := by rw [hw0]; simp
  have hba : Box w0 w.heap.size (.slice ao (limbs a).length ca) := by
    rw [hw0]; exact ⟨by go_simp, by go_simp, by simp <;> omega⟩
  have hbr : Box w0 (w.heap.size + 1) (.slice none 0 0) := by
    rw [hw0]; exact ⟨by go_simp, by go_simp, by simp <;> omega⟩
  have hca := ha4.below hbel
  have ha0 := ha.below hbel
  have HW := Lib.hid hw0; clear hw0
  have e1 := hba.cell
  have e2 := hbr.cell
  have e3 := hbr.free
  by_cases hbig : 32 * (limbs a).length < k
  · have hz : a / 2 ^ k = 0 := by
      apply Nat.div_eq_of_lt
      refine Nat.lt_of_lt_of_le (lt_pow_limbs a) ?_
      have : (4294967296 : Nat) ^ (limbs a).length = 2 ^ (32 * (limbs a).length) := by rw [Nat.pow_mul]
      rw [this]
      exact Nat.pow_le_pow_right (by decide) (by omega)
    have HZ := Lib.hid hz; clear hz
    go_enter Tryd.func56, Tryd.ntmps56
    go_upto_region 1 with fail
    rw [← HW.out]
    go_wp2
    exact ret_nat rfl rfl (cell_set e2) rfl ⟨_, rfl, by rw [HZ.out]; exact NatIs.zero _, hbel.setCell (p := ⟨w.heap.size + 1, 0, none⟩) (by simp) _⟩
  · obtain ⟨q, hq⟩ : ∃ q, q = k / 32 := ⟨_, rfl⟩
    obtain ⟨s, hs⟩ : ∃ s, s = k % 32 := ⟨_, rfl⟩
    have hs32 : s < 32 := by omega
    have hqk : k = 32 * q + s := by omega
    have iq : (k : Int) / 32 = (q : Int) := by omega
    have is : (k : Int) % 32 = (s : Int) := by omega
    have hqle : q ≤ (limbs a).length := by omega
    have HQ := Lib.hid hqk
    clear hq hs hqk
    go_enter Tryd.func56, Tryd.ntmps56
    go_upto_region 1 with fail
    rw [← HW.out]
    go_wp2_with fail
    go_loopg [6, 7] (limbs a).length (fun gg ov iv wr => ∃ (i : Nat), i + gg = q + (limbs a).length ∧ q ≤ i ∧ i ≤ (limbs a).length ∧ iv = .int .i64 i ∧ Owns w0.heap.size 73 wr ov (ints .u32 ((downL s ((limbs a).drop q)).take (i - q))) ∧ Below w0.heap.size w0 wr)
    case atStart => exact ⟨q, rfl, Nat.le_refl _, hqle, rfl, by rw [Nat.sub_self, List.take_zero]; exact Owns.nil _ _ _, Below.refl _ _⟩
    case round =>
      obtain ⟨i, hg, hqi, hil, rfl, ho, hb⟩ := hrel
      by_cases hlt : i < (limbs a).length
      · have har := ha0.below hb
        have hcr := hca.below hb
        rcases hcr with hcr | ⟨xb, xoff, rfl, hxb, hxc⟩
        · rw [hcr] at hlt; simp at hlt
        have hxk := hxc i hlt
        have f1 := (hba.kept hb).cell
        have hxB := getD_lt (k := i) (limbs_lt a) (by decide)
        have hyB := getD_lt (k := i + 1) (limbs_lt a) (by decide)
        have HW1 : Hid (IntKind.i64.wrap ((i : Int) + 1) = (i : Int) + 1) := IntWalk.i64_in _ (by omega)
        have hi0 : (0 : Int) ≤ (i : Int) := by omega
        have hi1 : (i : Int) < ((limbs a).length : Int) := by omega
        have htn : (i : Int).toNat = i := by omega
        have hsn := downL_snoc_get s ((limbs a).drop q) (i - q) (by simp; omega)
        rw [List.getElem?_drop, List.getElem?_drop, show q + (i - q) = i by omega, show q + (i - q + 1) = i + 1 by omega, show i - q + 1 = i + 1 - q by omega] at hsn
        have HSN := Lib.hid hsn
        have hi9 : i + 1 ≤ 9223372036854775807 := by omega
        have hle1 : i + 1 - q ≤ (limbs a).length := by omega
        have HX := Lib.hid hxc
        clear hsn hca e1 e2 e3 hxc
        obtain ⟨x, hx⟩ : ∃ x, x = (limbs a)[i]?.getD 0 := ⟨_, rfl⟩
        obtain ⟨y, hy⟩ : ∃ y, y = (limbs a)[i + 1]?.getD 0 := ⟨_, rfl⟩
        rw [← hx] at hxk hxB
        rw [← hy] at hyB
        have HXX := Lib.hid hx
        have HYY := Lib.hid hy
        clear hx hy
        have hor := or_join (y : Int) (x : Int) (by omega) (by omega) (by omega) (by omega)
        go_wp2_with fail
        go_region_held3 (fun w' => w'.cell? ⟨w.heap.size, 0, none⟩ = some (.slice (some ⟨xb, xoff, none⟩) (limbs a).length ca) ∧ w'.cell? ⟨xb, xoff + i, none⟩ = some (.int .u32 (x : Int)) ∧ Below wr.heap.size wr w')
          (first | assumption | exact ⟨f1, hxk, (Below.refl _ _).drew⟩)
          (first
            | (go_at_call 58; (try rw [HW1.out]); refine (at_int _ a _ _ (held2_nat har (by assumption)) (by omega) (by omega)).mono ?_; rintro e w' ⟨rfl, hb'⟩; rw [show ((i : Int) + 1).toNat = i + 1 by omega, ← HYY.out]; have hS := held2 hb' (by assumption)))
        have hbits : bits BinOp.or IntKind.u64 (IntKind.u64.wrap (IntKind.u64.wrap (y : Int) * 4294967296)) (IntKind.u64.wrap (x : Int)) = ((x + 4294967296 * y : Nat) : Int) := by
          rw [IntWalk.u64_in (y : Int) (by omega), IntWalk.u64_in (x : Int) (by omega), IntWalk.u64_in _ (by omega), hor]; omega
        rw [hbits]
        have htwo : x + 4294967296 * y < 18446744073709551616 := by omega
        have hSN2 : (downL s ((limbs a).drop q)).take (i + 1 - q) = (downL s ((limbs a).drop q)).take (i - q) ++ [(x + 4294967296 * y) / 2 ^ s % 4294967296] := by
          rw [HSN.out, HXX.out, HYY.out]
        have HS2 := Lib.hid hSN2
        have hbw : Below w0.heap.size w0 w' := hb.trans (hS.2.2.mono hb.size)
        have ho2 := ho.kept hS.2.2
        clear hbits hor hSN2 HSN hS f1 hxk
        generalize x + 4294967296 * y = two at *
        have hlk := ints_length .u32 ((downL s ((limbs a).drop q)).take (i - q))
        have hll : ((downL s ((limbs a).drop q)).take (i - q)).length ≤ (limbs a).length := by rw [List.length_take, downL_length]; simp; omega
        have hshr := fun (W : World) => run_shr (P := Tryd.prog) W 34 two s (by omega)
        have hone : ints .u32 ((downL s ((limbs a).drop q)).take (i + 1 - q)) = ints .u32 ((downL s ((limbs a).drop q)).take (i - q)) ++ [.int .u32 (((two / 2 ^ s : Nat) : Int) % 4294967296)] := by
          rw [HS2.out, ints_append]; rfl
        have HO := Lib.hid hone
        clear hone
        have hsz2 := hbw.size
        go_wp2_with (at_builtin; refine append1 E32 ho2 rfl rfl rfl rfl rfl (by rw [hlk]; omega) (by rw [hlk]; unfold maxLen; omega) hsz2 ?_; intro v' w5 ho5 hb5 hg5)
        go_roundg (gk - 1)
        case measure => omega
        case rel => exact ⟨i + 1, by omega, by omega, by omega, by go_num, by rw [HO.out]; exact ho5, hbw.trans hb5⟩
      · obtain rfl : i = (limbs a).length := by omega
        have hzl : ((downL s ((limbs a).drop q)).take ((limbs a).length - q)) = downL s ((limbs a).drop q) := List.take_of_length_le (by rw [downL_length]; simp)
        rw [hzl] at ho
        have hval : val (downL s ((limbs a).drop q)) = a / 2 ^ k := by
          rw [downL_val s (by omega) _ (fun x hx => limbs_lt a x (List.mem_of_mem_drop hx)), val_drop _ _ (limbs_lt a), val_limbs, HQ.out, Nat.pow_add, ← Nat.div_div_eq_div_mul, Nat.pow_mul]
        have hdl := downL_lt s ((limbs a).drop q)
        obtain ⟨oo, oc, rfl, hc1, hc2, hc3, hc4⟩ := ho.toInts
        have hn := trim_nat (w' := wr) hc4 hc1 hdl hc2
        have hbox := hbr.kept hb
        rw [hval] at hn
        generalize hxs : downL s ((limbs a).drop q) = xs at *
        have HV := Lib.hid hval
        clear hzl hval hxs ho
        generalize hxn : xs.length = xn at *
        have HXN := Lib.hid hxn; clear hxn
        have f1 := (hba.kept hb).cell
        clear e1 e2 e3
        go_wp2_with fail
        rw [← HXN.out]
        refine (trim_any oo oc xs wr hc4 (by rw [HXN.out]; exact hc1) hc2 hdl).mono ?_
        rintro e w6 ⟨rfl, hb6⟩
        have hn6 := hn.below hb6
        have hbox6 := hbox.kept hb6
        rw [HV.out]
        have hc6 := hbox6.cell
        have hf6 := hbox6.free
        have hfin : Below w.heap.size w w6 := hbel.trans ((hb.trans (hb6.mono hb.size)).mono hbel.size)
        clear hn hbox hc1 hc2 hc3 hc4 f1
        go_wp2
        exact ret_nat rfl rfl (cell_set hc6) rfl ⟨_, rfl, hn6.set _ _ (fun n e => by rw [hc6] at e; cases e), hfin.setCell (p := ⟨w.heap.size + 1, 0, none⟩) (by simp) _⟩
end Go.Proofs.YtegneoaoodddoaaDoor
