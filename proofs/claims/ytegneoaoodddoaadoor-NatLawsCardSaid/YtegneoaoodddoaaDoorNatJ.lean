/-
  nat: walks (11): Bits, Small.
-/
import Derived.Test.YtegneoaoodddoaaDoorNatD
import Derived.Test.YtegneoaoodddoaaDoorMathF
import Derived.Deep.DeepCutAuto
import Derived.Test.YtegneoaoodddoaaDoorBitsA
namespace Go.Proofs.YtegneoaoodddoaaDoor
open Go.RowKit
set_option linter.unusedVariables false
set_option linter.unusedSimpArgs false
attribute [local go_sem] and_low field_nat

set_option maxRecDepth 100000 in
theorem bits_any (v : Value) (n : Nat) (w : World) (h : NatIs w v n) (hl : (limbs n).length ≤ 100000000) :
    Calls Tryd.prog 37 #[v] w fun e w' => e = .returned (.int .i64 (blen n : Nat)) ∧ Below w.heap.size w w' := by
  obtain ⟨ao, cap, rfl, h1, h2, h3, h4⟩ := h.open
  obtain ⟨w0, hw0⟩ : ∃ w0, w0 = w.alloc (.cells #[.slice ao (limbs n).length cap] 25) := ⟨_, rfl⟩
  have hbel : Below w.heap.size w w0 := by rw [hw0]; exact (Below.refl _ w).alloc (Nat.le_refl _) _
  have hbr : Box w0 w.heap.size (.slice ao (limbs n).length cap) := by rw [hw0]; exact ⟨by go_simp, by go_simp, by simp <;> omega⟩
  have HW := Lib.hid hw0; clear hw0
  have r1 := hbr.cell
  have hz := zero_any _ n w0 (h.below hbel)
  have HZ := Lib.hid hz; clear hz
  by_cases hn : n = 0
  · subst hn
    have hd : decide ((0 : Nat) = 0) = true := rfl
    rw [hd] at HZ
    have hb0 := Lib.hid blen_zero
    go_enter Tryd.func37, Tryd.ntmps37
    go_upto_region 1 with fail
    rw [← HW.out]
    go_wp2_with fail
    refine HZ.out.mono ?_
    rintro e w1 ⟨rfl, hb1⟩
    clear hd
    go_wp2
    go_ret
    exact ⟨ret_one (by rw [hb0.out]; rfl), hbel.trans (hb1.mono hbel.size)⟩
  · have hd : decide (n = 0) = false := by simp [hn]
    rw [hd] at HZ
    obtain ⟨m, hm⟩ := limbs_length_eq (show 0 < n by omega)
    have hbl := Lib.hid (blen_limbs hm)
    have htop := getD_lt (k := m) (limbs_lt n) (by decide)
    rcases h4 with h4 | ⟨b, off, rfl, hb, hc⟩
    · rw [h4] at hm; simp at hm
    have hcm := hc m (by omega)
    have hle : m < (limbs n).length := by omega
    have HM := Lib.hid hm
    generalize (limbs n)[m]?.getD 0 = t at *
    have hlm : m ≤ 99999999 := by omega
    rw [hm] at HW r1 h1 hbr h ⊢
    clear hd hc hle hm h3
    go_enter Tryd.func37, Tryd.ntmps37
    go_upto_region 1 with fail
    rw [← HW.out]
    go_wp2_with fail
    rw [HM.out] at HZ
    refine HZ.out.mono ?_
    rintro e w1 ⟨rfl, hb1⟩
    have hbr1 := (hbr.kept hb1).cell
    have hc1 : w1.cell? ⟨b, off + m, none⟩ = some (.int .u32 (t : Int)) := ((bcell (hbel.trans (hb1.mono hbel.size))).1 _ _ hb).trans hcm
    clear hcm r1
    go_wp2_with fail
    refine (Tryd.bits_Len32 t w1 (by omega) (by omega)).mono ?_
    rintro e w2 ⟨rfl, rfl⟩
    have hbt : Lib.bitLen ((t : Int)).toNat = blen t := by rw [Int.toNat_natCast]; exact bitLen_blen t (by omega)
    rw [hbt]
    have hble := blen_le (n := t) (k := 32) (by simpa using htop)
    clear hbt
    generalize blen t = bt at *
    go_wp2
    go_ret
    exact ⟨ret_one (by rw [hbl.out]; go_num), hbel.trans (hb1.mono hbel.size)⟩

theorem or_zero (x : Nat) (h : x < 18446744073709551616) : bits .or .u64 0 (x : Int) = x := by
  have := (bits_nat .u64 64 (by decide) (fun n h0 h1 => by rw [IntKind.wrap_u64]; omega) 0 x (by decide) (by omega)).2
  simpa using this

theorem or_comm64 (x y : Int) : bits .or .u64 x y = bits .or .u64 y x := by simp only [bits, BitVec.or_comm]

def smallV (n : Nat) : Nat := if n < 18446744073709551616 then n else 0
def smallB (n : Nat) : Bool := decide (n < 18446744073709551616)

theorem ret_two {u u' v v' : Value} (h : u = u') (h2 : v = v') : Ending.returned (.tuple #[u, v]) = .returned (.tuple #[u', v']) := by rw [h, h2]

set_option maxRecDepth 100000 in
set_option maxHeartbeats 400000 in
theorem small_any (v : Value) (n : Nat) (w : World) (h : NatIs w v n) (hl : (limbs n).length ≤ 100000000) :
    Calls Tryd.prog 41 #[v] w fun e w' => e = .returned (.tuple #[.int .u64 (smallV n : Nat), .bool (smallB n)]) ∧ Below w.heap.size w w' := by
  obtain ⟨ao, cap, rfl, h1, h2, h3, h4⟩ := h.open
  obtain ⟨w0, hw0⟩ : ∃ w0, w0 = w.alloc (.cells #[.slice ao (limbs n).length cap] 25) := ⟨_, rfl⟩
  have hbel : Below w.heap.size w w0 := by rw [hw0]; exact (Below.refl _ w).alloc (Nat.le_refl _) _
  have hbr : Box w0 w.heap.size (.slice ao (limbs n).length cap) := by rw [hw0]; exact ⟨by go_simp, by go_simp, by simp <;> omega⟩
  have HW := Lib.hid hw0; clear hw0
  have r1 := hbr.cell
  have hc0 := h4.below hbel
  have hv := val_limbs n
  have hlt := limbs_lt n
  clear h4 h3 h
  by_cases hbig : 2 < (limbs n).length
  · have hn : ¬ n < 18446744073709551616 := by rw [lt_64_iff]; omega
    have he1 : smallV n = 0 := by unfold smallV; rw [if_neg hn]
    have he2 : smallB n = false := by unfold smallB; rw [decide_eq_false hn]
    have H1 := Lib.hid he1
    have H2 := Lib.hid he2
    clear he1 he2 hn hv hlt hc0
    go_enter Tryd.func41, Tryd.ntmps41
    go_upto_region 1 with fail
    rw [← HW.out]
    go_wp2
    go_ret2
    exact ⟨ret_two (by rw [H1.out]; rfl) (by rw [H2.out]; rfl), hbel⟩
  · have hn : n < 18446744073709551616 := by rw [lt_64_iff]; omega
    have he1 : smallV n = n := by unfold smallV; rw [if_pos hn]
    have he2 : smallB n = true := by unfold smallB; rw [decide_eq_true hn]
    have H1 := Lib.hid he1
    have H2 := Lib.hid he2
    clear he1 he2 hn
    generalize hlm : limbs n = xs at *
    have HV := Lib.hid hv
    clear hlm hv
    rcases xs with _ | ⟨x, _ | ⟨y, _ | ⟨z, r⟩⟩⟩
    · simp only [List.length_nil] at HW r1 h1 hbr ⊢
      clear hc0 hbig hlt hl
      go_enter Tryd.func41, Tryd.ntmps41
      go_upto_region 1 with fail
      rw [← HW.out]
      go_wp2
      refine wp_loop_rounds 1 ?_
      rw [rounds_succ]
      go_wp2
      go_ret2
      exact ⟨ret_two (by rw [H1.out, ← HV.out]; rfl) (by rw [H2.out]; rfl), hbel⟩
    · rcases hc0 with hc0 | ⟨b, off, rfl, hb, hc⟩
      · cases hc0
      have c0 := hc 0 (by simp)
      simp only [Nat.add_zero, List.getElem?_cons_zero, Option.getD_some] at c0
      have hx := hlt x (by simp)
      have hor := or_zero x (by omega)
      simp only [List.length_cons, List.length_nil, Nat.zero_add, Nat.reduceAdd] at HW r1 h1 hbr ⊢
      clear hc hlt hbig hl
      go_enter Tryd.func41, Tryd.ntmps41
      go_upto_region 1 with fail
      rw [← HW.out]
      go_wp2
      refine wp_loop_rounds 2 ?_
      rw [rounds_succ]
      go_wp2
      rw [rounds_succ]
      go_wp2
      go_ret2
      exact ⟨ret_two (by rw [H1.out, ← HV.out]; simp [val]) (by rw [H2.out]; rfl), hbel⟩
    · rcases hc0 with hc0 | ⟨b, off, rfl, hb, hc⟩
      · cases hc0
      have c0 := hc 0 (by simp)
      have c1 := hc 1 (by simp)
      simp only [Nat.add_zero, List.getElem?_cons_zero, Option.getD_some, List.getElem?_cons_succ] at c0 c1
      have hx := hlt x (by simp)
      have hy := hlt y (by simp)
      have hor := or_zero x (by omega)
      have hor2 : bits .or .u64 (x : Int) (y * 4294967296) = (x : Int) + y * 4294967296 := by rw [or_comm64, or_join y x (by omega) (by omega) (by omega) (by omega)]; omega
      simp only [List.length_cons, List.length_nil, Nat.zero_add, Nat.reduceAdd] at HW r1 h1 hbr ⊢
      clear hc hlt hbig hl
      go_enter Tryd.func41, Tryd.ntmps41
      go_upto_region 1 with fail
      rw [← HW.out]
      go_wp2
      refine wp_loop_rounds 3 ?_
      rw [rounds_succ]
      go_wp2
      rw [rounds_succ]
      go_wp2
      rw [rounds_succ]
      go_wp2
      go_ret2
      exact ⟨ret_two (by rw [H1.out, ← HV.out]; simp [val]; omega) (by rw [H2.out]; rfl), hbel⟩
    · simp at hbig
end Go.Proofs.YtegneoaoodddoaaDoor
