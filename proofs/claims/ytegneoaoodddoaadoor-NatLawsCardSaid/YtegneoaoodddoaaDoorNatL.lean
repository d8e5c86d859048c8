/-
  nat: walks (13): Shift.
-/
import Derived.Test.YtegneoaoodddoaaDoorNatK
namespace Go.Proofs.YtegneoaoodddoaaDoor
open Go.RowKit
set_option linter.unusedVariables false
set_option linter.unusedSimpArgs false
attribute [local go_sem] and_low field_nat

theorem or_add {s c x : Nat} (hs : s < 32) (hc : c < 2 ^ s) (hx : x < 4294967296) : bits .or .u64 (c : Int) ((x * 2 ^ s : Nat) : Int) = ((c + x * 2 ^ s : Nat) : Int) := by
  have hb := (up_bound hs hc hx).1
  have h1 : (c : Nat) < 18446744073709551616 := by omega
  have h2 : x * 2 ^ s < 18446744073709551616 := by omega
  have := (bits_nat .u64 64 (by decide) (fun n h0 h1 => by rw [IntKind.wrap_u64]; omega) c (x * 2 ^ s) h1 h2).2
  rw [this, Nat.or_comm, Nat.mul_comm, ← Nat.two_pow_add_eq_or_of_lt hc, Nat.add_comm]

set_option maxRecDepth 100000 in
set_option maxHeartbeats 1000000 in
theorem shift_any (va : Value) (a k : Nat) (w : World) (ha : NatIs w va a) (hla : (limbs a).length ≤ 1000000) (hk : k ≤ 20000) :
    Calls Tryd.prog 30 #[va, .int .i64 (k : Int)] w fun e w' => ∃ r, e = .returned r ∧ NatIs w' r (a * 2 ^ k) ∧ Below w.heap.size w w' := by
  obtain ⟨ao, ca, rfl, ha1, ha2, ha3, ha4⟩ := ha.open
  obtain ⟨w0, hw0⟩ : ∃ w0, w0 = (w.alloc (.cells #[.slice ao (limbs a).length ca] 25)).alloc (.cells #[.slice none 0 0] 25) := ⟨_, rfl⟩
  have hbel : Below w.heap.size w w0 := by
    rw [hw0]; exact ((Below.refl _ w).alloc (Nat.le_refl _) _).alloc (by simp <;> omega) _
  have hsz0 : w.heap.size + 2 ≤ w0.heap.size := by rw [hw0]; simp
  have hba : Box w0 w.heap.size (.slice ao (limbs a).length ca) := by
    rw [hw0]; exact ⟨by go_simp, by go_simp, by simp <;> omega⟩
  have hbr : Box w0 (w.heap.size + 1) (.slice none 0 0) := by
    rw [hw0]; exact ⟨by go_simp, by go_simp, by simp <;> omega⟩
  have hca := ha4.below hbel
  have HW := Lib.hid hw0; clear hw0
  have e1 := hba.cell
  obtain ⟨q, hq⟩ : ∃ q, q = k / 32 := ⟨_, rfl⟩
  obtain ⟨s, hs⟩ : ∃ s, s = k % 32 := ⟨_, rfl⟩
  have hs32 : s < 32 := by omega
  have hqk : k = 32 * q + s := by omega
  have iq : (k : Int) / 32 = (q : Int) := by omega
  have is : (k : Int) % 32 = (s : Int) := by omega
  have hq9 : q ≤ 625 := by omega
  have hmin : min (k : Int) 20000 = (k : Int) := by omega
  have HQ := Lib.hid hqk
  have hxB := limbs_lt a
  have hst := UpInv.start s (limbs a)
  have hcast : ((q : Int) + ((limbs a).length : Int) + 1) = ((q + (limbs a).length + 1 : Nat) : Int) := by omega
  have HC := Lib.hid hcast
  clear hq hs hqk ha ha4 hcast
  go_enter Tryd.func30, Tryd.ntmps30
  go_upto_region 1 with fail
  rw [← HW.out]
  go_wp2_with (at_make; refine makeLC E32 (l := q) (c := q + (limbs a).length + 1) rfl rfl rfl rfl (by omega) (by omega) (by omega) (by omega) (by unfold maxLen; omega) ?_; intro w1 ho hb1; have e3 := (hba.kept hb1).cell)
  have ho0 : Owns w0.heap.size 73 w1 (.slice (some ⟨w0.heap.size, 0, none⟩) q (q + (limbs a).length + 1)) (ints .u32 (List.replicate q 0 ++ [])) := by rw [List.append_nil]; exact ho
  go_loopg [5, 6, 29] (limbs a).length (fun gg ov cv iv wr => ∃ (i c : Nat) (zs : List Nat), i + gg = (limbs a).length ∧ iv = .int .i64 i ∧ cv = .int .u64 c ∧ UpInv s (limbs a) i c zs ∧ Owns w0.heap.size 73 wr ov (ints .u32 (List.replicate q 0 ++ zs)) ∧ Below w0.heap.size w0 wr)
  case atStart => exact ⟨0, 0, [], by omega, rfl, rfl, hst, ho0, hb1⟩
  case round =>
    obtain ⟨i, c, zs, hi, rfl, rfl, hinv, hoo, hb⟩ := hrel
    have hzl := hinv.len
    have hcc := hinv.car
    have hlk : (ints .u32 (List.replicate q 0 ++ zs)).length = q + i := by rw [ints_length, List.length_append, List.length_replicate, hzl]
    have hszb := hb.size
    have hp31 : 2 ^ s ≤ 2147483648 := by
      have : 2 ^ s ≤ 2 ^ 31 := Nat.pow_le_pow_right (by decide) (by omega)
      simpa using this
    by_cases hlt : i < (limbs a).length
    · have hcr := hca.below hb
      rcases hcr with hcr | ⟨xb, xoff, rfl, hxb, hxc⟩
      · rw [hcr] at hlt; simp at hlt
      have hxk := hxc i hlt
      have hxl := getD_lt (k := i) hxB (by decide)
      have hnx := hinv.next hs32 hxB
      generalize (limbs a)[i]?.getD 0 = x at *
      have hub := up_bound hs32 hcc hxl
      have hor := or_add hs32 hcc hxl
      have hwr : IntKind.u64.wrap ((x : Int) * 2 ^ s) = ((x * 2 ^ s : Nat) : Int) := by
        have e : (x : Int) * 2 ^ s = ((x * 2 ^ s : Nat) : Int) := by simp
        rw [e]; exact IntWalk.u64_in _ (by omega)
      have hone : ints .u32 (List.replicate q 0 ++ (zs ++ [(c + x * 2 ^ s) % 4294967296])) = ints .u32 (List.replicate q 0 ++ zs) ++ [.int .u32 (((c + x * 2 ^ s : Nat) : Int) % 4294967296)] := by
        rw [← List.append_assoc, ints_append]; rfl
      have HN := Lib.hid hnx
      have HO := Lib.hid hone
      have HZ := Lib.hid hzl
      clear hnx hone hzl hinv hxc e1 e3 hst ho ho0 hp31
      generalize x * 2 ^ s = xs at *
      generalize c + xs = cx at *
      go_wp2_with (at_builtin; refine append1 E32 hoo rfl rfl rfl rfl rfl (by rw [hlk]; omega) (by rw [hlk]; unfold maxLen; omega) hszb ?_; intro v' w5 ho5 hb5 hg5)
      go_roundg (gk - 1)
      case measure => omega
      case rel => exact ⟨i + 1, _, _, by omega, by go_num, by go_num, HN.out, by rw [HO.out]; exact ho5, hb.trans hb5⟩
    · obtain rfl : i = (limbs a).length := by omega
      have hval := hinv.done q
      rw [val_limbs, ← HQ.out] at hval
      have hlt2 : ∀ z ∈ List.replicate q 0 ++ (zs ++ [c]), z < 4294967296 := by
        intro z hz
        rcases List.mem_append.1 hz with h | h
        · rw [List.eq_of_mem_replicate h]; decide
        · rcases List.mem_append.1 h with h | h
          · exact hinv.lt z h
          · simp at h; omega
      have hc32 : c < 4294967296 := by omega
      have hone : ints .u32 (List.replicate q 0 ++ zs) ++ [.int .u32 (c : Int)] = ints .u32 (List.replicate q 0 ++ (zs ++ [c])) := by
        rw [← List.append_assoc, ints_append _ _ [c]]; rfl
      have HO := Lib.hid hone
      have HV := Lib.hid hval
      have HZ := Lib.hid hzl
      have hbox := hbr.kept hb
      clear hone hval hzl hinv e1 e3 hst ho ho0 hp31 hca
      go_wp2_with (at_builtin; refine append1 E32 hoo rfl rfl rfl rfl rfl (by rw [hlk]; omega) (by rw [hlk]; unfold maxLen; omega) hszb ?_; intro v' w5 ho5 hb5 hg5)
      rw [HO.out] at ho5
      generalize List.replicate q 0 ++ (zs ++ [c]) = xs at *
      have hbox5 := hbox.below hb5 (by omega)
      have hb05 := hb.trans hb5
      obtain ⟨oo, oc, rfl, hc1, hc2, hc3, hc4⟩ := ho5.toInts
      have hn := trim_nat (w' := w5) hc4 hc1 hlt2 hc2
      rw [HV.out] at hn
      refine (trim_any oo oc xs w5 hc4 hc1 hc2 hlt2).mono ?_
      rintro e w6 ⟨rfl, hb6⟩
      have hn6 := hn.below hb6
      have hbox6 := hbox5.kept hb6
      rw [HV.out]
      have hc6 := hbox6.cell
      have hf6 := hbox6.free
      have hfin : Below w.heap.size w w6 := hbel.trans ((hb05.trans (hb6.mono hb05.size)).mono hbel.size)
      clear hn hbox hc1 hc2 hc3 hc4
      go_wp2
      exact ret_nat rfl rfl (cell_set hc6) rfl ⟨_, rfl, hn6.set _ _ (fun n e => by rw [hc6] at e; cases e), hfin.setCell (p := ⟨w.heap.size + 1, 0, none⟩) (by simp) _⟩

/-- A shift down by a negative count. -/
theorem shift_neg (va : Value) (a k : Nat) (w : World) (ha : NatIs w va a) (hla : (limbs a).length ≤ 1000000) (hk : k ≤ 1000000000) (hk0 : 0 < k) :
    Calls Tryd.prog 30 #[va, .int .i64 (-(k : Int))] w fun e w' => ∃ r, e = .returned r ∧ NatIs w' r (a / 2 ^ k) ∧ Below w.heap.size w w' := by
  obtain ⟨ao, ca, rfl, ha1, ha2, ha3, ha4⟩ := ha.open
  obtain ⟨w0, hw0⟩ : ∃ w0, w0 = (w.alloc (.cells #[.slice ao (limbs a).length ca] 25)).alloc (.cells #[.slice none 0 0] 25) := ⟨_, rfl⟩
  have hbel : Below w.heap.size w w0 := by
    rw [hw0]; exact ((Below.refl _ w).alloc (Nat.le_refl _) _).alloc (by simp <;> omega) _
  have hba : Box w0 w.heap.size (.slice ao (limbs a).length ca) := by
    rw [hw0]; exact ⟨by go_simp, by go_simp, by simp <;> omega⟩
  have hbr : Box w0 (w.heap.size + 1) (.slice none 0 0) := by
    rw [hw0]; exact ⟨by go_simp, by go_simp, by simp <;> omega⟩
  have ha0 := ha.below hbel
  have HW := Lib.hid hw0; clear hw0
  have e1 := hba.cell
  have hneg : -(k : Int) < 0 := by omega
  go_enter Tryd.func30, Tryd.ntmps30
  go_upto_region 1 with fail
  rw [← HW.out]
  go_wp2_with fail
  refine (down_any _ a k w0 ha0 hla hk).mono ?_
  rintro e w1 ⟨r, rfl, hn, hb1⟩
  obtain ⟨sv, rfl, hi⟩ := hn
  have hbox := hbr.kept hb1
  have hc6 := hbox.cell
  have hf6 := hbox.free
  have hn : NatIs w1 (.agg #[sv]) (a / 2 ^ k) := ⟨sv, rfl, hi⟩
  have hfin := hbel.trans (hb1.mono hbel.size)
  obtain ⟨oo, oc, rfl, _, _, _, _⟩ := hi
  clear e1
  go_wp2
  exact ret_nat rfl rfl (cell_set hc6) rfl ⟨_, rfl, hn.set _ _ (fun n e => by rw [hc6] at e; cases e), hfin.setCell (p := ⟨w.heap.size + 1, 0, none⟩) (by simp) _⟩
end Go.Proofs.YtegneoaoodddoaaDoor
