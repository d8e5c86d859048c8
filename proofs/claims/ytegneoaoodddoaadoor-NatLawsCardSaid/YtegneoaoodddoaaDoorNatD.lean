/-
  nat: walks (4): less, Text.
-/
import Derived.Test.YtegneoaoodddoaaDoorNatC
import Derived.Test.YtegneoaoodddoaaDoorHeapB
import Derived.Test.YtegneoaoodddoaaDoorStrA
namespace Go.Proofs.YtegneoaoodddoaaDoor
open Go.RowKit
set_option linter.unusedVariables false
set_option linter.unusedSimpArgs false
attribute [local go_sem] and_low

set_option maxRecDepth 100000 in
set_option maxHeartbeats 400000 in
theorem less_any (g off cap : Nat) (xs : List Nat) (m : Nat) (w : World) (hown : Mut .u32 w g off xs)
    (hx : ∀ x ∈ xs, x < 4294967296) (hm0 : 0 < m) (hm : m < 4294967296) (hl : xs.length ≤ 1000000000) :
    Calls Tryd.prog 47 #[.slice (some ⟨g, off, none⟩) xs.length cap, .int .u32 m] w fun e w' =>
      e = .returned (.int .u32 (((divL xs m).2 : Nat) : Int)) ∧ Mut .u32 w' g off (divL xs m).1 ∧ w.grownBy w' (some g) := by
  go_enter Tryd.func47, Tryd.ntmps47
  go_wp2
  go_loopw [5, 6] (fun rr i wr => ∃ k : Nat, k ≤ xs.length ∧ i = .int .i64 ((k : Int) - 1) ∧ rr = .int .u64 ((divL (xs.drop k) m).2 : Nat) ∧ Mut .u32 wr g off (xs.take k ++ (divL (xs.drop k) m).1) ∧ w.grownBy wr (some g))
    (fun _ i _ => (intOf i + 1).toNat)
  case atStart => exact ⟨xs.length, Nat.le_refl _, rfl, by simp [divL], by simpa [divL] using hown, grownBy_refl _ _⟩
  case round =>
    obtain ⟨k, hk, rfl, rfl, ho, hb⟩ := hrel
    rcases Nat.eq_zero_or_pos k with rfl | hk0
    · simp only [List.take_zero, List.drop_zero, List.nil_append] at ho ⊢
      generalize hd : (divL xs m).2 = d at *
      have hdl : d < m := by rw [← hd]; exact divL_rest xs m hm0
      have HD := Lib.hid hd; clear hd
      go_wp2
      go_ret
      exact ⟨by rw [HD.out]; rfl, ho, hb⟩
    · obtain ⟨j, rfl⟩ : ∃ j, k = j + 1 := ⟨k - 1, by omega⟩
      have hlt : j < xs.length := by omega
      have hdl : (divL (xs.drop (j + 1)) m).1.length = xs.length - (j + 1) := by rw [divL_length]; simp
      have hln : (xs.take (j + 1) ++ (divL (xs.drop (j + 1)) m).1).length = xs.length := by simp only [List.length_append, List.length_take, hdl]; omega
      have hck := ho.cell j (by rw [hln]; exact hlt)
      have hfk := ho.free j (by rw [hln]; exact hlt)
      have HL := Lib.hid hln; clear hln
      have hgj : (xs.take (j + 1) ++ (divL (xs.drop (j + 1)) m).1)[j]?.getD 0 = xs[j]?.getD 0 := by
        rw [List.getElem?_append_left (by simp; omega), List.getElem?_take, if_pos (by omega)]
      rw [hgj] at hck
      clear hgj
      have hxk := getD_lt (k := j) hx (by decide)
      have hdrop : xs.drop j = xs[j]?.getD 0 :: xs.drop (j + 1) := by
        rw [List.drop_eq_getElem_cons hlt, List.getElem?_eq_getElem hlt]; rfl
      have hset := fun y => set_done_top (ds := (divL (xs.drop (j + 1)) m).1) (y := y) hlt
      have hdv : divL (xs.drop j) m = (((divL (xs.drop (j + 1)) m).2 * 4294967296 + xs[j]?.getD 0) / m :: (divL (xs.drop (j + 1)) m).1, ((divL (xs.drop (j + 1)) m).2 * 4294967296 + xs[j]?.getD 0) % m) := by
        rw [hdrop]; rfl
      have hr := divL_rest (xs.drop (j + 1)) m hm0
      generalize xs[j]?.getD 0 = x at *
      generalize (divL (xs.drop (j + 1)) m).1 = ds at *
      generalize (divL (xs.drop (j + 1)) m).2 = r at *
      have hsm := small_div hr hxk (Nat.le_of_lt hm)
      have hor := or_join (r : Int) (x : Int) (by omega) (by omega) (by omega) (by omega)
      have HS := Lib.hid hset; clear hset
      have HV := Lib.hid hdv; clear hdv
      clear hdrop hdl
      have hq : ((r : Int) * 4294967296 + (x : Int)) / (m : Int) % 4294967296 = (((r * 4294967296 + x) / m : Nat) : Int) := by
        have e : (((r * 4294967296 + x) / m : Nat) : Int) = ((r : Int) * 4294967296 + (x : Int)) / (m : Int) := by simp
        have h2 := hsm.2
        rw [← e]
        generalize (r * 4294967296 + x) / m = q at h2 ⊢
        omega
      have HQ := Lib.hid hq; clear hq
      go_wp2
      go_roundw
      case rel =>
        have hst := ho.set j ((r * 4294967296 + x) / m) (by rw [HL.out]; exact hlt)
        rw [HS.out] at hst
        refine ⟨j, by omega, rfl, by rw [HV.out]; simp, ?_, grownBy_set hb _ _⟩
        rw [HV.out, HQ.out]
        exact hst
      case measure => simp [intOf]
end Go.Proofs.YtegneoaoodddoaaDoor
