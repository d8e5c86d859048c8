/-
  Pk06: RefN (what is needed of them).
-/
import Derived.Test.YtcpfanpcdkoiaaaGreatPk00
import Derived.Test.YtcpfanpcdkoiaaaGreatPk01
import Derived.Test.YtcpfanpcdkoiaaaGreatPk03
import Derived.Laws.AppendOwnNone
set_option maxRecDepth 100000
set_option linter.unusedVariables false
set_option linter.unusedSimpArgs false

namespace Go.Proofs.YtcpfanpcdkoiaaaGreat
open Go.RowKit


def RIs (w : World) (v : Value) (n : Nat) : Prop := Ints .i64 w v (rlimbs n)
theorem RIs.below {w w' : World} {v : Value} {n : Nat} (h : RIs w v n) (hb : Below w.heap.size w w') : RIs w' v n := Ints.below h hb
theorem RIs.open {w : World} {v : Value} {n : Nat} (h : RIs w v n) : ∃ ao cap, v = .slice ao (rlimbs n).length cap ∧ (rlimbs n).length ≤ cap ∧ cap ≤ 9223372036854775807 ∧ (ao = none → cap = 0) ∧ Cells .i64 w ao (rlimbs n) := h
theorem RIs.nil (w : World) : RIs w (.slice none 0 0) 0 := ⟨none, 0, by rw [rlimbs_zero]; rfl, by rw [rlimbs_zero]; simp, Nat.zero_le _, fun _ => rfl, .inl rlimbs_zero⟩
theorem Cells.none_nil {k : IntKind} {w : World} {xs : List Nat} (h : Cells k w none xs) : xs = [] := by
 rcases h with h | ⟨_, _, h, _⟩
 ·exact h
 ·cases h
theorem rtrim_any (ao : Option Addr) (cap : Nat) (xs : List Nat) (w : World) (hc : Cells .i64 w ao xs) (hcap : xs.length ≤ cap) (hm : cap ≤ maxLen) (hx : ∀ x ∈ xs, x < 10000) :
  Calls Tryz.prog 187 #[.slice ao xs.length cap] w fun e w' => e = .returned (.slice ao (rlimbs (rval xs)).length cap) ∧ w = w' := by
 unfold maxLen at hm
 go_enter Tryz.func187, Tryz.ntmps187
 go_wp2
 go_loop [0] (fun v => ∃ k : Nat, k ≤ xs.length ∧ v = .slice ao k cap ∧ (∀ i, k ≤ i → i < xs.length → xs[i]? = some 0)) (fun v => match v with | .slice _ n _ => n | _ => 0)
 case atStart => exact ⟨xs.length, Nat.le_refl _, rfl, fun i h1 h2 => by omega⟩
 case round =>
  obtain ⟨k, hk, rfl, hz⟩ := hrel
  have HZ := Lib.hid hz; clear hz
  rcases Nat.eq_zero_or_pos k with rfl | hk0
  ·go_wp2
   have e := rlimbs_take xs 0 (by omega) hx HZ.out (.inl rfl)
   go_ret
   exact ⟨by rw [e]; simp, rfl⟩
  ·obtain ⟨j, rfl⟩ : ∃ j, k = j + 1 := ⟨k - 1, by omega⟩
   rcases hc with rfl | ⟨b, off, rfl, hb, hcell⟩
   ·simp at hk
   have hj := hcell j (by omega)
   clear hcell
   by_cases h0 : xs[j]?.getD 0 = 0
   ·rw [h0] at hj
    go_wp2
    go_round
    case rel =>
     refine ⟨j, by omega, by go_num, fun i h1 h2 => ?_⟩
     by_cases e : i = j
     ·subst e; rw [List.getElem?_eq_getElem h2] at h0 ⊢; simpa using h0
     ·exact HZ.out i (by omega) h2
    case measure => simp
   ·have e := rlimbs_take xs (j + 1) hk hx HZ.out (.inr (by intro h; rw [Nat.add_sub_cancel] at h; rw [h] at h0; exact h0 rfl))
    have e2 : (rlimbs (rval xs)).length = j + 1 := by rw [e, List.length_take]; omega
    have E2 := Lib.hid e2
    have hx0 := getD_lt (k := j) hx (by decide)
    have h0i : (((xs[j]?.getD 0 : Nat) : Int) == 0) = false := by rw [beq_eq_false_iff_ne]; omega
    generalize xs[j]?.getD 0 = xj at *
    clear e e2
    go_wp2
    go_ret
    exact ⟨by rw [E2.out]; rfl, rfl⟩
theorem rtrim_is {w' : World} {ao : Option Addr} {cap : Nat} {xs : List Nat} (hc : Cells .i64 w' ao xs) (hcap : xs.length ≤ cap) (hx : ∀ x ∈ xs, x < 10000) (hm : cap ≤ maxLen) (hn : ao = none → cap = 0) :
  RIs w' (.slice ao (rlimbs (rval xs)).length cap) (rval xs) := by
 refine ⟨ao, cap, rfl, Nat.le_trans (rval_rlimbs_length_le xs hx) hcap, hm, hn, ?_⟩
 obtain ⟨k, hk, e⟩ := rlimbs_prefix xs hx
 rw [e]
 exact hc.take k
theorem rtrim_same (v : Value) (n : Nat) (w : World) (h : RIs w v n) :
  Calls Tryz.prog 187 #[v] w fun e w' => e = .returned v ∧ w = w' := by
 obtain ⟨ao, cap, rfl, h1, h2, h3, h4⟩ := h.open
 have := rtrim_any ao cap (rlimbs n) w h4 h1 h2 (rlimbs_lt n)
 rwa [rval_rlimbs] at this
theorem rcmp_lt {a b k : Nat} (hl : (rlimbs a).length = (rlimbs b).length) (h : EqFrom (rlimbs a) (rlimbs b) (k + 1)) (hk : (rlimbs a)[k]?.getD 0 < (rlimbs b)[k]?.getD 0) : a < b := by
 have := rval_lt_of_top (rlimbs_lt a) (rlimbs_lt b) hl (fun j hj => h j hj) hk
 rwa [rval_rlimbs, rval_rlimbs] at this
theorem rcmp_eq {a b : Nat} (hl : (rlimbs a).length = (rlimbs b).length) (h : EqFrom (rlimbs a) (rlimbs b) 0) : a = b := by
 have : rlimbs a = rlimbs b := ext_getD hl (fun i _ => h i (Nat.zero_le _))
 rw [← rval_rlimbs a, this, rval_rlimbs]
set_option maxHeartbeats 1000000 in
theorem rcmp_any (va vb : Value) (a b : Nat) (w : World) (ha : RIs w va a) (hb : RIs w vb b) :
  Calls Tryz.prog 199 #[va, vb] w fun e w' => e = .returned (.int .i64 (cmpI a b)) ∧ Below w.heap.size w w' := by
 obtain ⟨ao, ca, rfl, ha1, ha2, ha3, ha4⟩ := ha.open
 obtain ⟨bo, cb, rfl, hb1, hb2, hb3, hb4⟩ := hb.open
 have hta := rtrim_same _ a w ha
 have htb := rtrim_same _ b w hb
 have HTA := Lib.hid hta
 have HTB := Lib.hid htb
 clear hta htb
 have hne : (rlimbs a).length < (rlimbs b).length → cmpI a b = -1 := fun h => by unfold cmpI; rw [if_pos (rlimbs_lt_len h)]
 have hng : (rlimbs b).length < (rlimbs a).length → cmpI a b = 1 := fun h => by have := rlimbs_lt_len h; unfold cmpI; rw [if_neg (by omega), if_pos this]
 have hlt := fun k hl h hk => rcmp_lt (a := a) (b := b) (k := k) hl h hk
 have hgt := fun k hl h hk => rcmp_lt (a := b) (b := a) (k := k) hl h hk
 have heq := rcmp_eq (a := a) (b := b)
 have HNE := Lib.hid hne
 have HNG := Lib.hid hng
 have HLT := Lib.hid hlt
 have HGT := Lib.hid hgt
 have HEQ := Lib.hid heq
 clear hne hng hlt hgt heq ha hb
 have hxa := rlimbs_lt a
 have hxb := rlimbs_lt b
 generalize rlimbs a = xs at *
 generalize rlimbs b = ys at *
 go_enter Tryz.func199, Tryz.ntmps199
 go_wp2_with fail
 refine HTA.out.mono ?_
 rintro e w1 ⟨rfl, rfl⟩
 go_wp2_with fail
 refine HTB.out.mono ?_
 rintro e w1 ⟨rfl, rfl⟩
 by_cases h1 : xs.length < ys.length
 ·have h1n : (((xs.length : Nat) : Int) != ((ys.length : Nat) : Int)) = true := by rw [bne_iff_ne]; omega
  go_wp2
  go_ret
  exact ⟨ret_one (congrArg (Value.int .i64) (HNE.out h1).symm), Below.refl _ _⟩
 ·by_cases h2 : ys.length < xs.length
  ·have h1n : (((xs.length : Nat) : Int) != ((ys.length : Nat) : Int)) = true := by rw [bne_iff_ne]; omega
   go_wp2
   go_ret
   exact ⟨ret_one (congrArg (Value.int .i64) (HNG.out h2).symm), Below.refl _ _⟩
  ·have hll : xs.length = ys.length := by omega
   have HLL := Lib.hid hll
   have h1n : (((xs.length : Nat) : Int) != ((ys.length : Nat) : Int)) = false := by rw [bne_eq_false_iff_eq]; omega
   have hst := EqFrom.start xs ys xs.length (Nat.le_refl _) (by omega)
   have HST := Lib.hid hst
   clear hll hst h1 h2
   go_wp2_with fail
   go_loopg [5] xs.length (fun gg iv wr => gg ≤ xs.length ∧ iv = .int .i64 ((gg : Int) - 1) ∧ EqFrom xs ys gg ∧ Below w.heap.size w wr)
   case atStart => exact ⟨Nat.le_refl _, rfl, HST.out, Below.refl _ _⟩
   case round =>
    obtain ⟨hgg, rfl, heq, hbr⟩ := hrel
    have HE := Lib.hid heq; clear heq
    rcases Nat.eq_zero_or_pos gk with rfl | hpos
    ·go_wp2
     go_ret
     have hab := HEQ.out HLL.out HE.out
     exact ⟨ret_one (congrArg (Value.int .i64) (by rw [hab]; unfold cmpI; rw [if_neg (by omega), if_neg (by omega)])), hbr⟩
    ·obtain ⟨k, rfl⟩ : ∃ k, gk = k + 1 := ⟨gk - 1, by omega⟩
     have ek : ((k + 1 : Nat) : Int) - 1 = (k : Int) := by omega
     rw [ek]
     have hcar := ha4.below hbr
     have hcbr := hb4.below hbr
     rcases hcar with rfl | ⟨ag, aoff, rfl, hag, hac⟩
     ·simp at hgg
     rcases hcbr with rfl | ⟨bg, boff, rfl, hbg, hbc⟩
     ·have := HLL.out; simp at this; simp [this] at hgg
     have c1 := hac k (by omega)
     have c2 := hbc k (by have := HLL.out; omega)
     have k1 : (k : Int) < (xs.length : Int) := by omega
     have k2 : (k : Int) < (ys.length : Int) := by have := HLL.out; omega
     have k3 : (0 : Int) ≤ (k : Int) := by omega
     have k4 : k < xs.length := by omega
     have k5 : k < ys.length := by omega
     have hlt := HLT.out k HLL.out HE.out
     have hgt := HGT.out k HLL.out.symm (fun j hj => (HE.out j hj).symm)
     have heq0 : xs[k]?.getD 0 = ys[k]?.getD 0 → EqFrom xs ys k := fun h j hj => by
      rcases Nat.lt_or_ge k j with h1 | h1
      ·exact HE.out j h1
      ·obtain rfl : j = k := by omega
       exact h
     have hxk := getD_lt (k := k) hxa (by decide)
     have hyk := getD_lt (k := k) hxb (by decide)
     have HL := Lib.hid hlt
     have HG := Lib.hid hgt
     have HQ := Lib.hid heq0
     generalize xs[k]?.getD 0 = x at *
     generalize ys[k]?.getD 0 = y at *
     clear hlt hgt heq0 HE ek hac hbc HLT HGT HEQ HNE HNG
     by_cases hlt : x < y
     ·have hn : (((x : Nat) : Int) != ((y : Nat) : Int)) = true := by rw [bne_iff_ne]; omega
      go_wp2_with fail
      go_quiet (fail)
      go_wp2_with fail
      go_quiet (fail)
      go_wp2
      go_ret
      exact ⟨ret_one (congrArg (Value.int .i64) (by unfold cmpI; rw [if_pos (HL.out hlt)])), ⟨hbr.os, hbr.tape, hbr.output, hbr.size, hbr.block⟩⟩
     ·by_cases hgt : y < x
      ·have hn : (((x : Nat) : Int) != ((y : Nat) : Int)) = true := by rw [bne_iff_ne]; omega
       go_wp2_with fail
       go_quiet (fail)
       go_wp2_with fail
       go_quiet (fail)
       go_wp2
       go_ret
       exact ⟨ret_one (congrArg (Value.int .i64) (by have := HG.out hgt; unfold cmpI; rw [if_neg (by omega), if_pos this])), ⟨hbr.os, hbr.tape, hbr.output, hbr.size, hbr.block⟩⟩
      ·have hn : (((x : Nat) : Int) != ((y : Nat) : Int)) = false := by rw [bne_eq_false_iff_eq]; omega
       go_wp2_with fail
       go_quiet (fail)
       go_wp2_with fail
       go_roundg k
       case measure => omega
       case rel => exact ⟨by omega, rfl, HQ.out (by omega), ⟨hbr.os, hbr.tape, hbr.output, hbr.size, hbr.block⟩⟩
end Go.Proofs.YtcpfanpcdkoiaaaGreat
namespace Go.Proofs.YtcpfanpcdkoiaaaGreat
open Go.RowKit


theorem Tryz.info3 : (Tryz.prog.info? 3).map (fun i => (i.zero, i.size, i.bytes)) = some (some (.int .i64 0), 1, 8) := by kernel_rfl
theorem ER : Elem Tryz.prog 191 3 (.int .i64 0) 8 := elem_of Tryz.underlying191 Tryz.info3 rfl
theorem owns_cast {base : Nat} {e : TypeId} {w : World} {v : Value} {xs ys : List Value} (h : Owns base e w v xs) (he : xs = ys) : Owns base e w v ys := he ▸ h
theorem RAdd.over {xs ys zs : List Nat} {k c : Nat} (h : RAdd xs ys k c zs) (hx : ∀ x ∈ xs, x < 10000) (hy : ∀ y ∈ ys, y < 10000) (h1 : xs.length < k) (h2 : ys.length < k) : c = 0 := by
 have he := h.eq
 rw [List.take_of_length_le (l := xs) (by omega), List.take_of_length_le (l := ys) (by omega)] at he
 have a1 := rval_lt xs hx
 have a2 := rval_lt ys hy
 obtain ⟨j, rfl⟩ : ∃ j, k = j + 1 := ⟨k - 1, by omega⟩
 have a3 : (10000 : Nat) ^ xs.length ≤ 10000 ^ j := Nat.pow_le_pow_right (by decide) (by omega)
 have a4 : (10000 : Nat) ^ ys.length ≤ 10000 ^ j := Nat.pow_le_pow_right (by decide) (by omega)
 rw [Nat.pow_succ, Nat.mul_assoc] at he
 rcases Nat.eq_zero_or_pos c with h0 | h0
 ·exact h0
 ·exfalso
  have a5 : 10000 ^ j * 2 ≤ 10000 ^ j * (10000 * c) := Nat.mul_le_mul_left _ (by omega)
  generalize 10000 ^ j * (10000 * c) = R at *
  omega
set_option maxHeartbeats 1000000 in
theorem rsub_any (va vb : Value) (a b : Nat) (w : World) (ha : RIs w va a) (hb : RIs w vb b) (hla : (rlimbs a).length ≤ 100000000) (hle : b ≤ a) :
  Calls Tryz.prog 200 #[va, vb] w fun e w' => ∃ r, e = .returned r ∧ RIs w' r (a - b) ∧ Below w.heap.size w w' := by
 have hlb := rlimbs_length_mono hle
 obtain ⟨ao, ca, rfl, ha1, ha2, ha3, ha4⟩ := ha.open
 obtain ⟨bo, cb, rfl, hb1, hb2, hb3, hb4⟩ := hb.open
 have hxa := rlimbs_lt a
 have hxb := rlimbs_lt b
 have hva := rval_rlimbs a
 have hvb := rval_rlimbs b
 clear ha hb
 generalize rlimbs a = xs at *
 generalize rlimbs b = ys at *
 have HVA := Lib.hid hva
 have HVB := Lib.hid hvb
 have HX := Lib.hid hxa
 have HY := Lib.hid hxb
 clear hva hvb hxa hxb
 have HLE := Lib.hid hle
 clear hle
 go_enter Tryz.func200, Tryz.ntmps200
 go_wp2_with fail
 go_loopg [5, 6, 7] xs.length (fun gg ov cv iv wr => ∃ (k c : Nat) (zs : List Nat), k + gg = xs.length ∧ c ≤ 1 ∧ iv = .int .i64 (k : Int) ∧ cv = .int .i64 (c : Int) ∧ Owns w.heap.size 3 wr ov (ints .i64 zs) ∧ RSub xs ys k c zs ∧ Below w.heap.size w wr)
 case atStart => exact ⟨0, 0, [], by omega, by omega, rfl, rfl, Owns.nil _ _ _, RSub.start _ _, Below.refl _ _⟩
 case round =>
  obtain ⟨k, c, zs, hk, hc1, rfl, rfl, ho, hadd, hbr⟩ := hrel
  have hk9 : k ≤ 100000001 := by omega
  have hzlen := hadd.len
  by_cases h1 : k < xs.length
  ·have hzl : zs.length ≤ 100000001 := by omega
   have HZ := Lib.hid hzlen
   have hnx := fun v b hv hb hd => hadd.next (v := v) (b := b) HX.out HY.out hv hb hd
   have hxk := getD_lt (k := k) HX.out (by decide)
   have hyk := getD_lt (k := k) HY.out (by decide)
   have hca := ha4.below hbr
   have hcb := hb4.below hbr
   clear hzlen hadd
   by_cases h2 : k < ys.length
   ·by_cases hng : xs[k]?.getD 0 < c + ys[k]?.getD 0
    ·rcases hca with h | ⟨ag, aoff, rfl, hag, hac⟩
     ·rw [h] at h1; simp at h1
     have c1 := hac k h1
     rcases hcb with h | ⟨bg, boff, rfl, hbg, hbc⟩
     ·rw [h] at h2; simp at h2
     have c2 := hbc k h2
     generalize xs[k]?.getD 0 = x at *
     generalize ys[k]?.getD 0 = y at *
     have hd : (x : Int) - (c : Int) - (y : Int) < 0 := by omega
     have hnx2 := hnx (x + 10000 - c - y) 1 (by omega) (by omega) (by omega)
     have HNX := Lib.hid hnx2
     clear hnx hnx2 hac hbc HX HY hng
     go_wp2_with (at_builtin; refine append1 ER ho rfl rfl rfl rfl rfl (by rw [ints_length]; omega) (by rw [ints_length]; unfold maxLen; omega) hbr.size ?_; intro v5 w5 ho5 hb5 hg5)
     go_roundg (xs.length - (k + 1))
     case measure => omega
     case rel =>
      refine ⟨k + 1, 1, zs ++ [x + 10000 - c - y], by omega, by omega, by go_num, by go_num, ?_, HNX.out, hbr.trans hb5⟩
      rw [ints_append]
      refine owns_cast ho5 ?_
      simp [ints]
      omega
    ·rcases hca with h | ⟨ag, aoff, rfl, hag, hac⟩
     ·rw [h] at h1; simp at h1
     have c1 := hac k h1
     rcases hcb with h | ⟨bg, boff, rfl, hbg, hbc⟩
     ·rw [h] at h2; simp at h2
     have c2 := hbc k h2
     generalize xs[k]?.getD 0 = x at *
     generalize ys[k]?.getD 0 = y at *
     have hd : ¬ (x : Int) - (c : Int) - (y : Int) < 0 := by omega
     have hnx2 := hnx (x - c - y) 0 (by omega) (by omega) (by omega)
     have HNX := Lib.hid hnx2
     clear hnx hnx2 hac hbc HX HY hng
     go_wp2_with (at_builtin; refine append1 ER ho rfl rfl rfl rfl rfl (by rw [ints_length]; omega) (by rw [ints_length]; unfold maxLen; omega) hbr.size ?_; intro v5 w5 ho5 hb5 hg5)
     go_roundg (xs.length - (k + 1))
     case measure => omega
     case rel =>
      refine ⟨k + 1, 0, zs ++ [x - c - y], by omega, by omega, by go_num, by go_num, ?_, HNX.out, hbr.trans hb5⟩
      rw [ints_append]
      refine owns_cast ho5 ?_
      simp [ints]
      omega
   ·by_cases hng : xs[k]?.getD 0 < c + ys[k]?.getD 0
    ·rcases hca with h | ⟨ag, aoff, rfl, hag, hac⟩
     ·rw [h] at h1; simp at h1
     have c1 := hac k h1
     have hy0 : ys[k]?.getD 0 = 0 := by rw [List.getElem?_eq_none (by omega)]; rfl
     rw [hy0] at hnx hng
     simp only [Nat.add_zero] at hnx hng
     generalize xs[k]?.getD 0 = x at *
     have hd : (x : Int) - (c : Int) < 0 := by omega
     have hnx2 := hnx (x + 10000 - c) 1 (by omega) (by omega) (by omega)
     have HNX := Lib.hid hnx2
     clear hnx hnx2 hac hy0 HX HY hng
     go_wp2_with (at_builtin; refine append1 ER ho rfl rfl rfl rfl rfl (by rw [ints_length]; omega) (by rw [ints_length]; unfold maxLen; omega) hbr.size ?_; intro v5 w5 ho5 hb5 hg5)
     go_roundg (xs.length - (k + 1))
     case measure => omega
     case rel =>
      refine ⟨k + 1, 1, zs ++ [x + 10000 - c], by omega, by omega, by go_num, by go_num, ?_, HNX.out, hbr.trans hb5⟩
      rw [ints_append]
      refine owns_cast ho5 ?_
      simp [ints]
      omega
    ·rcases hca with h | ⟨ag, aoff, rfl, hag, hac⟩
     ·rw [h] at h1; simp at h1
     have c1 := hac k h1
     have hy0 : ys[k]?.getD 0 = 0 := by rw [List.getElem?_eq_none (by omega)]; rfl
     rw [hy0] at hnx hng
     simp only [Nat.add_zero] at hnx hng
     generalize xs[k]?.getD 0 = x at *
     have hd : ¬ (x : Int) - (c : Int) < 0 := by omega
     have hnx2 := hnx (x - c) 0 (by omega) (by omega) (by omega)
     have HNX := Lib.hid hnx2
     clear hnx hnx2 hac hy0 HX HY hng
     go_wp2_with (at_builtin; refine append1 ER ho rfl rfl rfl rfl rfl (by rw [ints_length]; omega) (by rw [ints_length]; unfold maxLen; omega) hbr.size ?_; intro v5 w5 ho5 hb5 hg5)
     go_roundg (xs.length - (k + 1))
     case measure => omega
     case rel =>
      refine ⟨k + 1, 0, zs ++ [x - c], by omega, by omega, by go_num, by go_num, ?_, HNX.out, hbr.trans hb5⟩
      rw [ints_append]
      refine owns_cast ho5 ?_
      simp [ints]
      omega
  ·have hkx : xs.length = k := by omega
   have hgt : rval zs = a - b := by
    rw [hadd.done hkx (by omega) (by rw [HVA.out, HVB.out]; exact HLE.out), HVA.out, HVB.out]
   have hzl := hadd.lt
   obtain ⟨oo, oc, rfl, g1, g2, g3, g4⟩ := ho.toInts
   have hres := rtrim_is g4 g1 hzl g2 g3
   have htr := rtrim_any oo oc zs wr g4 g1 g2 hzl
   rw [hgt] at hres htr
   have HT := Lib.hid htr
   have HR := Lib.hid hres
   have HZL := Lib.hid hadd.len
   clear htr hres hgt hadd hzl hzlen g1 g2 g3 g4 ho
   go_wp2_with fail
   with_reducible refine HT.out.mono ?_
   rintro e w6 ⟨rfl, rfl⟩
   go_wp2
   go_ret
   exact ⟨_, rfl, HR.out, hbr⟩
end Go.Proofs.YtcpfanpcdkoiaaaGreat
namespace Go.Proofs.YtcpfanpcdkoiaaaGreat
open Go.RowKit


theorem Mut.drewN {k : IntKind} {w : World} {g off : Nat} {xs : List Nat} (h : Mut k w g off xs) (n : Nat) : Mut k (w.drewN n) g off xs := ⟨h.lt, h.cell, h.free⟩
theorem below_drewN {B : Nat} {w w' : World} (h : Below B w w') (n : Nat) : Below B w (w'.drewN n) := ⟨h.os, h.tape, h.output, h.size, h.block⟩
set_option maxHeartbeats 1000000 in
theorem rmul_any (va vb : Value) (a b : Nat) (w : World) (ha : RIs w va a) (hb : RIs w vb b) (hla : (rlimbs a).length ≤ 10000000) (hlb : (rlimbs b).length ≤ 10000000) :
  Calls Tryz.prog 176 #[va, vb] w fun e w' => ∃ r, e = .returned r ∧ RIs w' r (a * b) ∧ Below w.heap.size w w' := by
 obtain ⟨ao, ca, rfl, ha1, ha2, ha3, ha4⟩ := ha.open
 obtain ⟨bo, cb, rfl, hb1, hb2, hb3, hb4⟩ := hb.open
 have hxa := rlimbs_lt a
 have hxb := rlimbs_lt b
 have hva := rval_rlimbs a
 have hvb := rval_rlimbs b
 clear ha hb
 generalize rlimbs a = xs at *
 generalize rlimbs b = ys at *
 have HVA := Lib.hid hva
 have HVB := Lib.hid hvb
 have HX := Lib.hid hxa
 have HY := Lib.hid hxb
 have HST := Lib.hid (RMul.start xs ys)
 clear hva hvb hxa hxb
 have kw : IntKind.i64.wrap ((xs.length : Int) + (ys.length : Int)) = (xs.length : Int) + (ys.length : Int) := IntWalk.i64_in _ (by omega)
 go_enter Tryz.func176, Tryz.ntmps176
 go_wp2_with (at_make; refine makeN ER (n := xs.length + ys.length + 1) rfl rfl (by go_num) (by go_num) (by omega) (by unfold maxLen; omega) ?_; intro w1 ho hb1)
 have hm := ho.mut
 clear ho kw
 obtain ⟨g, hg⟩ : ∃ g, g = w.heap.size := ⟨_, rfl⟩
 have hgle : w.heap.size ≤ g := by omega
 rw [← hg] at hm ⊢
 have hgw := hm.lt
 clear hg
 go_loopg [6] xs.length (fun gg iv wr => ∃ (i : Nat) (zs : List Nat), i + gg = xs.length ∧ iv = .int .i64 (i : Int) ∧ RMul xs ys i 0 0 zs ∧ Mut .i64 wr g 0 zs ∧ Below w.heap.size w wr)
 case atStart => exact ⟨0, _, by omega, rfl, HST.out, hm, hb1⟩
 case round =>
  obtain ⟨i, zs0, hi, rfl, hmul0, hmz0, hbr0⟩ := hrel
  clear hm hb1 hgw
  by_cases hil : i < xs.length
  ·obtain ⟨go, hgo⟩ : ∃ go, go = gk := ⟨_, rfl⟩
   subst hgo
   have hcar := ha4.below hbr0
   rcases hcar with h | ⟨xg, xoff, rfl, hxg, hxc⟩
   ·rw [h] at hil; simp at hil
   have cx0 := hxc i hil
   have hxi := getD_lt (k := i) HX.out (by decide)
   have HXC := Lib.hid hxc
   clear hxc
   go_wp2_with fail
   go_loopg [7, 8] (ys.length + 1) (fun gg cv jv wx => ∃ (j c : Nat) (zs : List Nat), j + gg = ys.length + 1 ∧ jv = .int .i64 (j : Int) ∧ cv = .int .i64 (c : Int) ∧ RMul xs ys i j c zs ∧ Mut .i64 wx g 0 zs ∧ Below wr.heap.size wr wr ∧ Below w.heap.size w wx ∧ (∀ p : Addr, p.block < w.heap.size → True))
   case atStart => exact ⟨0, 0, zs0, by omega, rfl, rfl, hmul0, hmz0, Below.refl _ _, hbr0, fun _ _ => trivial⟩
   case round =>
    obtain ⟨j, c, zs, hj, rfl, rfl, hmul, hmz, -, hbr, -⟩ := hrel
    have hlen := hmul.len
    have hcar9 := hmul.car
    have hj9 : j ≤ 10000001 := by omega
    by_cases hgo2 : j < ys.length ∨ 0 < c
    ·have hjl := hmul.inside HX.out HY.out hil hgo2
     have hin : i + j < zs.length := by omega
     have cz := hmz.cell (i + j) hin
     have fz := hmz.free (i + j) hin
     rw [Nat.zero_add] at cz fz
     have hzB := getD_lt (k := i + j) hmul.lt (by decide)
     have hnx := hmul.next HX.out HY.out hin
     have hms := fun n => (hmz.drewN n).set (i + j) ((zs[i + j]?.getD 0 + c + xs[i]?.getD 0 * ys[j]?.getD 0) % 10000) hin
     rw [Nat.zero_add] at hms
     have k1 : ((i : Int) + (j : Int)).toNat = i + j := by omega
     have k2 : (0 : Int) ≤ (i : Int) + (j : Int) := by omega
     have k3 : (i : Int) + (j : Int) < (xs.length : Int) + (ys.length : Int) + 1 := by omega
     have HLEN := Lib.hid hlen
     have hcb := hb4.below hbr
     by_cases h2 : j < ys.length
     ·rcases hcb with h | ⟨bg, boff, rfl, hbg, hbc⟩
      ·rw [h] at h2; simp at h2
      have cy := hbc j h2
      have cx : wr.cell? ⟨xg, xoff + i, none⟩ = some (.int .i64 ((xs[i]?.getD 0 : Nat) : Int)) := by
       have hcar := ha4.below hbr
       rcases hcar with h | ⟨xg2, xoff2, e2, hxg2, hxc2⟩
       ·rw [h] at hil; simp at hil
       ·cases e2; exact hxc2 i hil
      have hyj := getD_lt (k := j) HY.out (by decide)
      have hp : xs[i]?.getD 0 * ys[j]?.getD 0 ≤ 9999 * 9999 := Nat.mul_le_mul (by omega) (by omega)
      obtain ⟨z, hz⟩ : ∃ z, z = zs[i + j]?.getD 0 := ⟨_, rfl⟩
      obtain ⟨x, hx⟩ : ∃ z, z = xs[i]?.getD 0 := ⟨_, rfl⟩
      obtain ⟨y, hy⟩ : ∃ z, z = ys[j]?.getD 0 := ⟨_, rfl⟩
      rw [← hz] at cz hzB hnx hms
      rw [← hx] at cx cx0 hnx hms hp
      rw [← hy] at cy hnx hms hp hyj
      obtain ⟨p, hpe⟩ : ∃ p, p = x * y := ⟨_, rfl⟩
      rw [← hpe] at hnx hms hp
      have hxy : (x : Int) * (y : Int) = (p : Int) := by rw [hpe]; simp
      have HNX := Lib.hid hnx
      have HMS := Lib.hid hms
      clear hnx hms hz hx hy hpe hmul hlen hbc hgo2 hmz hmul0 hmz0 cx0 hxi
      have q1 : (i : Int) < (xs.length : Int) := by omega
      have q2 : (j : Int) < (ys.length : Int) := by omega
      have q3 : (0 : Int) ≤ (i : Int) := by omega
      have q4 : (0 : Int) ≤ (j : Int) := by omega
      go_wp2_with fail
      go_quiet (fail)
      go_wp2_with fail
      go_roundg (ys.length + 1 - (j + 1))
      case measure => omega
      case rel =>
       refine ⟨j + 1, _, _, by omega, by go_num, by go_num, HNX.out, HMS.out _, Below.refl _ _, ?_, fun _ _ => trivial⟩
       exact (below_drewN hbr _).setCell (p := ⟨g, i + j, none⟩) hgle _
     ·have hy0 : ys[j]?.getD 0 = 0 := by rw [List.getElem?_eq_none (by omega)]; rfl
      have hms0 := hmz.set (i + j) ((zs[i + j]?.getD 0 + c) % 10000) hin
      rw [Nat.zero_add] at hms0
      rw [hy0, Nat.mul_zero, Nat.add_zero] at hnx
      obtain ⟨z, hz⟩ : ∃ z, z = zs[i + j]?.getD 0 := ⟨_, rfl⟩
      rw [← hz] at cz hzB hnx hms0
      have HNX := Lib.hid hnx
      have HMS := Lib.hid hms0
      have hc0 : (c : Int) > 0 := by omega
      clear hnx hms hms0 hz hmul hlen hgo2 hmz hmul0 hmz0 cx0 hxi hy0
      go_wp2_with fail
      go_roundg (ys.length + 1 - (j + 1))
      case measure => omega
      case rel =>
       refine ⟨j + 1, _, _, by omega, by go_num, by go_num, HNX.out, HMS.out, Below.refl _ _, ?_, fun _ _ => trivial⟩
       exact hbr.setCell (p := ⟨g, i + j, none⟩) hgle _
    ·obtain rfl : c = 0 := by omega
     have h2 : ¬ j < ys.length := by omega
     have hrow := hmul.row (by omega)
     clear hgo2 hmul0 hmz0 hmul hlen
     go_wp2_with fail
     go_roundg (go - 1)
     case measure => omega
     case rel => exact ⟨i + 1, zs, by omega, by go_num, hrow, hmz, hbr⟩
  ·have hval : rval zs0 = a * b := by rw [hmul0.done (by omega), HVA.out, HVB.out]
   have hzl := hmul0.lt
   have hlen := hmul0.len
   have hres := rtrim_is (cap := xs.length + ys.length + 1) hmz0.cells (by omega) hzl (by unfold maxLen; omega) (fun h => by cases h)
   have htr := rtrim_any (some ⟨g, 0, none⟩) (xs.length + ys.length + 1) zs0 wr hmz0.cells (by omega) (by unfold maxLen; omega) hzl
   rw [hval] at hres htr
   rw [hlen] at htr
   have htr2 : Calls Tryz.prog 187 #[.slice (some ⟨g, 0, none⟩) (xs.length + ys.length + 1) (xs.length + ys.length + 1)] wr _ := htr
   have HT := Lib.hid htr2
   have HR := Lib.hid hres
   clear htr htr2 hres hlen hval hmul0 hmz0 hzl
   go_wp2_with fail
   with_reducible refine HT.out.mono ?_
   rintro e w6 ⟨rfl, rfl⟩
   go_wp2
   go_ret
   exact ⟨_, rfl, HR.out, hbr0⟩
end Go.Proofs.YtcpfanpcdkoiaaaGreat
namespace Go.Proofs.YtcpfanpcdkoiaaaGreat
open Go.RowKit


theorem one_owns (w : World) (x : Value) (hx : x.oneCell' = true) : Owns w.heap.size 3 (w.alloc (.cells #[x] 3)) (.slice (some ⟨w.heap.size, 0, none⟩) 1 1) [x] :=
 ⟨rfl, .inr ⟨w.heap.size, 1, #[x], rfl, Nat.le_refl _, heap_alloc_new w _, by simp, by unfold maxLen; omega, by simp, by simp⟩⟩
theorem one_cells (w : World) (x : Nat) : Cells .i64 (w.alloc (.cells #[.int .i64 (x : Int)] 3)) (some ⟨w.heap.size, 0, none⟩) [x] := by
 refine .inr ⟨w.heap.size, 0, rfl, by simp, fun i hi => ?_⟩
 match i, hi with
 | 0, _ => go_simp
theorem one_is (w : World) {x : Nat} (h0 : 0 < x) (h : x < 10000) : RIs (w.alloc (.cells #[.int .i64 (x : Int)] 3)) (.slice (some ⟨w.heap.size, 0, none⟩) 1 1) x := by
 unfold RIs
 rw [rlimbs_small h0 h]
 exact ⟨_, 1, rfl, by simp, by decide, (fun h => by cases h), one_cells w x⟩
theorem cmp_le0 {a b : Nat} (h : a ≤ b) : cmpI a b ≤ 0 := by
 unfold cmpI
 by_cases h1 : a < b
 ·rw [if_pos h1]; omega
 ·rw [if_neg h1, if_neg (by omega)]; omega
theorem Cells.setOff {k : IntKind} {w : World} {ao : Option Addr} {xs : List Nat} (h : Cells k w ao xs) {p : Addr} (u : Value) (hp : ∀ ad, ao = some ad → ad.block ≠ p.block) : Cells k (w.setCell p u) ao xs := by
 rcases h with h | ⟨b, off, h1, h2, h3⟩
 ·exact .inl h
 ·refine .inr ⟨b, off, h1, by simpa [World.setCell] using h2, fun i hi => ?_⟩
  rw [World.cell?_setCell_other]
  ·exact h3 i hi
  ·intro e'
   exact hp _ h1 (congrArg Addr.block e').symm
theorem RIs.setOff {w : World} {ao : Option Addr} {l c n : Nat} (h : RIs w (.slice ao l c) n) {p : Addr} (u : Value) (hp : ∀ ad, ao = some ad → ad.block ≠ p.block) : RIs (w.setCell p u) (.slice ao l c) n := by
 obtain ⟨ao', cap, e, h1, h2, h3, h4⟩ := h
 cases e
 exact ⟨ao, c, rfl, h1, h2, h3, h4.setOff u hp⟩
theorem div_between {R b lo : Nat} (h1 : b * lo ≤ R) (h2 : R < b * (lo + 1)) : R / b = lo := by
 have hb : 0 < b := by
  rcases Nat.eq_zero_or_pos b with h | h
  ·subst h; simp at h2
  ·exact h
 rw [Nat.mul_comm] at h1
 exact Nat.div_eq_of_lt_le h1 (by rw [Nat.mul_comm]; exact h2)
theorem append_front {w : World} {ops : Array Oper} {rest : List Oper} {o : Oper} {a : Act} {Q : Exit → Act → World → Prop} {s x : Operand} {xn rn : Nat} {rv : Value} (hr : RIs w rv rn) (hl : (rlimbs rn).length ≤ 100000000)
  (hgd : o.guard = none) (ho : o.op = .call { callee := .builtin .append, args := #[s, x], argTypes := #[191, 191] }) (hs : a.eval s = .slice (some ⟨w.heap.size, 0, none⟩) 1 1) (hx : a.eval x = rv)
  (h : ∀ ao cap w', Cells .i64 w' ao (xn :: rlimbs rn) → (xn :: rlimbs rn).length ≤ cap → cap ≤ maxLen → (ao = none → cap = 0) → (∀ ad, ao = some ad → w.heap.size ≤ ad.block) → Below w.heap.size w w' → wpList Tryz.prog ops Q rest (a.put o.dst (.slice ao (xn :: rlimbs rn).length cap)) w') :
  wpList Tryz.prog ops Q (o :: rest) a (w.alloc (.cells #[.int .i64 (xn : Int)] 3)) := by
 have hown := one_owns w (.int .i64 (xn : Int)) rfl
 have hbel : Below w.heap.size w (w.alloc (.cells #[.int .i64 (xn : Int)] 3)) := (Below.refl _ _).alloc (Nat.le_refl _) _
 obtain ⟨ro, rc, rfl, h1, h2, h3, h4⟩ := hr.open
 cases ro with
 | none =>
  obtain rfl := h3 rfl
  have hn := h4.none_nil
  rw [hn] at hx h
  obtain ⟨i, hi, hz, hsz, hby⟩ := ER.info
  refine wpList_append_own_none hgd s x _ ho w.heap.size 3 i 1 ER.und hi _ 1 _ hs hown hx ?_
  exact h _ 1 _ (one_cells w xn) (by simp) (by unfold maxLen; omega) (fun h => by cases h) (fun ad e => by cases e; exact Nat.le_refl _) hbel
 | some ad =>
  have hlen := ints_length .i64 (rlimbs rn)
  refine appendN ER hown hgd ho hs (ys := ints .i64 (rlimbs rn)) (ad := ad) (c := rc) (by rw [hlen]; exact hx) (h4.below hbel).at (ints_one _ _) (by simp [hlen]; omega) (by simp [hlen, maxLen]; omega) (by simp) ?_
  intro v' w' hown' hbel' hg
  have ho2 : Owns w.heap.size 3 w' v' (ints .i64 (xn :: rlimbs rn)) := hown'
  have hsh := ho2.shape
  obtain ⟨ao, cap, rfl, g1, g2, g3, g4⟩ := ho2.toInts
  refine h ao cap w' g4 g1 g2 g3 (fun ad e => ?_) (hbel.trans hbel')
  subst e
  rcases hsh with ⟨e, _⟩ | ⟨g, c2, e, k1, _⟩
  ·cases e
  ·simp only [Value.slice.injEq, Option.some.injEq] at e
   rw [e.1]; exact k1
set_option maxHeartbeats 2000000 in
theorem rdivmod_any (va vb : Value) (a b : Nat) (w : World) (ha : RIs w va a) (hb : RIs w vb b) (hla : (rlimbs a).length ≤ 1000000) (hlb : (rlimbs b).length ≤ 1000000) (hb0 : 0 < b) :
  Calls Tryz.prog 189 #[va, vb] w fun e w' => ∃ q r, e = .returned (.tuple #[q, r]) ∧ RIs w' q (a / b) ∧ RIs w' r (a % b) ∧ Below w.heap.size w w' := by
 obtain ⟨ao, ca, rfl, ha1, ha2, ha3, ha4⟩ := ha.open
 have hxa := rlimbs_lt a
 have hva := rval_rlimbs a
 have hst := RDiv.start (rlimbs a) hb0
 clear ha
 generalize rlimbs a = xs at *
 have HVA := Lib.hid hva
 have HX := Lib.hid hxa
 have HST := Lib.hid hst
 clear hva hxa hst
 go_enter Tryz.func189, Tryz.ntmps189
 go_wp2_with (at_make; refine makeN ER (n := xs.length) rfl rfl (by go_num) (by go_num) (by omega) (by unfold maxLen; omega) ?_; intro w1 ho hb1)
 have hm := ho.mut
 clear ho
 obtain ⟨g, hg⟩ : ∃ g, g = w.heap.size := ⟨_, rfl⟩
 have hgle : w.heap.size ≤ g := by omega
 rw [← hg] at hm ⊢
 clear hg
 go_loopg [7, 8] xs.length (fun gg rv iv wr => ∃ (rn : Nat) (qs : List Nat), gg ≤ xs.length ∧ iv = .int .i64 ((gg : Int) - 1) ∧ RDiv xs b gg qs rn ∧ RIs wr rv rn ∧ Mut .i64 wr g 0 qs ∧ Below w.heap.size w wr)
 case atStart => exact ⟨0, _, Nat.le_refl _, rfl, HST.out, RIs.nil _, hm, hb1⟩
 case round =>
  obtain ⟨rn, qs, hgk, rfl, hdiv, hrr, hmq, hbr⟩ := hrel
  clear hm hb1
  have hqlen := hdiv.len
  rcases Nat.eq_zero_or_pos gk with rfl | hpos
  ·obtain ⟨d1, d2⟩ := hdiv.done hb0
   have hql := hdiv.lt
   have hres := rtrim_is (cap := xs.length) hmq.cells (by omega) hql (by unfold maxLen; omega) (fun h => by cases h)
   have htr := rtrim_any (some ⟨g, 0, none⟩) xs.length qs wr hmq.cells (by omega) (by unfold maxLen; omega) hql
   rw [d1, HVA.out] at hres htr
   rw [hqlen] at htr
   rw [d2, HVA.out] at hrr
   have HT := Lib.hid htr
   have HR := Lib.hid hres
   clear htr hres hqlen d1 d2 hdiv hql hmq
   go_wp2_with fail
   with_reducible refine HT.out.mono ?_
   rintro e w6 ⟨rfl, rfl⟩
   go_wp2
   go_ret2
   exact ⟨_, _, rfl, HR.out, hrr, hbr⟩
  ·obtain ⟨j, rfl⟩ : ∃ j, gk = j + 1 := ⟨gk - 1, by omega⟩
   have ej : ((j + 1 : Nat) : Int) - 1 = (j : Int) := by omega
   rw [ej]
   have hjx : j < xs.length := by omega
   have hjq : j < qs.length := by omega
   have hcar := ha4.below hbr
   rcases hcar with h | ⟨xg, xoff, rfl, hxg, hxc⟩
   ·rw [h] at hjx; simp at hjx
   have cx := hxc j hjx
   have hxB := getD_lt (k := j) HX.out (by decide)
   have hnx := hdiv.next HX.out hjx
   have hrlt := hdiv.rest
   have hrl : (rlimbs rn).length ≤ 1000000 := Nat.le_trans (rlimbs_length_mono (Nat.le_of_lt hrlt)) hlb
   obtain ⟨x, hx⟩ : ∃ x, x = xs[j]?.getD 0 := ⟨_, rfl⟩
   rw [← hx] at cx hxB hnx
   have HNX := Lib.hid hnx
   have HQL := Lib.hid hqlen
   clear hx hnx hdiv hxc ej hqlen
   have q1 : (0 : Int) ≤ (j : Int) := by omega
   have q2 : (j : Int) < (xs.length : Int) := by omega
   go_wp2_with (at_builtin; refine append_front hrr (by omega) rfl rfl rfl rfl ?_; intro fo fc w2 f1 f2 f3 f4 hfo hb2)
   have hfl : ∀ y ∈ x :: rlimbs rn, y < 10000 := by
    intro y hy
    rcases List.mem_cons.1 hy with rfl | h
    ·exact hxB
    ·exact rlimbs_lt rn y h
   have htr := rtrim_any fo fc (x :: rlimbs rn) w2 f1 f2 f3 hfl
   have hR2 := rtrim_is f1 f2 hfl f3 f4
   have hval : rval (x :: rlimbs rn) = x + 10000 * rn := by rw [rval, rval_rlimbs]
   rw [hval] at htr hR2
   rw [List.length_cons] at htr
   obtain ⟨R, hRe⟩ : ∃ R, R = x + 10000 * rn := ⟨_, rfl⟩
   rw [← hRe] at htr hR2
   have hRb : R < b * (9999 + 1) := by
    have : 10000 * (rn + 1) ≤ 10000 * b := Nat.mul_le_mul_left _ hrlt
    omega
   have hRl : (rlimbs R).length ≤ 1000001 := by
    refine Nat.le_trans (rlimbs_length_le (k := (rlimbs b).length + 1) ?_) (by omega)
    have := lt_pow_rlimbs b
    rw [Nat.pow_succ]
    omega
   have HT := Lib.hid htr
   have HRE := Lib.hid hRe
   have hlen2 : (x :: rlimbs rn).length = (rlimbs rn).length + 1 := rfl
   clear htr hval hRe hlen2 f1 f2 f3 f4 hrr hfl cx
   go_wp2_with fail
   with_reducible refine HT.out.mono ?_
   rintro e w3 ⟨rfl, rfl⟩
   have hbw2 : Below w.heap.size w w2 := hbr.trans (hb2.mono hbr.size)
   have hmq2 := hmq.below hb2 hmq.lt
   have hmqlt := hmq.lt
   have hgw2 := hmq2.lt
   have hbb2 := hb.below hbw2
   clear HT hmq hb2
   have HRL : Hid (∀ z, z = R → (rlimbs z).length ≤ 1000001) := Lib.hid (fun z e => e ▸ hRl)
   generalize (rlimbs R).length = Rl at *
   have hfo2 : ∀ ad, fo = some ad → ad.block ≠ g := fun ad e h => by have := hfo ad e; have := hmqlt; omega
   have HFO := Lib.hid hfo2
   clear hfo hfo2
   go_wp2_with fail
   go_loopg [9, 10] 9999 (fun gg lv hv wx => ∃ (lo hi : Nat), lo + gg = hi ∧ hi ≤ 9999 ∧ lv = .int .i64 (lo : Int) ∧ hv = .int .i64 (hi : Int) ∧ b * lo ≤ R ∧ R < b * (hi + 1) ∧ Below w2.heap.size w2 wx)
   case atStart => exact ⟨0, 9999, rfl, Nat.le_refl _, rfl, rfl, by simp, hRb, Below.refl _ _⟩
   case round =>
    obtain ⟨lo, hi, hlh, hhi, rfl, rfl, hl1, hl2, hbx⟩ := hrel
    by_cases hlt : lo < hi
    ·obtain ⟨m, hm⟩ : ∃ m, m = (lo + hi + 1) / 2 := ⟨_, rfl⟩
     have hm0 : 0 < m := by omega
     have hm1 : lo < m := by omega
     have hm2 : m ≤ hi := by omega
     have hm3 : m < 10000 := by omega
     have hmi : ((lo : Int) + (hi : Int) + 1) / 2 = (m : Int) := by omega
     have hone := one_is wr hm0 hm3
     have hal : Below wr.heap.size wr (wr.alloc (.cells #[.int .i64 (m : Int)] 3)) := (Below.refl _ _).alloc (Nat.le_refl _) _
     have hmul := rmul_any vb _ b m (wr.alloc (.cells #[.int .i64 (m : Int)] 3)) ((hbb2.below hbx).below hal) hone (by omega) (by rw [rlimbs_small hm0 hm3]; simp)
     have HMUL := Lib.hid hmul
     clear hm hmul hone
     go_wp2_with fail
     refine HMUL.out.mono ?_
     rintro e w4 ⟨pv, rfl, hp, hb4⟩
     have hb4x : Below wr.heap.size wr w4 := hal.trans (hb4.mono hal.size)
     clear hb4 hal
     go_wp2_with fail
     refine (rcmp_any _ _ (b * m) R w4 hp ((hR2.below hbx).below hb4x)).mono ?_
     rintro e w5 ⟨rfl, hb5⟩
     have hbx5 := hbx.trans ((hb4x.trans (hb5.mono hb4x.size)).mono hbx.size)
     by_cases hc : b * m ≤ R
     ·have hcc : cmpI (b * m) R ≤ 0 := cmp_le0 hc
      generalize cmpI (b * m) R = cc at *
      go_wp2_with fail
      go_roundg (hi - m)
      case measure => omega
      case rel => exact ⟨m, hi, by omega, hhi, rfl, rfl, hc, hl2, hbx5⟩
     ·have hcc : ¬ cmpI (b * m) R ≤ 0 := by unfold cmpI; rw [if_neg (by omega), if_pos (by omega)]; omega
      generalize cmpI (b * m) R = cc at *
      have hm4 : R < b * (m - 1 + 1) := by rw [show m - 1 + 1 = m by omega]; omega
      go_wp2_with fail
      go_roundg (m - 1 - lo)
      case measure => omega
      case rel => exact ⟨lo, m - 1, by omega, by omega, rfl, by go_num, hl1, hm4, hbx5⟩
    ·obtain rfl : lo = hi := by omega
     have hq := div_between hl1 hl2
     have hmx := hmq2.below hbx hgw2
     have cq := hmx.cell j hjq
     have fq := hmx.free j hjq
     rw [Nat.zero_add] at cq fq
     have hset := hmx.set j lo hjq
     rw [Nat.zero_add] at hset
     obtain ⟨w4, hw4⟩ : ∃ w4, w4 = wr.setCell ⟨g, j, none⟩ (.int .i64 (lo : Int)) := ⟨_, rfl⟩
     rw [← hw4] at hset
     have hR4 : RIs w4 (.slice fo Rl fc) R := by rw [hw4]; exact (hR2.below hbx).setOff _ HFO.out
     have hbw4 : Below w.heap.size w w4 := by rw [hw4]; exact (hbw2.trans (hbx.mono hbw2.size)).setCell (p := ⟨g, j, none⟩) hgle _
     have hb4' : RIs w4 vb b := hb.below hbw4
     have HW4 := Lib.hid hw4
     clear hw4
     have kq : (j : Int) < ((xs.length : Nat) : Int) := by omega
     go_upto_region 14 with fail
     rw [← HW4.out]
     clear cq fq
     have hlo : ∀ y ∈ [lo], y < 10000 := by intro y hy; simp at hy; omega
     have hal : Below w4.heap.size w4 (w4.alloc (.cells #[.int .i64 (lo : Int)] 3)) := (Below.refl _ _).alloc (Nat.le_refl _) _
     have htl := rtrim_any (some ⟨w4.heap.size, 0, none⟩) 1 [lo] _ (one_cells w4 lo) (by simp) (by unfold maxLen; omega) hlo
     have hil := rtrim_is (cap := 1) (one_cells w4 lo) (by simp) hlo (by unfold maxLen; omega) (fun h => by cases h)
     have hrl1 : rval [lo] = lo := by simp [rval]
     rw [hrl1] at htl hil
     rw [List.length_singleton] at htl
     have hll1 : (rlimbs lo).length ≤ 1 := rlimbs_length_le (by omega)
     have HTL := Lib.hid htl
     have HIL := Lib.hid hil
     obtain ⟨hx1, hx2⟩ := HNX.out
     rw [← HRE.out, hq] at hx2
     have hmod : R - b * lo = R % b := by rw [← hq]; have := Nat.div_add_mod R b; omega
     rw [← HRE.out] at hx1
     have HX2 := Lib.hid hx2
     have HMOD := Lib.hid hmod
     have hRl' := hRl
     clear htl hil hlo hrl1 hx1 hx2 hmod hq hl2 hmx hmq2 hbx hlt
     generalize (rlimbs lo).length = ll at *
     have HLE := Lib.hid hl1
     clear hl1
     go_wp2_with fail
     with_reducible refine HTL.out.mono ?_
     rintro e w5 ⟨rfl, rfl⟩
     go_wp2_with fail
     refine (rmul_any vb _ b lo _ (hb4'.below hal) HIL.out (by omega) (Nat.le_trans (rlimbs_length_le (k := 1) (by omega)) (by omega))).mono ?_
     rintro e w6 ⟨pv, rfl, hp, hb6⟩
     have hb46 := hal.trans (hb6.mono hal.size)
     go_wp2_with fail
     refine (rsub_any _ _ R (b * lo) w6 (hR4.below hb46) hp (by have := HRL.out R rfl; omega) HLE.out).mono ?_
     rintro e w7 ⟨sv, rfl, hs, hb7⟩
     rw [HMOD.out] at hs
     have hb47 := hb46.trans (hb7.mono hb46.size)
     have hset7 := hset.below hb47 hset.lt
     clear hb7 hb6 hal
     go_wp2_with fail
     go_roundg j
     case measure => omega
     case rel => exact ⟨R % b, _, by omega, by go_num, HX2.out, hs, hset7, hbw4.trans (hb47.mono hbw4.size)⟩
end Go.Proofs.YtcpfanpcdkoiaaaGreat
namespace Go.Proofs.YtcpfanpcdkoiaaaGreat
open Go.RowKit


theorem RTxt.digit {n v D m : Nat} {ds : List Nat} (h : RTxt n ds (v + 10 ^ (m + 1) * D)) : RTxt n (ds ++ [v % 10]) (v / 10 + 10 ^ m * D) := by
 have h1 := h.next
 have e1 : (v + 10 ^ (m + 1) * D) % 10 = v % 10 := by rw [Nat.pow_succ, Nat.mul_comm (10 ^ m) 10, Nat.mul_assoc, Nat.add_mul_mod_self_left]
 have e2 : (v + 10 ^ (m + 1) * D) / 10 = v / 10 + 10 ^ m * D := by rw [Nat.pow_succ, Nat.mul_comm (10 ^ m) 10, Nat.mul_assoc, Nat.add_mul_div_left _ _ (by decide)]
 rwa [e1, e2] at h1
def TX (T : List UInt8) (ds : List Nat) (k : Nat) : Prop := T = str (ds.reverse.map (48 + ·)) ∧ ds.length = k
theorem TX.len {T : List UInt8} {ds : List Nat} {k : Nat} (h : TX T ds k) : T.length = k := by rw [h.1, ← h.2]; simp [str]
theorem TX.snoc {T : List UInt8} {ds : List Nat} {k : Nat} (h : TX T ds k) (d : Nat) : TX (str [48 + d] ++ T) (ds ++ [d]) (k + 1) := by
 refine ⟨?_, by simp [h.2]⟩
 rw [h.1]; simp [str]
theorem top_pos {n i : Nat} (h : i + 1 = (rlimbs n).length) : 0 < (rlimbs n)[i]?.getD 0 := by
 have hne : rlimbs n ≠ [] := by intro h0; rw [h0] at h; simp at h
 have h2 := rlimbs_getLast n hne
 rw [List.getLast_eq_getElem] at h2
 rw [List.getElem?_eq_getElem (by omega)]
 simp only [Option.getD_some]
 have h3 : (rlimbs n).length - 1 = i := by omega
 simp only [h3] at h2
 omega
structure RT (n : Nat) (i k v : Nat) (ds : List Nat) : Prop where
 txt : RTxt n ds (v + 10 ^ (4 - k) * rval ((rlimbs n).drop (i + 1)))
 small : v < 10 ^ (4 - k)
 last : i + 1 = (rlimbs n).length → 0 < v ∨ ∀ hd : ds ≠ [], ds.getLast hd ≠ 0
theorem RT.start {n i : Nat} {ds : List Nat} (h : RTxt n ds (rval ((rlimbs n).drop i))) (hi : i < (rlimbs n).length) : RT n i 0 ((rlimbs n)[i]?.getD 0) ds := by
 refine ⟨?_, getD_lt (rlimbs_lt n) (by decide), fun h1 => .inl (top_pos h1)⟩
 rw [rval_drop hi] at h
 exact h
theorem RT.next {n i k v : Nat} {ds : List Nat} (h : RT n i k v ds) (hk : k < 4) (hgo : i + 1 < (rlimbs n).length ∨ 0 < v) : RT n i (k + 1) (v / 10) (ds ++ [v % 10]) := by
 obtain ⟨m, hm⟩ : ∃ m, 4 - k = m + 1 := ⟨3 - k, by omega⟩
 have hm2 : 4 - (k + 1) = m := by omega
 have h1 := h.txt
 have h2 := h.small
 rw [hm] at h1 h2
 refine ⟨by rw [hm2]; exact h1.digit, ?_, fun hl => ?_⟩
 ·rw [hm2]; rw [Nat.pow_succ] at h2; exact Nat.div_lt_of_lt_mul (by rw [Nat.mul_comm]; exact h2)
 ·rcases Nat.eq_zero_or_pos (v / 10) with h0 | h0
  ·refine .inr fun hd => ?_
   rw [List.getLast_append_of_ne_nil _ (by simp)]
   simp only [List.getLast_singleton]
   omega
  ·exact .inl h0
theorem RT.row {n i k v : Nat} {ds : List Nat} (h : RT n i k v ds) (hi : i < (rlimbs n).length) (hend : k = 4 ∨ (i + 1 = (rlimbs n).length ∧ v = 0)) (hk : k ≤ 4) : RTxt n ds (rval ((rlimbs n).drop (i + 1))) ∧ (i + 1 = (rlimbs n).length → ∀ hd : ds ≠ [], ds.getLast hd ≠ 0) := by
 have h1 := h.txt
 have h2 := h.small
 have hv : v = 0 := by
  rcases hend with h3 | h3
  ·rw [h3] at h2; simpa using h2
  ·exact h3.2
 subst hv
 refine ⟨?_, fun hl => ?_⟩
 ·rw [Nat.zero_add] at h1
  rcases hend with h3 | h3
  ·rw [h3] at h1; simpa using h1
  ·have : rval ((rlimbs n).drop (i + 1)) = 0 := by rw [List.drop_of_length_le (by omega)]; rfl
   rw [this] at h1 ⊢
   simpa using h1
 ·rcases h.last hl with h3 | h3
  ·omega
  ·exact h3
theorem RT.done {n : Nat} {ds : List Nat} (h : RTxt n ds (rval ((rlimbs n).drop (rlimbs n).length))) (hn : 0 < n) (ht : ∀ hd : ds ≠ [], ds.getLast hd ≠ 0) : ds.reverse.map (48 + ·) = dec n := by
 rw [List.drop_length] at h
 exact h.done hn ht
end Go.Proofs.YtcpfanpcdkoiaaaGreat
namespace Go.Proofs.YtcpfanpcdkoiaaaGreat
open Go.RowKit


theorem foldl_dnum (l : List UInt8) : ∀ a, l.foldl (fun a c => a * 10 + (c.toNat - 48)) a = a * 10 ^ l.length + dnum l := by
 induction l with
 | nil => intro a; simp [dnum]
 | cons c l ih =>
  intro a
  unfold dnum
  rw [List.foldl_cons, List.foldl_cons, ih, ih (0 * 10 + _), List.length_cons, Nat.pow_succ, Nat.add_mul, Nat.zero_mul, Nat.zero_add, Nat.mul_comm (10 ^ l.length) 10, ← Nat.mul_assoc, Nat.add_assoc]
theorem dnum_append (xs ys : List UInt8) : dnum (xs ++ ys) = dnum xs * 10 ^ ys.length + dnum ys := by
 rw [show dnum (xs ++ ys) = ys.foldl (fun a c => a * 10 + (c.toNat - 48)) (dnum xs) by simp [dnum], foldl_dnum]
structure PG (l : List UInt8) (e : Nat) (ds : List Nat) : Prop where
 lt : ∀ d ∈ ds, d < 10000
 eq : dnum l = dnum (l.take e) * 10000 ^ ds.length + rval ds
theorem PG.start (l : List UInt8) : PG l l.length [] := ⟨by simp, by simp [rval]⟩
theorem PG.next {l : List UInt8} {e f : Nat} {ds : List Nat} (h : PG l e ds) (hd : l.all isDig = true) (he : e ≤ l.length) (hf : (f + 4 = e) ∨ (f = 0 ∧ e ≤ 4)) : dnum ((l.take e).drop f) < 10000 ∧ PG l f (ds ++ [dnum ((l.take e).drop f)]) := by
 have hfe : f ≤ e := by omega
 have hlen : ((l.take e).drop f).length = e - f := by simp; omega
 have hall : ((l.take e).drop f).all isDig = true := by
  rw [List.all_eq_true] at hd ⊢
  exact fun x hx => hd x (List.mem_of_mem_take (List.mem_of_mem_drop hx))
 have hlt : dnum ((l.take e).drop f) < 10000 := by
  have := dnum_lt _ hall
  rw [hlen] at this
  exact Nat.lt_of_lt_of_le this (Nat.le_trans (Nat.pow_le_pow_right (by decide) (show e - f ≤ 4 by omega)) (by decide))
 refine ⟨hlt, lt_snoc h.lt hlt, ?_⟩
 have hsp : l.take e = l.take f ++ (l.take e).drop f := by
  have : (l.take e).take f = l.take f := by rw [List.take_take, Nat.min_eq_left hfe]
  rw [← this, List.take_append_drop]
 have h1 : dnum (l.take e) = dnum (l.take f) * 10 ^ (e - f) + dnum ((l.take e).drop f) := by
  rw [← hlen, ← dnum_append, ← hsp]
 have h2 : dnum (l.take f) * 10 ^ (e - f) = dnum (l.take f) * 10000 := by
  rcases hf with hf | ⟨hf, _⟩
  ·rw [show e - f = 4 by omega]
  ·subst hf; simp [dnum]
 rw [h.eq, h1, h2, rval_append, List.length_append, List.length_singleton, Nat.pow_succ]
 simp only [rval, Nat.mul_zero, Nat.add_zero]
 rw [Nat.add_mul, Nat.mul_assoc, Nat.mul_comm 10000, Nat.mul_comm (dnum ((l.take e).drop f)) (10000 ^ ds.length)]
 omega
theorem PG.done {l : List UInt8} {ds : List Nat} (h : PG l 0 ds) : rval ds = dnum l := by
 have := h.eq
 simp [dnum] at this
 simpa [dnum] using this.symm
def RPost (w : World) (l : List UInt8) (e : Ending) (w' : World) : Prop := ∃ r, e = .returned (.tuple #[r, .int .i64 (pcode l)]) ∧ RIs w' r (pval l) ∧ Below w.heap.size w w'
theorem RPost.long {w W : World} {l : List UInt8} (h : numOk l = true) (hl : 1200 < l.length) (hb : Below w.heap.size w W) : RPost w l (.returned (.tuple #[.slice none 0 0, .int .i64 2])) W :=
 ⟨_, by unfold pcode; rw [h, if_pos rfl, if_pos hl], by unfold pval; rw [h, if_pos rfl, if_pos hl]; exact RIs.nil _, hb⟩
theorem RPost.good {w W : World} {l : List UInt8} {r : Value} (h : numOk l = true) (hl : ¬ 1200 < l.length) (hr : RIs W r (dnum l)) (hb : Below w.heap.size w W) : RPost w l (.returned (.tuple #[r, .int .i64 0])) W :=
 ⟨_, by unfold pcode; rw [h, if_pos rfl, if_neg hl], by unfold pval; rw [h, if_pos rfl, if_neg hl]; exact hr, hb⟩
end Go.Proofs.YtcpfanpcdkoiaaaGreat
namespace Go.Proofs.YtcpfanpcdkoiaaaGreat
open Go.RowKit


theorem rlen_zero {n : Nat} : (rlimbs n).length = 0 ↔ n = 0 := by
 rw [List.length_eq_zero_iff, rlimbs_eq_nil]
set_option maxHeartbeats 1000000 in
theorem rgcd_any (va vb : Value) (a b : Nat) (w : World) (ha : RIs w va a) (hb : RIs w vb b) (hla : (rlimbs a).length ≤ 1000000) (hlb : (rlimbs b).length ≤ 1000000) :
  Calls Tryz.prog 188 #[va, vb] w fun e w' => ∃ r, e = .returned r ∧ RIs w' r (Nat.gcd a b) ∧ Below w.heap.size w w' := by
 go_enter Tryz.func188, Tryz.ntmps188
 go_wp2_with fail
 go_loopg [0, 1] b (fun gg av bv wr => ∃ x, RIs wr av x ∧ RIs wr bv gg ∧ (rlimbs x).length ≤ 1000000 ∧ (rlimbs gg).length ≤ 1000000 ∧ Nat.gcd x gg = Nat.gcd a b ∧ Below w.heap.size w wr)
 case atStart => exact ⟨a, ha, hb, hla, hlb, rfl, Below.refl _ _⟩
 case round =>
  obtain ⟨x, hx, hy, hlx, hly, hg, hbr⟩ := hrel
  obtain ⟨yo, yc, rfl, _, _, _, _⟩ := hy.open
  have HG := Lib.hid hg; clear hg
  by_cases h0 : gk = 0
  ·have hl0 : (rlimbs gk).length = 0 := rlen_zero.2 h0
   have hgx : Nat.gcd a b = x := by rw [← HG.out, h0, Nat.gcd_zero_right]
   have HGX := Lib.hid hgx
   rw [hl0]
   clear hgx hl0 h0 hy
   go_wp2
   go_ret
   exact ⟨_, rfl, by rw [HGX.out]; exact hx, hbr⟩
  ·have hl0 : 0 < (rlimbs gk).length := Nat.pos_of_ne_zero (fun h => h0 (rlen_zero.1 h))
   have hp : 0 < gk := by omega
   clear h0
   go_wp2_with fail
   refine (rdivmod_any _ _ x gk wr hx hy hlx hly hp).mono ?_
   rintro e w1 ⟨q, r, rfl, hq, hr, hb1⟩
   have hlr : (rlimbs (x % gk)).length ≤ 1000000 := Nat.le_trans (rlimbs_length_mono (Nat.le_of_lt (Nat.mod_lt _ hp))) hly
   go_wp2_with fail
   go_roundg (x % gk)
   case measure => exact Nat.mod_lt _ hp
   case rel => exact ⟨gk, hy.below hb1, hr, hly, hlr, by rw [← HG.out, Nat.gcd_comm gk (x % gk), ← Nat.gcd_rec, Nat.gcd_comm], hbr.trans (hb1.mono hbr.size)⟩
theorem rl_two {m K : Nat} (h : m < K) : (rlimbs (2 ^ m)).length ≤ K := by
 refine rlimbs_length_le (Nat.lt_of_lt_of_le (Nat.pow_lt_pow_right (by decide) h) ?_)
 exact Nat.pow_le_pow_left (by decide) _
theorem rl_pow {m : Nat} (h : m ≤ 10000) : (rlimbs (2 ^ m)).length ≤ 10001 := rl_two (by omega)
set_option maxHeartbeats 1000000 in
theorem rtwo_any (n : Nat) (w : World) (hn : n ≤ 10000) :
  Calls Tryz.prog 178 #[.int .i64 (n : Int)] w fun e w' => ∃ r, e = .returned r ∧ RIs w' r (2 ^ n) ∧ Below w.heap.size w w' := by
 have h1 := one_is w (x := 1) (by omega) (by omega)
 have hb1 : Below w.heap.size w (w.alloc (.cells #[.int .i64 ((1 : Nat) : Int)] 3)) := (Below.refl _ _).alloc (Nat.le_refl _) _
 go_enter Tryz.func178, Tryz.ntmps178
 go_wp2_with fail
 go_loopg [0, 3] n (fun gg nv av wr => ∃ (m : Nat), gg + m = n ∧ nv = .int .i64 (gg : Int) ∧ RIs wr av (2 ^ m) ∧ Below w.heap.size w wr)
 case atStart => exact ⟨0, rfl, rfl, h1, hb1⟩
 case round =>
  obtain ⟨m, hm, rfl, ha, hbr⟩ := hrel
  by_cases h13 : 13 ≤ gk
  ·have hone := one_is wr (x := 8192) (by omega) (by omega)
   have hal : Below wr.heap.size wr (wr.alloc (.cells #[.int .i64 ((8192 : Nat) : Int)] 3)) := (Below.refl _ _).alloc (Nat.le_refl _) _
   have hmul := rmul_any _ _ (2 ^ m) 8192 _ (ha.below hal) hone (Nat.le_trans (rl_pow (by omega)) (by omega)) (Nat.le_trans (rlimbs_length_le (k := 1) (by omega)) (by omega))
   have he : 2 ^ m * 8192 = 2 ^ (m + 13) := by rw [Nat.pow_add]
   rw [he] at hmul
   have HM := Lib.hid hmul
   clear hmul he hone
   go_wp2_with fail
   refine HM.out.mono ?_
   rintro e w1 ⟨r, rfl, hr, hb2⟩
   go_wp2_with fail
   go_roundg (gk - 13)
   case measure => omega
   case rel => exact ⟨m + 13, by omega, by go_num, hr, hbr.trans ((hal.trans (hb2.mono hal.size)).mono hbr.size)⟩
  ·go_wp2_with fail
   go_loopg [0, 3] gk (fun gg nv av wx => ∃ (m : Nat), gg + m = n ∧ nv = .int .i64 (gg : Int) ∧ RIs wx av (2 ^ m) ∧ Below w.heap.size w wx)
   case atStart => exact ⟨m, hm, rfl, ha, hbr⟩
   case round =>
    clear ha hbr h13 hm
    obtain ⟨m2, hm, rfl, ha, hbr⟩ := hrel
    by_cases h0 : 0 < gk
    ·have hone := one_is wr (x := 2) (by omega) (by omega)
     have hal : Below wr.heap.size wr (wr.alloc (.cells #[.int .i64 ((2 : Nat) : Int)] 3)) := (Below.refl _ _).alloc (Nat.le_refl _) _
     have hmul := rmul_any _ _ (2 ^ m2) 2 _ (ha.below hal) hone (Nat.le_trans (rl_pow (by omega)) (by omega)) (Nat.le_trans (rlimbs_length_le (k := 1) (by omega)) (by omega))
     rw [← Nat.pow_succ] at hmul
     have HM := Lib.hid hmul
     clear hmul hone
     go_wp2_with fail
     refine HM.out.mono ?_
     rintro e w1 ⟨r, rfl, hr, hb2⟩
     go_wp2_with fail
     go_roundg (gk - 1)
     case measure => omega
     case rel => exact ⟨m2 + 1, by omega, by go_num, hr, hbr.trans ((hal.trans (hb2.mono hal.size)).mono hbr.size)⟩
    ·obtain rfl : m2 = n := by omega
     go_wp2
     go_ret
     exact ⟨_, rfl, ha, hbr⟩
end Go.Proofs.YtcpfanpcdkoiaaaGreat
