/-
  Pj03: NatN2 NatN3 (what is needed of them).
-/
import Derived.Test.YtcpfanpcdkoiaaaGreatDoorPj00
import Derived.Test.YtcpfanpcdkoiaaaGreatDoorPj01
import Derived.Test.YtcpfanpcdkoiaaaGreatDoorPj02
import Derived.Deep.LoopGhost
import Derived.Deep.DeepCutAuto
import Derived.Deep.RegionHeld3
set_option maxRecDepth 100000
set_option linter.unusedVariables false
set_option linter.unusedSimpArgs false

namespace Go.Proofs.YtcpfanpcdkoiaaaGreatDoor
open Go.RowKit


attribute [local go_sem] and_low field_nat
end Go.Proofs.YtcpfanpcdkoiaaaGreatDoor
namespace Go.Proofs.YtcpfanpcdkoiaaaGreatDoor
open Go.RowKit


attribute [local go_sem] and_low field_nat
def EqFrom (xs ys : List Nat) (k : Nat) : Prop := ∀ j : Nat, k ≤ j → xs[j]?.getD 0 = ys[j]?.getD 0
theorem EqFrom.start (xs ys : List Nat) (k : Nat) (h1 : xs.length ≤ k) (h2 : ys.length ≤ k) : EqFrom xs ys k := fun j hj => by
 rw [List.getElem?_eq_none (by omega), List.getElem?_eq_none (by omega)]
theorem cmp_lt {a b k : Nat} (h : EqFrom (limbs a) (limbs b) (k + 1)) (hk : (limbs a)[k]?.getD 0 < (limbs b)[k]?.getD 0) : cmpI a b = -1 := by
 have := val_lt_of_top (limbs_lt a) (limbs_lt b) (fun j hj => h j hj) hk
 rw [val_limbs, val_limbs] at this
 unfold cmpI; rw [if_pos this]
theorem cmp_gt {a b k : Nat} (h : EqFrom (limbs a) (limbs b) (k + 1)) (hk : (limbs b)[k]?.getD 0 < (limbs a)[k]?.getD 0) : cmpI a b = 1 := by
 have := val_lt_of_top (limbs_lt b) (limbs_lt a) (fun j hj => (h j hj).symm) hk
 rw [val_limbs, val_limbs] at this
 unfold cmpI; rw [if_neg (by omega), if_pos this]
theorem cmp_eq {a b : Nat} (h : EqFrom (limbs a) (limbs b) 0) : cmpI a b = 0 := by
 have := val_ext (n := (limbs a).length + (limbs b).length) (by omega) (by omega) (fun j => h j (Nat.zero_le _))
 rw [val_limbs, val_limbs] at this
 unfold cmpI; rw [if_neg (by omega), if_neg (by omega)]
theorem held_next {wr w1 w2 : World} {p q : Nat} {u v : Value} (hb : Below w1.heap.size w1 w2) (h : w1.cell? ⟨p, 0, none⟩ = some u ∧ w1.cell? ⟨q, 0, none⟩ = some v ∧ Below wr.heap.size wr w1) :
  w2.cell? ⟨p, 0, none⟩ = some u ∧ w2.cell? ⟨q, 0, none⟩ = some v ∧ Below wr.heap.size wr w2 :=
 ⟨(hb.cell (p := ⟨p, 0, none⟩) (World.block_lt_of_cell? w1 ⟨p, 0, none⟩ h.1)).trans h.1, (hb.cell (p := ⟨q, 0, none⟩) (World.block_lt_of_cell? w1 ⟨q, 0, none⟩ h.2.1)).trans h.2.1, h.2.2.trans (hb.mono h.2.2.size)⟩
theorem held_nat {wr w1 : World} {p q : Nat} {u v x : Value} {n : Nat} (hn : NatIs wr x n) (h : w1.cell? ⟨p, 0, none⟩ = some u ∧ w1.cell? ⟨q, 0, none⟩ = some v ∧ Below wr.heap.size wr w1) : NatIs w1 x n := hn.below h.2.2
set_option maxHeartbeats 1000000 in
theorem cmp_any (va vb : Value) (a b : Nat) (w : World) (ha : NatIs w va a) (hb : NatIs w vb b) :
  Calls Tryz.prog 199 #[va, vb] w fun e w' => e = .returned (.int .i64 (cmpI a b)) ∧ Below w.heap.size w w' := by
 obtain ⟨ao, ca, rfl, ha1, ha2, ha3, ha4⟩ := ha.open
 obtain ⟨bo, cb, rfl, hb1, hb2, hb3, hb4⟩ := hb.open
 obtain ⟨m, hm⟩ : ∃ m, m = max (limbs a).length (limbs b).length := ⟨_, rfl⟩
 have hm1 : (limbs a).length ≤ m := by omega
 have hm2 : (limbs b).length ≤ m := by omega
 have hm3 : m ≤ 9223372036854775807 := by omega
 have hst := EqFrom.start _ _ m hm1 hm2
 have HM := Lib.hid hm
 have hla : (limbs a).length ≤ 9223372036854775807 := by omega
 have hlb : (limbs b).length ≤ 9223372036854775807 := by omega
 clear hm ha1 ha2 ha3 ha4 hb1 hb2 hb3 hb4 hm1 hm2
 have HS := Lib.hid hst; clear hst
 go_enter Tryz.func199, Tryz.ntmps199
 obtain ⟨w0, hw0⟩ : ∃ w0, w0 = (w.alloc (.cells #[.slice ao (limbs a).length ca] 111)).alloc (.cells #[.slice bo (limbs b).length cb] 111) := ⟨_, rfl⟩
 have hbel : Below w.heap.size w w0 := by
  rw [hw0]; exact ((Below.refl _ w).alloc (Nat.le_refl _) _).alloc (by simp <;> omega) _
 have hsz0 : w0.heap.size = w.heap.size + 2 := by rw [hw0]; simp
 have hba : Box w0 w.heap.size (.slice ao (limbs a).length ca) := by
  rw [hw0]; exact ⟨by go_simp, by go_simp, by simp <;> omega⟩
 have hbb : Box w0 (w.heap.size + 1) (.slice bo (limbs b).length cb) := by
  rw [hw0]; exact ⟨by go_simp, by go_simp, by simp <;> omega⟩
 have ha0 := ha.below hbel
 have hb0 := hb.below hbel
 have HW := Lib.hid hw0; clear hw0
 have HSZ := Lib.hid hsz0
 go_wp2
 all_goals
  go_loopg [5] m (fun gg iv wr => gg ≤ 9223372036854775807 ∧ iv = .int .i64 ((gg : Int) - 1) ∧ EqFrom (limbs a) (limbs b) gg ∧ Below w0.heap.size w0 wr)
  case atStart =>
   refine ⟨hm3, congrArg (Value.int .i64) ?_, HS.out, by rw [HW.out]; exact Below.refl _ _⟩
   have := HM.out
   omega
  case round =>
   obtain ⟨hgg, rfl, heq, hbr⟩ := hrel
   have HE := Lib.hid heq; clear heq
   rcases Nat.eq_zero_or_pos gk with rfl | hpos
   ·go_wp2
    go_ret
    exact ⟨ret_one (congrArg (Value.int .i64) (cmp_eq HE.out).symm), hbel.trans (hbr.mono hbel.size)⟩
   ·obtain ⟨k, rfl⟩ : ∃ k, gk = k + 1 := ⟨gk - 1, by omega⟩
    have har := ha0.below hbr
    have hbr' := hb0.below hbr
    have hbar := hba.kept hbr
    have hbbr := hbb.kept hbr
    have e1 := hbar.cell
    have e2 := hbbr.cell
    have ek : ((k + 1 : Nat) : Int) - 1 = (k : Int) := by omega
    rw [ek]
    have hk9 : k ≤ 9223372036854775807 := by omega
    clear HW HM HS ek
    go_wp2_with fail
    go_region_held3 (fun w' => w'.cell? ⟨w.heap.size, 0, none⟩ = some (.slice ao (limbs a).length ca) ∧ w'.cell? ⟨w.heap.size + 1, 0, none⟩ = some (.slice bo (limbs b).length cb) ∧ Below wr.heap.size wr w')
     (first | assumption | exact ⟨e1, e2, (Below.refl _ _).drew⟩)
     (first
      | (go_at_call_of 231 (Value.slice ao (limbs a).length ca); refine (at_any _ a k _ (held_nat har (by assumption)) hk9).mono ?_; rintro e w' ⟨rfl, hb'⟩; have hS := held_next hb' (by assumption))
      | (go_at_call_of 231 (Value.slice bo (limbs b).length cb); refine (at_any _ b k _ (held_nat hbr' (by assumption)) hk9).mono ?_; rintro e w' ⟨rfl, hb'⟩; have hS := held_next hb' (by assumption)))
    have hw3 := hS.2.2
    have hwb := hbr.trans (hw3.mono hbr.size)
    have hwf := hbel.trans (hwb.mono hbel.size)
    have hlt0 := fun h : (limbs a)[k]?.getD 0 < (limbs b)[k]?.getD 0 => cmp_lt HE.out h
    have hgt0 := fun h : (limbs b)[k]?.getD 0 < (limbs a)[k]?.getD 0 => cmp_gt HE.out h
    have heq0 : (limbs a)[k]?.getD 0 = (limbs b)[k]?.getD 0 → EqFrom (limbs a) (limbs b) k := fun h j hj => by
     rcases Nat.lt_or_ge k j with h1 | h1
     ·exact HE.out j h1
     ·obtain rfl : j = k := by omega
      exact h
    have HL := Lib.hid hlt0
    have HG := Lib.hid hgt0
    have HQ := Lib.hid heq0
    generalize (limbs a)[k]?.getD 0 = xa at *
    generalize (limbs b)[k]?.getD 0 = xb at *
    clear hlt0 hgt0 heq0 HE hS hw3
    by_cases hlt : xa < xb
    ·go_wp2
     go_ret
     exact ⟨ret_one (congrArg (Value.int .i64) (HL.out hlt).symm), hwf⟩
    ·by_cases hgt : xb < xa
     ·go_wp2
      go_ret
      exact ⟨ret_one (congrArg (Value.int .i64) (HG.out hgt).symm), hwf⟩
     ·go_wp2
      go_roundg k
      case measure => omega
      case rel => exact ⟨hk9, rfl, HQ.out (by omega), hwb⟩
end Go.Proofs.YtcpfanpcdkoiaaaGreatDoor
namespace Go.Proofs.YtcpfanpcdkoiaaaGreatDoor
open Go.RowKit


attribute [local go_sem] and_low field_nat
theorem and_one (x : Int) : bits .and .u64 x 1 = x % 2 := by
 obtain ⟨a, ha⟩ := Int.eq_ofNat_of_zero_le (Int.emod_nonneg x (show (18446744073709551616 : Int) ≠ 0 by decide))
 have hlt : a < 18446744073709551616 := by omega
 have e : BitVec.ofInt 64 x = BitVec.ofInt 64 (a : Int) := by
  apply BitVec.eq_of_toInt_eq
  simp only [BitVec.toInt_ofInt, Int.bmod_def]
  omega
 have e1 : bits .and .u64 x 1 = bits .and .u64 (a : Int) 1 := by
  simp only [bits, IntKind.bits] at *
  rw [e]
 have e2 : bits .and .u64 (a : Int) 1 = (a : Int) % 2 := bits_mask .u64 64 (by decide) (fun n h0 h1 => by rw [IntKind.wrap_u64]; omega) 1 (by decide) a (by omega) (by omega)
 rw [e1, e2]
 omega
attribute [local go_sem] and_one
end Go.Proofs.YtcpfanpcdkoiaaaGreatDoor
namespace Go.Proofs.YtcpfanpcdkoiaaaGreatDoor
open Go.RowKit


attribute [local go_sem] and_low field_nat
set_option maxHeartbeats 1000000 in
theorem mul_any (va vb : Value) (a b : Nat) (w : World) (ha : NatIs w va a) (hb : NatIs w vb b) (hla : (limbs a).length ≤ 100000000) (hlb : (limbs b).length ≤ 100000000) :
  Calls Tryz.prog 150 #[va, vb] w fun e w' => ∃ r, e = .returned r ∧ NatIs w' r (a * b) ∧ Below w.heap.size w w' := by
 obtain ⟨ao, ca, rfl, ha1, ha2, ha3, ha4⟩ := ha.open
 obtain ⟨bo, cb, rfl, hb1, hb2, hb3, hb4⟩ := hb.open
 obtain ⟨w0, hw0⟩ : ∃ w0, w0 = ((w.alloc (.cells #[.slice ao (limbs a).length ca] 111)).alloc (.cells #[.slice bo (limbs b).length cb] 111)).alloc (.cells #[.slice none 0 0] 111) := ⟨_, rfl⟩
 have hbel : Below w.heap.size w w0 := by
  rw [hw0]; exact (((Below.refl _ w).alloc (Nat.le_refl _) _).alloc (by simp <;> omega) _).alloc (by simp <;> omega) _
 have hsz0 : w0.heap.size = w.heap.size + 3 := by rw [hw0]; simp
 have hba : Box w0 w.heap.size (.slice ao (limbs a).length ca) := by
  rw [hw0]; exact ⟨by go_simp, by go_simp, by simp <;> omega⟩
 have hbb : Box w0 (w.heap.size + 1) (.slice bo (limbs b).length cb) := by
  rw [hw0]; exact ⟨by go_simp, by go_simp, by simp <;> omega⟩
 have hbr : Box w0 (w.heap.size + 2) (.slice none 0 0) := by
  rw [hw0]; exact ⟨by go_simp, by go_simp, by simp <;> omega⟩
 have hca := ha4.below hbel
 have hcb := hb4.below hbel
 have HW := Lib.hid hw0; clear hw0
 have HSZ := Lib.hid hsz0; clear hsz0
 have hszl : w.heap.size + 3 ≤ w0.heap.size := by rw [HSZ.out]; exact Nat.le_refl _
 have hxB := limbs_lt a
 have hyB := limbs_lt b
 have hst := MulOut.start (limbs a) (limbs b)
 clear ha hb ha4 hb4 ha3 hb3
 go_enter Tryz.func150, Tryz.ntmps150
 go_upto_region 1 with fail
 rw [← HW.out]
 have e1 := hba.cell
 have e2 := hbb.cell
 go_wp2_with (at_make; refine makeN E32 (n := (limbs a).length + (limbs b).length) rfl rfl rfl rfl (by omega) (by unfold maxLen; omega) ?_; intro w1 ho hb1; have e3 := (hba.kept hb1).cell; have e4 := (hbb.kept hb1).cell)
 have hm := ho.mut
 have hgw := hm.lt
 clear e1 e2 ho
 go_loopg [22] (limbs a).length (fun gg iv wr => ∃ (i : Nat) (zs : List Nat), i + gg = (limbs a).length ∧ iv = .int .i64 i ∧ MulOut (limbs a) (limbs b) i zs ∧ Mut .u32 wr w0.heap.size 0 zs ∧ Below w0.heap.size w0 wr)
 case atStart => exact ⟨0, _, by omega, rfl, hst, hm, hb1⟩
 case round =>
  obtain ⟨i, zs0, hi, rfl, hout, hmz, hbr0⟩ := hrel
  have hzl := hout.len
  by_cases hil : i < (limbs a).length
  ·have hcar := hca.below hbr0
   rcases hcar with hcar | ⟨xb, xoff, rfl, hxb, hxc⟩
   ·rw [hcar] at hil; simp at hil
   have hxk := hxc i hil
   have hxB2 := getD_lt (k := i) hxB (by decide)
   have f1 := (hba.kept hbr0).cell
   have f2 := (hbb.kept hbr0).cell
   have hin0 := MulIn.start (ys := limbs b) (i := i) (x := (limbs a)[i]?.getD 0) hout.lt
   have HO := Lib.hid hout
   have hcb0 : Cells .u32 wr bo (limbs b) := hcb.below hbr0
   clear hxc hst hm e3 e4 hout
   obtain ⟨x, hx⟩ : ∃ x, x = (limbs a)[i]?.getD 0 := ⟨_, rfl⟩
   rw [← hx] at hxk hxB2 hin0
   have HX := Lib.hid hx
   clear hx
   obtain ⟨go, hgo⟩ : ∃ go, go = gk := ⟨_, rfl⟩
   subst hgo
   go_wp2_with fail
   go_loopg [8, 30] (limbs b).length (fun gg cv jv wx => ∃ (j c : Nat) (zs : List Nat), j + gg = (limbs b).length ∧ jv = .int .i64 j ∧ cv = .int .u64 c ∧ MulIn zs0 (limbs b) i x j c zs ∧ Mut .u32 wx w0.heap.size 0 zs ∧ Below w0.heap.size w0 wx)
   case atStart => exact ⟨0, 0, zs0, by omega, rfl, rfl, hin0, hmz, hbr0⟩
   case round =>
    obtain ⟨j, c, zs, hj, rfl, rfl, hin, hmz1, hbr1⟩ := hrel
    have hzl1 := hin.len
    have hccar := hin.car
    have g1 := (hba.kept hbr1).cell
    have g2 := (hbb.kept hbr1).cell
    by_cases hjl : j < (limbs b).length
    ·have hcbr := hcb.below hbr1
     rcases hcbr with hcbr | ⟨yb, yoff, rfl, hyb, hyc⟩
     ·rw [hcbr] at hjl; simp at hjl
     have hyk := hyc j hjl
     have hyB2 := getD_lt (k := j) hyB (by decide)
     have hzk := hmz1.cell (i + j) (by omega)
     have hfk := hmz1.free (i + j) (by omega)
     rw [Nat.zero_add] at hzk hfk
     have hzB := getD_lt (k := i + j) hin.lt (by decide)
     have hnx := hin.next hxB2 hyB (by omega)
     have hms := hmz1.set (i + j) ((c + (x * (limbs b)[j]?.getD 0 + zs[i + j]?.getD 0)) % 4294967296) (by omega)
     rw [Nat.zero_add] at hms
     generalize zs[i + j]?.getD 0 = z at *
     generalize (limbs b)[j]?.getD 0 = yy at *
     have hmb := mul_bound hccar hxB2 hyB2 hzB
     have HN := Lib.hid hnx
     have HM := Lib.hid hms
     have HL := Lib.hid hzl
     have HL1 := Lib.hid hzl1
     clear hyc hin hnx hms hzl hzl1 hmz1 hcb hcb0 hmz hin0
     go_wp2_with fail
     go_roundg (gk - 1)
     case measure => omega
     case rel => exact ⟨j + 1, _, _, by omega, by go_num, by go_num, HN.out, HM.out, hbr1.setCell (by exact Nat.le_refl _) _⟩
    ·obtain rfl : j = (limbs b).length := by omega
     have hzk := hmz1.cell (i + (limbs b).length) (by omega)
     have hfk := hmz1.free (i + (limbs b).length) (by omega)
     rw [Nat.zero_add] at hzk hfk
     rw [HX.out] at hin
     have hnx := MulOut.next HO.out hin hil
     have hms := hmz1.set (i + (limbs b).length) c (by omega)
     rw [Nat.zero_add] at hms
     have HN := Lib.hid hnx
     have HM := Lib.hid hms
     have HL := Lib.hid hzl
     have HL1 := Lib.hid hzl1
     clear hin hnx hms hmz1 hmz hin0 hzl hzl1
     go_wp2_with fail
     go_roundg (go - 1)
     case measure => omega
     case rel => exact ⟨i + 1, _, by omega, by go_num, HN.out, HM.out, hbr1.setCell (by exact Nat.le_refl _) _⟩
  ·obtain rfl : i = (limbs a).length := by omega
   have hval : val zs0 = a * b := by
    have := hout.eq
    rwa [List.take_length, val_limbs, val_limbs] at this
   have hzB3 := hout.lt
   have hn := trim_nat (cap := (limbs a).length + (limbs b).length) (w' := wr) hmz.cells (by omega) hzB3 (by unfold maxLen; omega)
   have hcl := hmz.cells
   have hzc : zs0.length ≤ (limbs a).length + (limbs b).length := by omega
   have hbox := hbr.kept hbr0
   have HZL := Lib.hid hzl
   have HV := Lib.hid hval
   clear hzl hval e3 e4 hm hst hout hmz
   go_wp2_with fail
   rw [← HZL.out]
   refine (trim_any (some ⟨w0.heap.size, 0, none⟩) zs0.length zs0 wr hcl (Nat.le_refl _) (by rw [HZL.out]; unfold maxLen; omega) hzB3).mono ?_
   rintro e w6 ⟨rfl, hb6⟩
   have hn6 := hn.below hb6
   have hbox6 := hbox.kept hb6
   rw [HV.out] at hn6 ⊢
   have hc6 := hbox6.cell
   have hf6 := hbox6.free
   have hfin : Below w.heap.size w w6 := hbel.trans ((hbr0.trans (hb6.mono hbr0.size)).mono hbel.size)
   clear hn hcl hbox
   go_wp2
   refine ret_nat rfl rfl (cell_set hc6) rfl ⟨_, rfl, hn6.set _ _ (fun n e => by rw [hc6] at e; cases e), hfin.setCell (p := ⟨w.heap.size + 2, 0, none⟩) (by simp) _⟩
end Go.Proofs.YtcpfanpcdkoiaaaGreatDoor
namespace Go.Proofs.YtcpfanpcdkoiaaaGreatDoor
open Go.RowKit


attribute [local go_sem] and_low field_nat
theorem byte_at (l : List UInt8) (k : Nat) (hk : k < l.length) (h : k < (⟨l.toArray⟩ : ByteArray).size) : (((⟨l.toArray⟩ : ByteArray)[k]'h).toNat : Int) = ((l[k]?.getD 0).toNat : Int) := by
 have e : (⟨l.toArray⟩ : ByteArray)[k]'h = l[k] := rfl
 rw [e, List.getElem?_eq_getElem hk]; rfl
theorem all_snoc {l : List UInt8} {k : Nat} (hk : k < l.length) (h : (l.take k).all isDig = true) : (l.take (k + 1)).all isDig = isDig (l[k]?.getD 0) := by
 rw [List.take_add_one, List.getElem?_eq_getElem hk, List.all_append, h]; simp
theorem all_false {l : List UInt8} {k : Nat} (hk : k < l.length) (h : isDig (l[k]?.getD 0) = false) : l.all isDig = false := by
 rw [List.all_eq_false]
 refine ⟨l[k], List.getElem_mem hk, ?_⟩
 rw [List.getElem?_eq_getElem hk] at h
 simpa using h
set_option maxHeartbeats 1000000 in
theorem number_any (l : List UInt8) (w : World) (hl : l.length ≤ 9223372036854775807) :
  Calls Tryz.prog 204 #[.string ⟨l.toArray⟩] w fun e w' => e = .returned (.bool (numOk l)) ∧ w = w' := by
 go_enter Tryz.func204, Tryz.ntmps204
 go_wp2_with fail
 go_loopg [6] l.length (fun gg iv wr => ∃ k : Nat, k + gg = l.length ∧ iv = .int .i64 k ∧ (l.take k).all isDig = true ∧ w = wr)
 case atStart => exact ⟨0, by omega, rfl, by simp, rfl⟩
 case round =>
  obtain ⟨k, hk, rfl, hall, rfl⟩ := hrel
  have HA := Lib.hid hall; clear hall
  by_cases hkl : k < l.length
  ·have hby := byte_at l k hkl (by simpa [ByteArray.size] using hkl)
   have hsn := Lib.hid (all_snoc hkl HA.out)
   have hfa : isDig (l[k]?.getD 0) = false → numOk l = false := fun h => by unfold numOk; rw [all_false hkl h]; rfl
   have HF := Lib.hid hfa
   clear hfa
   generalize l[k]?.getD 0 = c at *
   by_cases h1 : c.toNat < 48
   ·have hz : isDig c = false := by simp [isDig]; omega
    have HZ := Lib.hid (HF.out hz)
    clear hz
    go_wp2_with fail
    go_ret
    exact ⟨ret_one (congrArg Value.bool HZ.out.symm), rfl⟩
   ·by_cases h2 : 57 < c.toNat
    ·have hz : isDig c = false := by simp [isDig]; omega
     have HZ := Lib.hid (HF.out hz)
     clear hz
     go_wp2_with fail
     go_ret
     exact ⟨ret_one (congrArg Value.bool HZ.out.symm), rfl⟩
    ·have hz : isDig c = true := by simp [isDig]; omega
     have HZ := Lib.hid hz
     clear hz
     go_wp2_with fail
     go_roundg (gk - 1)
     case measure => omega
     case rel => exact ⟨k + 1, by omega, by go_num, by rw [hsn.out]; exact HZ.out, rfl⟩
  ·obtain rfl : k = l.length := by omega
   have hall2 : l.all isDig = true := by have := HA.out; rwa [List.take_length] at this
   have HB := Lib.hid hall2
   clear hall2 HA
   rcases l with _ | ⟨c, r⟩
   ·go_wp2_with fail
    go_ret
    exact ⟨rfl, rfl⟩
   ·have hb0 : ∀ h, (((⟨(c :: r).toArray⟩ : ByteArray)[0]'h).toNat : Int) = (c.toNat : Int) := fun _ => rfl
    have hall3 := HB.out
    by_cases hc : c = 48
    ·subst hc
     cases r with
     | nil =>
      clear hall3
      go_wp2_with fail
      go_ret
      exact ⟨rfl, rfl⟩
     | cons d r =>
      have hn : numOk (48 :: d :: r) = false := by simp [numOk]
      have HN := Lib.hid hn
      clear hn hall3
      go_wp2_with fail
      go_ret
      refine ⟨ret_one (congrArg Value.bool HN.out.symm), rfl⟩
    ·have hn : numOk (c :: r) = true := by simp [numOk, hall3, hc]
     have HN := Lib.hid hn
     have h48 : (c == 48) = false := by simp [hc]
     have hcn : ((c.toNat : Int) != 48) = true := by
      rw [bne_iff_ne]; intro h; apply hc; rw [← UInt8.toNat_inj]; show c.toNat = 48; omega
     clear hn hall3
     go_wp2_with fail
     go_ret
     exact ⟨ret_one (congrArg Value.bool HN.out.symm), rfl⟩
def pcode (l : List UInt8) : Int := if numOk l then (if 1200 < l.length then 2 else 0) else 3
def pval (l : List UInt8) : Nat := if numOk l then (if 1200 < l.length then 0 else dnum l) else 0
set_option maxHeartbeats 1000000 in
theorem parse_any (l : List UInt8) (w : World) (hl : l.length ≤ 9223372036854775807) :
  Calls Tryz.prog 159 #[.string ⟨l.toArray⟩] w fun e w' => ∃ r, e = .returned (.tuple #[r, .int .i64 (pcode l)]) ∧ NatIs w' r (pval l) ∧ Below w.heap.size w w' := by
 obtain ⟨w0, hw0⟩ : ∃ w0, w0 = w.alloc (.cells #[.slice none 0 0] 111) := ⟨_, rfl⟩
 have hbel : Below w.heap.size w w0 := by rw [hw0]; exact (Below.refl _ w).alloc (Nat.le_refl _) _
 have hbr : Box w0 w.heap.size (.slice none 0 0) := by rw [hw0]; exact ⟨by go_simp, by go_simp, by simp <;> omega⟩
 have hsz0 : w.heap.size < w0.heap.size := hbr.lt
 have HW := Lib.hid hw0; clear hw0
 have r1 := hbr.cell
 have r2 := hbr.free
 by_cases hok : numOk l = true
 ·by_cases hlen : 1200 < l.length
  ·have hp1 : pcode l = 2 := by unfold pcode; rw [if_pos hok, if_pos hlen]
   have hp2 : pval l = 0 := by unfold pval; rw [if_pos hok, if_pos hlen]
   have H1 := Lib.hid hp1
   have H2 := Lib.hid hp2
   have HO := Lib.hid hok
   clear hp1 hp2 hok
   go_enter Tryz.func159, Tryz.ntmps159
   go_wp2_with fail
   rw [← HW.out]
   refine (number_any l w0 hl).mono ?_
   rintro e w1 ⟨rfl, rfl⟩
   rw [HO.out]
   go_wp2
   refine ret_nat_tmp rfl rfl rfl (cell_set r1) rfl ⟨_, ret_pair (congrArg (Value.int .i64) H1.out.symm), by rw [H2.out]; exact NatIs.zero _, hbel.setCell (p := ⟨w.heap.size, 0, none⟩) (Nat.le_refl _) _⟩
  ·have hp1 : pcode l = 0 := by unfold pcode; rw [if_pos hok, if_neg hlen]
   have hp2 : pval l = dnum l := by unfold pval; rw [if_pos hok, if_neg hlen]
   have H1 := Lib.hid hp1
   have H2 := Lib.hid hp2
   have HO := Lib.hid hok
   have hall : l.all isDig = true := by unfold numOk at hok; rw [Bool.and_eq_true] at hok; exact hok.1
   have HA := Lib.hid hall
   clear hp1 hp2 hok hall
   go_enter Tryz.func159, Tryz.ntmps159
   go_wp2_with fail
   rw [← HW.out]
   refine (number_any l w0 hl).mono ?_
   rintro e w1 ⟨rfl, rfl⟩
   rw [HO.out]
   go_wp2_with fail
   go_loopg [4, 18] l.length (fun gg lv iv wr => ∃ (k : Nat) (xs : List Nat), k + gg = l.length ∧ iv = .int .i64 k ∧ Owns w0.heap.size 228 wr lv (ints .u32 xs) ∧ (∀ x ∈ xs, x < 4294967296) ∧ xs.length ≤ k ∧ val xs = dnum (l.take k) ∧ Below w0.heap.size w0 wr)
   case atStart => exact ⟨0, [], by omega, rfl, Owns.nil _ _ _, by simp, by simp, by simp [val, dnum], Below.refl _ _⟩
   case round =>
    obtain ⟨k, xs, hk, rfl, ho, hx, hxl, hval, hb⟩ := hrel
    have HX := Lib.hid hx
    have HV := Lib.hid hval
    clear hx hval
    by_cases hkl : k < l.length
    ·have hby := byte_at l k hkl (by simpa [ByteArray.size] using hkl)
     have hdg : isDig (l[k]?.getD 0) = true := by
      have h := HA.out
      rw [List.all_eq_true] at h
      rw [List.getElem?_eq_getElem hkl]
      exact h _ (List.getElem_mem hkl)
     have hdn : dnum (l.take (k + 1)) = dnum (l.take k) * 10 + ((l[k]?.getD 0).toNat - 48) := by
      rw [List.take_add_one, List.getElem?_eq_getElem hkl]
      exact dnum_snoc _ _
     have HD := Lib.hid hdn
     clear hdn
     generalize l[k]?.getD 0 = c at *
     have hc1 := isDig_iff.1 hdg
     clear hdg
     have ec : ((c.toNat : Int) - 48) = ((c.toNat - 48 : Nat) : Int) := by omega
     have HE := Lib.hid ec
     clear ec
     go_wp2_with fail
     rw [HE.out]
     refine (more_any w0.heap.size _ xs 10 (c.toNat - 48) wr ho hb.size HX.out (by decide) (by omega) (by omega)).mono ?_
     rintro e w2 ⟨v2, rfl, ho2, hb2⟩
     have hml := moreL_length xs 10 (c.toNat - 48)
     go_wp2_with fail
     go_roundg (gk - 1)
     case measure => omega
     case rel => exact ⟨k + 1, _, by omega, by go_num, ho2, moreL_lt xs 10 (c.toNat - 48) HX.out (by decide) (by omega), by omega, by rw [moreL_val, HV.out, HD.out], hb.trans hb2⟩
    ·obtain rfl : k = l.length := by omega
     obtain ⟨ao, cap, rfl, hc1, hc2, hc3, hc4⟩ := ho.toInts
     have hn := trim_nat (w' := wr) hc4 hc1 HX.out hc2
     have hbox := hbr.kept hb
     generalize hxn : xs.length = xn at *
     have HXN := Lib.hid hxn; clear hxn
     go_wp2_with fail
     rw [← HXN.out]
     refine (trim_any ao cap xs wr hc4 (by rw [HXN.out]; exact hc1) hc2 HX.out).mono ?_
     rintro e w6 ⟨rfl, hb6⟩
     have hn6 := hn.below hb6
     have hbox6 := hbox.kept hb6
     have hv2 : val xs = pval l := by rw [HV.out, H2.out, List.take_length]
     rw [hv2] at hn6 ⊢
     have hc6 := hbox6.cell
     have hf6 := hbox6.free
     have hfin : Below w.heap.size w w6 := hbel.trans ((hb.trans (hb6.mono hb.size)).mono hbel.size)
     clear hn hbox hv2 hc1 hc2 hc3 hc4 ho r1 r2
     go_wp2
     refine ret_nat_tmp rfl rfl rfl (cell_set hc6) rfl ⟨_, ret_pair (congrArg (Value.int .i64) H1.out.symm), hn6.set _ _ (fun n e => by rw [hc6] at e; cases e), hfin.setCell (p := ⟨w.heap.size, 0, none⟩) (Nat.le_refl _) _⟩
 ·have hok' : numOk l = false := by simpa using hok
  have hp1 : pcode l = 3 := by unfold pcode; rw [if_neg hok]
  have hp2 : pval l = 0 := by unfold pval; rw [if_neg hok]
  have H1 := Lib.hid hp1
  have H2 := Lib.hid hp2
  have HO := Lib.hid hok'
  clear hp1 hp2 hok hok'
  go_enter Tryz.func159, Tryz.ntmps159
  go_wp2_with fail
  rw [← HW.out]
  refine (number_any l w0 hl).mono ?_
  rintro e w1 ⟨rfl, rfl⟩
  rw [HO.out]
  go_wp2
  refine ret_nat_tmp rfl rfl rfl (cell_set r1) rfl ⟨_, ret_pair (congrArg (Value.int .i64) H1.out.symm), by rw [H2.out]; exact NatIs.zero _, hbel.setCell (p := ⟨w.heap.size, 0, none⟩) (Nat.le_refl _) _⟩
end Go.Proofs.YtcpfanpcdkoiaaaGreatDoor

namespace Go.Proofs.YtcpfanpcdkoiaaaGreatDoor
open Go.RowKit


attribute [local go_sem] and_low field_nat
theorem bits_any (v : Value) (n : Nat) (w : World) (h : NatIs w v n) (hl : (limbs n).length ≤ 100000000) :
  Calls Tryz.prog 237 #[v] w fun e w' => e = .returned (.int .i64 (blen n : Nat)) ∧ Below w.heap.size w w' := by
 obtain ⟨ao, cap, rfl, h1, h2, h3, h4⟩ := h.open
 obtain ⟨w0, hw0⟩ : ∃ w0, w0 = w.alloc (.cells #[.slice ao (limbs n).length cap] 111) := ⟨_, rfl⟩
 have hbel : Below w.heap.size w w0 := by rw [hw0]; exact (Below.refl _ w).alloc (Nat.le_refl _) _
 have hbr : Box w0 w.heap.size (.slice ao (limbs n).length cap) := by rw [hw0]; exact ⟨by go_simp, by go_simp, by simp <;> omega⟩
 have HW := Lib.hid hw0; clear hw0
 have r1 := hbr.cell
 have hz := zero_any _ n w0 (h.below hbel)
 have HZ := Lib.hid hz; clear hz
 by_cases hn : n = 0
 ·subst hn
  have hd : decide ((0 : Nat) = 0) = true := rfl
  rw [hd] at HZ
  have hb0 := Lib.hid blen_zero
  go_enter Tryz.func237, Tryz.ntmps237
  go_upto_region 1 with fail
  rw [← HW.out]
  go_wp2_with fail
  refine HZ.out.mono ?_
  rintro e w1 ⟨rfl, hb1⟩
  clear hd
  go_wp2
  go_ret
  exact ⟨ret_one (by rw [hb0.out]; rfl), hbel.trans (hb1.mono hbel.size)⟩
 ·have hd : decide (n = 0) = false := by simp [hn]
  rw [hd] at HZ
  obtain ⟨m, hm⟩ := limbs_length_eq (show 0 < n by omega)
  have hbl := Lib.hid (blen_limbs hm)
  have htop := getD_lt (k := m) (limbs_lt n) (by decide)
  rcases h4 with h4 | ⟨b, off, rfl, hb, hc⟩
  ·rw [h4] at hm; simp at hm
  have hcm := hc m (by omega)
  have hle : m < (limbs n).length := by omega
  have HM := Lib.hid hm
  generalize (limbs n)[m]?.getD 0 = t at *
  have hlm : m ≤ 99999999 := by omega
  rw [hm] at HW r1 h1 hbr h ⊢
  clear hd hc hle hm h3
  go_enter Tryz.func237, Tryz.ntmps237
  go_upto_region 1 with fail
  rw [← HW.out]
  go_wp2_with fail
  rw [HM.out] at HZ
  refine HZ.out.mono ?_
  rintro e w1 ⟨rfl, hb1⟩
  have hbr1 := (hbr.kept hb1).cell
  have hc1 : w1.cell? ⟨b, off + m, none⟩ = some (.int .u32 (t : Int)) := ((bcell (hbel.trans (hb1.mono hbel.size))).1 _ _ hb).trans hcm
  clear hcm r1
  go_wp2_with fail
  refine (Tryz.bits_Len32 t w1 (by omega) (by omega)).mono ?_
  rintro e w2 ⟨rfl, rfl⟩
  have hbt : Lib.bitLen ((t : Int)).toNat = blen t := by rw [Int.toNat_natCast]; exact bitLen_blen t (by omega)
  rw [hbt]
  have hble := blen_le (n := t) (k := 32) (by simpa using htop)
  clear hbt
  generalize blen t = bt at *
  go_wp2
  go_ret
  exact ⟨ret_one (by rw [hbl.out]; go_num), hbel.trans (hb1.mono hbel.size)⟩
end Go.Proofs.YtcpfanpcdkoiaaaGreatDoor
namespace Go.Proofs.YtcpfanpcdkoiaaaGreatDoor
open Go.RowKit


attribute [local go_sem] and_low field_nat
theorem at_int (v : Value) (n : Nat) (j : Int) (w : World) (h : NatIs w v n) (h0 : 0 ≤ j) (h1 : j ≤ 9223372036854775807) :
  Calls Tryz.prog 231 #[v, .int .i64 j] w fun e w' => e = .returned (.int .u32 (((limbs n)[j.toNat]?.getD 0 : Nat) : Int)) ∧ Below w.heap.size w w' := by
 obtain ⟨i, rfl⟩ := Int.eq_ofNat_of_zero_le h0
 rw [Int.toNat_natCast]
 exact at_any v n i w h (by omega)
set_option maxHeartbeats 1000000 in
theorem down_any (va : Value) (a k : Nat) (w : World) (ha : NatIs w va a) (hla : (limbs a).length ≤ 1000000) (hk : k ≤ 1000000000) :
  Calls Tryz.prog 244 #[va, .int .i64 (-(k : Int))] w fun e w' => ∃ r, e = .returned r ∧ NatIs w' r (a / 2 ^ k) ∧ Below w.heap.size w w' := by
 obtain ⟨ao, ca, rfl, ha1, ha2, ha3, ha4⟩ := ha.open
 obtain ⟨w0, hw0⟩ : ∃ w0, w0 = (w.alloc (.cells #[.slice ao (limbs a).length ca] 111)).alloc (.cells #[.slice none 0 0] 111) := ⟨_, rfl⟩
 have hbel : Below w.heap.size w w0 := by
  rw [hw0]; exact ((Below.refl _ w).alloc (Nat.le_refl _) _).alloc (by simp <;> omega) _
 have hsz0 : w.heap.size + 2 ≤ w0.heap.size := by rw [hw0]; simp
 have hba : Box w0 w.heap.size (.slice ao (limbs a).length ca) := by
  rw [hw0]; exact ⟨by go_simp, by go_simp, by simp <;> omega⟩
 have hbr : Box w0 (w.heap.size + 1) (.slice none 0 0) := by
  rw [hw0]; exact ⟨by go_simp, by go_simp, by simp <;> omega⟩
 have hca := ha4.below hbel
 have ha0 := ha.below hbel
 have HW := Lib.hid hw0; clear hw0
 have e1 := hba.cell
 have e2 := hbr.cell
 have e3 := hbr.free
 by_cases hbig : 32 * (limbs a).length < k
 ·have hz : a / 2 ^ k = 0 := by
   apply Nat.div_eq_of_lt
   refine Nat.lt_of_lt_of_le (lt_pow_limbs a) ?_
   have : (4294967296 : Nat) ^ (limbs a).length = 2 ^ (32 * (limbs a).length) := by rw [Nat.pow_mul]
   rw [this]
   exact Nat.pow_le_pow_right (by decide) (by omega)
  have HZ := Lib.hid hz; clear hz
  go_enter Tryz.func244, Tryz.ntmps244
  go_upto_region 1 with fail
  rw [← HW.out]
  go_wp2
  exact ret_nat rfl rfl (cell_set e2) rfl ⟨_, rfl, by rw [HZ.out]; exact NatIs.zero _, hbel.setCell (p := ⟨w.heap.size + 1, 0, none⟩) (by simp) _⟩
 ·obtain ⟨q, hq⟩ : ∃ q, q = k / 32 := ⟨_, rfl⟩
  obtain ⟨s, hs⟩ : ∃ s, s = k % 32 := ⟨_, rfl⟩
  have hs32 : s < 32 := by omega
  have hqk : k = 32 * q + s := by omega
  have iq : (k : Int) / 32 = (q : Int) := by omega
  have is : (k : Int) % 32 = (s : Int) := by omega
  have hqle : q ≤ (limbs a).length := by omega
  have HQ := Lib.hid hqk
  clear hq hs hqk
  go_enter Tryz.func244, Tryz.ntmps244
  go_upto_region 1 with fail
  rw [← HW.out]
  go_wp2_with fail
  go_loopg [6, 7] (limbs a).length (fun gg ov iv wr => ∃ (i : Nat), i + gg = q + (limbs a).length ∧ q ≤ i ∧ i ≤ (limbs a).length ∧ iv = .int .i64 i ∧ Owns w0.heap.size 228 wr ov (ints .u32 ((downL s ((limbs a).drop q)).take (i - q))) ∧ Below w0.heap.size w0 wr)
  case atStart => exact ⟨q, rfl, Nat.le_refl _, hqle, rfl, by rw [Nat.sub_self, List.take_zero]; exact Owns.nil _ _ _, Below.refl _ _⟩
  case round =>
   obtain ⟨i, hg, hqi, hil, rfl, ho, hb⟩ := hrel
   by_cases hlt : i < (limbs a).length
   ·have har := ha0.below hb
    have hcr := hca.below hb
    rcases hcr with hcr | ⟨xb, xoff, rfl, hxb, hxc⟩
    ·rw [hcr] at hlt; simp at hlt
    have hxk := hxc i hlt
    have f1 := (hba.kept hb).cell
    have hxB := getD_lt (k := i) (limbs_lt a) (by decide)
    have hyB := getD_lt (k := i + 1) (limbs_lt a) (by decide)
    have HW1 : Hid (IntKind.i64.wrap ((i : Int) + 1) = (i : Int) + 1) := IntWalk.i64_in _ (by omega)
    have hi0 : (0 : Int) ≤ (i : Int) := by omega
    have hi1 : (i : Int) < ((limbs a).length : Int) := by omega
    have htn : (i : Int).toNat = i := by omega
    have hsn := downL_snoc_get s ((limbs a).drop q) (i - q) (by simp; omega)
    rw [List.getElem?_drop, List.getElem?_drop, show q + (i - q) = i by omega, show q + (i - q + 1) = i + 1 by omega, show i - q + 1 = i + 1 - q by omega] at hsn
    have HSN := Lib.hid hsn
    have hi9 : i + 1 ≤ 9223372036854775807 := by omega
    have hle1 : i + 1 - q ≤ (limbs a).length := by omega
    have HX := Lib.hid hxc
    clear hsn hca e1 e2 e3 hxc
    obtain ⟨x, hx⟩ : ∃ x, x = (limbs a)[i]?.getD 0 := ⟨_, rfl⟩
    obtain ⟨y, hy⟩ : ∃ y, y = (limbs a)[i + 1]?.getD 0 := ⟨_, rfl⟩
    rw [← hx] at hxk hxB
    rw [← hy] at hyB
    have HXX := Lib.hid hx
    have HYY := Lib.hid hy
    clear hx hy
    have hor := or_join (y : Int) (x : Int) (by omega) (by omega) (by omega) (by omega)
    go_wp2_with fail
    go_region_held3 (fun w' => w'.cell? ⟨w.heap.size, 0, none⟩ = some (.slice (some ⟨xb, xoff, none⟩) (limbs a).length ca) ∧ w'.cell? ⟨xb, xoff + i, none⟩ = some (.int .u32 (x : Int)) ∧ Below wr.heap.size wr w')
     (first | assumption | exact ⟨f1, hxk, (Below.refl _ _).drew⟩)
     (first
      | (go_at_call 231; (try rw [HW1.out]); refine (at_int _ a _ _ (held2_nat har (by assumption)) (by omega) (by omega)).mono ?_; rintro e w' ⟨rfl, hb'⟩; rw [show ((i : Int) + 1).toNat = i + 1 by omega, ← HYY.out]; have hS := held2 hb' (by assumption)))
    have hbits : bits BinOp.or IntKind.u64 (IntKind.u64.wrap (IntKind.u64.wrap (y : Int) * 4294967296)) (IntKind.u64.wrap (x : Int)) = ((x + 4294967296 * y : Nat) : Int) := by
     rw [IntWalk.u64_in (y : Int) (by omega), IntWalk.u64_in (x : Int) (by omega), IntWalk.u64_in _ (by omega), hor]; omega
    rw [hbits]
    have htwo : x + 4294967296 * y < 18446744073709551616 := by omega
    have hSN2 : (downL s ((limbs a).drop q)).take (i + 1 - q) = (downL s ((limbs a).drop q)).take (i - q) ++ [(x + 4294967296 * y) / 2 ^ s % 4294967296] := by
     rw [HSN.out, HXX.out, HYY.out]
    have HS2 := Lib.hid hSN2
    have hbw : Below w0.heap.size w0 w' := hb.trans (hS.2.2.mono hb.size)
    have ho2 := ho.kept hS.2.2
    clear hbits hor hSN2 HSN hS f1 hxk
    generalize x + 4294967296 * y = two at *
    have hlk := ints_length .u32 ((downL s ((limbs a).drop q)).take (i - q))
    have hll : ((downL s ((limbs a).drop q)).take (i - q)).length ≤ (limbs a).length := by rw [List.length_take, downL_length]; simp; omega
    have hshr := fun (W : World) => run_shr (P := Tryz.prog) W 93 two s (by omega)
    have hone : ints .u32 ((downL s ((limbs a).drop q)).take (i + 1 - q)) = ints .u32 ((downL s ((limbs a).drop q)).take (i - q)) ++ [.int .u32 (((two / 2 ^ s : Nat) : Int) % 4294967296)] := by
     rw [HS2.out, ints_append]; rfl
    have HO := Lib.hid hone
    clear hone
    have hsz2 := hbw.size
    go_wp2_with (at_builtin; refine append1 E32 ho2 rfl rfl rfl rfl rfl (by rw [hlk]; omega) (by rw [hlk]; unfold maxLen; omega) hsz2 ?_; intro v' w5 ho5 hb5 hg5)
    go_roundg (gk - 1)
    case measure => omega
    case rel => exact ⟨i + 1, by omega, by omega, by omega, by go_num, by rw [HO.out]; exact ho5, hbw.trans hb5⟩
   ·obtain rfl : i = (limbs a).length := by omega
    have hzl : ((downL s ((limbs a).drop q)).take ((limbs a).length - q)) = downL s ((limbs a).drop q) := List.take_of_length_le (by rw [downL_length]; simp)
    rw [hzl] at ho
    have hval : val (downL s ((limbs a).drop q)) = a / 2 ^ k := by
     rw [downL_val s (by omega) _ (fun x hx => limbs_lt a x (List.mem_of_mem_drop hx)), val_drop _ _ (limbs_lt a), val_limbs, HQ.out, Nat.pow_add, ← Nat.div_div_eq_div_mul, Nat.pow_mul]
    have hdl := downL_lt s ((limbs a).drop q)
    obtain ⟨oo, oc, rfl, hc1, hc2, hc3, hc4⟩ := ho.toInts
    have hn := trim_nat (w' := wr) hc4 hc1 hdl hc2
    have hbox := hbr.kept hb
    rw [hval] at hn
    generalize hxs : downL s ((limbs a).drop q) = xs at *
    have HV := Lib.hid hval
    clear hzl hval hxs ho
    generalize hxn : xs.length = xn at *
    have HXN := Lib.hid hxn; clear hxn
    have f1 := (hba.kept hb).cell
    clear e1 e2 e3
    go_wp2_with fail
    rw [← HXN.out]
    refine (trim_any oo oc xs wr hc4 (by rw [HXN.out]; exact hc1) hc2 hdl).mono ?_
    rintro e w6 ⟨rfl, hb6⟩
    have hn6 := hn.below hb6
    have hbox6 := hbox.kept hb6
    rw [HV.out]
    have hc6 := hbox6.cell
    have hf6 := hbox6.free
    have hfin : Below w.heap.size w w6 := hbel.trans ((hb.trans (hb6.mono hb.size)).mono hbel.size)
    clear hn hbox hc1 hc2 hc3 hc4 f1
    go_wp2
    exact ret_nat rfl rfl (cell_set hc6) rfl ⟨_, rfl, hn6.set _ _ (fun n e => by rw [hc6] at e; cases e), hfin.setCell (p := ⟨w.heap.size + 1, 0, none⟩) (by simp) _⟩
end Go.Proofs.YtcpfanpcdkoiaaaGreatDoor
namespace Go.Proofs.YtcpfanpcdkoiaaaGreatDoor
open Go.RowKit


attribute [local go_sem] and_low field_nat
theorem or_add {s c x : Nat} (hs : s < 32) (hc : c < 2 ^ s) (hx : x < 4294967296) : bits .or .u64 (c : Int) ((x * 2 ^ s : Nat) : Int) = ((c + x * 2 ^ s : Nat) : Int) := by
 have hb := (up_bound hs hc hx).1
 have h1 : (c : Nat) < 18446744073709551616 := by omega
 have h2 : x * 2 ^ s < 18446744073709551616 := by omega
 have := (bits_nat .u64 64 (by decide) (fun n h0 h1 => by rw [IntKind.wrap_u64]; omega) c (x * 2 ^ s) h1 h2).2
 rw [this, Nat.or_comm, Nat.mul_comm, ← Nat.two_pow_add_eq_or_of_lt hc, Nat.add_comm]
set_option maxHeartbeats 1000000 in
theorem shift_any (va : Value) (a k : Nat) (w : World) (ha : NatIs w va a) (hla : (limbs a).length ≤ 1000000) (hk : k ≤ 20000) :
  Calls Tryz.prog 229 #[va, .int .i64 (k : Int)] w fun e w' => ∃ r, e = .returned r ∧ NatIs w' r (a * 2 ^ k) ∧ Below w.heap.size w w' := by
 obtain ⟨ao, ca, rfl, ha1, ha2, ha3, ha4⟩ := ha.open
 obtain ⟨w0, hw0⟩ : ∃ w0, w0 = (w.alloc (.cells #[.slice ao (limbs a).length ca] 111)).alloc (.cells #[.slice none 0 0] 111) := ⟨_, rfl⟩
 have hbel : Below w.heap.size w w0 := by
  rw [hw0]; exact ((Below.refl _ w).alloc (Nat.le_refl _) _).alloc (by simp <;> omega) _
 have hsz0 : w.heap.size + 2 ≤ w0.heap.size := by rw [hw0]; simp
 have hba : Box w0 w.heap.size (.slice ao (limbs a).length ca) := by
  rw [hw0]; exact ⟨by go_simp, by go_simp, by simp <;> omega⟩
 have hbr : Box w0 (w.heap.size + 1) (.slice none 0 0) := by
  rw [hw0]; exact ⟨by go_simp, by go_simp, by simp <;> omega⟩
 have hca := ha4.below hbel
 have HW := Lib.hid hw0; clear hw0
 have e1 := hba.cell
 obtain ⟨q, hq⟩ : ∃ q, q = k / 32 := ⟨_, rfl⟩
 obtain ⟨s, hs⟩ : ∃ s, s = k % 32 := ⟨_, rfl⟩
 have hs32 : s < 32 := by omega
 have hqk : k = 32 * q + s := by omega
 have iq : (k : Int) / 32 = (q : Int) := by omega
 have is : (k : Int) % 32 = (s : Int) := by omega
 have hq9 : q ≤ 625 := by omega
 have hmin : min (k : Int) 20000 = (k : Int) := by omega
 have HQ := Lib.hid hqk
 have hxB := limbs_lt a
 have hst := UpInv.start s (limbs a)
 have hcast : ((q : Int) + ((limbs a).length : Int) + 1) = ((q + (limbs a).length + 1 : Nat) : Int) := by omega
 have HC := Lib.hid hcast
 clear hq hs hqk ha ha4 hcast
 go_enter Tryz.func229, Tryz.ntmps229
 go_upto_region 1 with fail
 rw [← HW.out]
 go_wp2_with (at_make; refine makeLC E32 (l := q) (c := q + (limbs a).length + 1) rfl rfl rfl rfl (by omega) (by omega) (by omega) (by omega) (by unfold maxLen; omega) ?_; intro w1 ho hb1; have e3 := (hba.kept hb1).cell)
 have ho0 : Owns w0.heap.size 228 w1 (.slice (some ⟨w0.heap.size, 0, none⟩) q (q + (limbs a).length + 1)) (ints .u32 (List.replicate q 0 ++ [])) := by rw [List.append_nil]; exact ho
 go_loopg [5, 6, 29] (limbs a).length (fun gg ov cv iv wr => ∃ (i c : Nat) (zs : List Nat), i + gg = (limbs a).length ∧ iv = .int .i64 i ∧ cv = .int .u64 c ∧ UpInv s (limbs a) i c zs ∧ Owns w0.heap.size 228 wr ov (ints .u32 (List.replicate q 0 ++ zs)) ∧ Below w0.heap.size w0 wr)
 case atStart => exact ⟨0, 0, [], by omega, rfl, rfl, hst, ho0, hb1⟩
 case round =>
  obtain ⟨i, c, zs, hi, rfl, rfl, hinv, hoo, hb⟩ := hrel
  have hzl := hinv.len
  have hcc := hinv.car
  have hlk : (ints .u32 (List.replicate q 0 ++ zs)).length = q + i := by rw [ints_length, List.length_append, List.length_replicate, hzl]
  have hszb := hb.size
  have hp31 : 2 ^ s ≤ 2147483648 := by
   have : 2 ^ s ≤ 2 ^ 31 := Nat.pow_le_pow_right (by decide) (by omega)
   simpa using this
  by_cases hlt : i < (limbs a).length
  ·have hcr := hca.below hb
   rcases hcr with hcr | ⟨xb, xoff, rfl, hxb, hxc⟩
   ·rw [hcr] at hlt; simp at hlt
   have hxk := hxc i hlt
   have hxl := getD_lt (k := i) hxB (by decide)
   have hnx := hinv.next hs32 hxB
   generalize (limbs a)[i]?.getD 0 = x at *
   have hub := up_bound hs32 hcc hxl
   have hor := or_add hs32 hcc hxl
   have hwr : IntKind.u64.wrap ((x : Int) * 2 ^ s) = ((x * 2 ^ s : Nat) : Int) := by
    have e : (x : Int) * 2 ^ s = ((x * 2 ^ s : Nat) : Int) := by simp
    rw [e]; exact IntWalk.u64_in _ (by omega)
   have hone : ints .u32 (List.replicate q 0 ++ (zs ++ [(c + x * 2 ^ s) % 4294967296])) = ints .u32 (List.replicate q 0 ++ zs) ++ [.int .u32 (((c + x * 2 ^ s : Nat) : Int) % 4294967296)] := by
    rw [← List.append_assoc, ints_append]; rfl
   have HN := Lib.hid hnx
   have HO := Lib.hid hone
   have HZ := Lib.hid hzl
   clear hnx hone hzl hinv hxc e1 e3 hst ho ho0 hp31
   generalize x * 2 ^ s = xs at *
   generalize c + xs = cx at *
   go_wp2_with (at_builtin; refine append1 E32 hoo rfl rfl rfl rfl rfl (by rw [hlk]; omega) (by rw [hlk]; unfold maxLen; omega) hszb ?_; intro v' w5 ho5 hb5 hg5)
   go_roundg (gk - 1)
   case measure => omega
   case rel => exact ⟨i + 1, _, _, by omega, by go_num, by go_num, HN.out, by rw [HO.out]; exact ho5, hb.trans hb5⟩
  ·obtain rfl : i = (limbs a).length := by omega
   have hval := hinv.done q
   rw [val_limbs, ← HQ.out] at hval
   have hlt2 : ∀ z ∈ List.replicate q 0 ++ (zs ++ [c]), z < 4294967296 := by
    intro z hz
    rcases List.mem_append.1 hz with h | h
    ·rw [List.eq_of_mem_replicate h]; decide
    ·rcases List.mem_append.1 h with h | h
     ·exact hinv.lt z h
     ·simp at h; omega
   have hc32 : c < 4294967296 := by omega
   have hone : ints .u32 (List.replicate q 0 ++ zs) ++ [.int .u32 (c : Int)] = ints .u32 (List.replicate q 0 ++ (zs ++ [c])) := by
    rw [← List.append_assoc, ints_append _ _ [c]]; rfl
   have HO := Lib.hid hone
   have HV := Lib.hid hval
   have HZ := Lib.hid hzl
   have hbox := hbr.kept hb
   clear hone hval hzl hinv e1 e3 hst ho ho0 hp31 hca
   go_wp2_with (at_builtin; refine append1 E32 hoo rfl rfl rfl rfl rfl (by rw [hlk]; omega) (by rw [hlk]; unfold maxLen; omega) hszb ?_; intro v' w5 ho5 hb5 hg5)
   rw [HO.out] at ho5
   generalize List.replicate q 0 ++ (zs ++ [c]) = xs at *
   have hbox5 := hbox.below hb5 (by omega)
   have hb05 := hb.trans hb5
   obtain ⟨oo, oc, rfl, hc1, hc2, hc3, hc4⟩ := ho5.toInts
   have hn := trim_nat (w' := w5) hc4 hc1 hlt2 hc2
   rw [HV.out] at hn
   refine (trim_any oo oc xs w5 hc4 hc1 hc2 hlt2).mono ?_
   rintro e w6 ⟨rfl, hb6⟩
   have hn6 := hn.below hb6
   have hbox6 := hbox5.kept hb6
   rw [HV.out]
   have hc6 := hbox6.cell
   have hf6 := hbox6.free
   have hfin : Below w.heap.size w w6 := hbel.trans ((hb05.trans (hb6.mono hb05.size)).mono hbel.size)
   clear hn hbox hc1 hc2 hc3 hc4
   go_wp2
   exact ret_nat rfl rfl (cell_set hc6) rfl ⟨_, rfl, hn6.set _ _ (fun n e => by rw [hc6] at e; cases e), hfin.setCell (p := ⟨w.heap.size + 1, 0, none⟩) (by simp) _⟩
theorem shift_neg (va : Value) (a k : Nat) (w : World) (ha : NatIs w va a) (hla : (limbs a).length ≤ 1000000) (hk : k ≤ 1000000000) (hk0 : 0 < k) :
  Calls Tryz.prog 229 #[va, .int .i64 (-(k : Int))] w fun e w' => ∃ r, e = .returned r ∧ NatIs w' r (a / 2 ^ k) ∧ Below w.heap.size w w' := by
 obtain ⟨ao, ca, rfl, ha1, ha2, ha3, ha4⟩ := ha.open
 obtain ⟨w0, hw0⟩ : ∃ w0, w0 = (w.alloc (.cells #[.slice ao (limbs a).length ca] 111)).alloc (.cells #[.slice none 0 0] 111) := ⟨_, rfl⟩
 have hbel : Below w.heap.size w w0 := by
  rw [hw0]; exact ((Below.refl _ w).alloc (Nat.le_refl _) _).alloc (by simp <;> omega) _
 have hba : Box w0 w.heap.size (.slice ao (limbs a).length ca) := by
  rw [hw0]; exact ⟨by go_simp, by go_simp, by simp <;> omega⟩
 have hbr : Box w0 (w.heap.size + 1) (.slice none 0 0) := by
  rw [hw0]; exact ⟨by go_simp, by go_simp, by simp <;> omega⟩
 have ha0 := ha.below hbel
 have HW := Lib.hid hw0; clear hw0
 have e1 := hba.cell
 have hneg : -(k : Int) < 0 := by omega
 go_enter Tryz.func229, Tryz.ntmps229
 go_upto_region 1 with fail
 rw [← HW.out]
 go_wp2_with fail
 refine (down_any _ a k w0 ha0 hla hk).mono ?_
 rintro e w1 ⟨r, rfl, hn, hb1⟩
 obtain ⟨sv, rfl, hi⟩ := hn
 have hbox := hbr.kept hb1
 have hc6 := hbox.cell
 have hf6 := hbox.free
 have hn : NatIs w1 (.agg #[sv]) (a / 2 ^ k) := ⟨sv, rfl, hi⟩
 have hfin := hbel.trans (hb1.mono hbel.size)
 obtain ⟨oo, oc, rfl, _, _, _, _⟩ := hi
 clear e1
 go_wp2
 exact ret_nat rfl rfl (cell_set hc6) rfl ⟨_, rfl, hn.set _ _ (fun n e => by rw [hc6] at e; cases e), hfin.setCell (p := ⟨w.heap.size + 1, 0, none⟩) (by simp) _⟩
end Go.Proofs.YtcpfanpcdkoiaaaGreatDoor
