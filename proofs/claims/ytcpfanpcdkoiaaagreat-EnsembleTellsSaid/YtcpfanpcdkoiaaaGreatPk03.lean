/-
  Pk03: NatN2 (what is needed of them).
-/
import Derived.Test.YtcpfanpcdkoiaaaGreatPk00
import Derived.Test.YtcpfanpcdkoiaaaGreatPk01
import Derived.Test.YtcpfanpcdkoiaaaGreatPk02
import Derived.Deep.LoopGhost
import Derived.Deep.DeepCutAuto
import Derived.Deep.RegionHeld3
set_option maxRecDepth 100000
set_option linter.unusedVariables false
set_option linter.unusedSimpArgs false

namespace Go.Proofs.YtcpfanpcdkoiaaaGreat
open Go.RowKit


attribute [local go_sem] and_low field_nat
def AddCut (w : World) (a b : Nat) (wx : World) : Prop :=
 ∃ x y ax cx ay cy, wx.cell? ⟨w.heap.size, 0, none⟩ = some (.slice ax (limbs x).length cx) ∧ wx.cell? ⟨w.heap.size + 1, 0, none⟩ = some (.slice ay (limbs y).length cy) ∧
  Box wx (w.heap.size + 2) (.slice none 0 0) ∧ Cells .u32 wx ax (limbs x) ∧ (limbs x).length ≤ cx ∧ cx ≤ 9223372036854775807 ∧ (ax = none → cx = 0) ∧ Cells .u32 wx ay (limbs y) ∧ (limbs y).length ≤ cy ∧ cy ≤ 9223372036854775807 ∧
  (limbs y).length ≤ (limbs x).length ∧ (limbs x).length ≤ 100000000 ∧ x + y = a + b ∧ Below w.heap.size w wx ∧ w.heap.size + 3 ≤ wx.heap.size
set_option maxHeartbeats 1000000 in
theorem add_any (va vb : Value) (a b : Nat) (w : World) (ha : NatIs w va a) (hb : NatIs w vb b) (hla : (limbs a).length ≤ 100000000) (hlb : (limbs b).length ≤ 100000000) :
  Calls Tryz.prog 194 #[va, vb] w fun e w' => ∃ r, e = .returned r ∧ NatIs w' r (a + b) ∧ Below w.heap.size w w' := by
 obtain ⟨ao, ca, rfl, ha1, ha2, ha3, ha4⟩ := ha.open
 obtain ⟨bo, cb, rfl, hb1, hb2, hb3, hb4⟩ := hb.open
 go_enter Tryz.func194, Tryz.ntmps194
 go_wp2_with fail
 go_step3
 go_upto_if 14 with fail
 go_cut [] (fun wx => AddCut w a b wx)
 case first =>
  have hbel : Below w.heap.size w (((w.alloc (.cells #[.slice ao (limbs a).length ca] 180)).alloc (.cells #[.slice bo (limbs b).length cb] 180)).alloc (.cells #[.slice none 0 0] 180)) :=
   (((Below.refl _ w).alloc (Nat.le_refl _) _).alloc (by simp <;> omega) _).alloc (by simp <;> omega) _
  have hca := ha4.below hbel
  have hcb := hb4.below hbel
  by_cases hlt : (limbs a).length < (limbs b).length
  ·go_wp2
   go_meet
   have hfin := ((((Below.refl _ w).alloc (Nat.le_refl _) (.cells #[.slice bo (limbs b).length cb] 180)).alloc (by simp <;> omega) (.cells #[.slice ao (limbs a).length ca] 180)).alloc (by simp <;> omega) (.cells #[.slice none 0 0] 180))
   exact ⟨b, a, bo, cb, ao, ca, by go_simp, by go_simp, ⟨by go_simp, by go_simp, by simp [World.setCell]⟩, hb4.below hfin, hb1, hb2, hb3, ha4.below hfin, ha1, ha2, by omega, hlb, by omega, hfin, by simp [World.setCell] <;> omega⟩
  ·go_wp2
   go_meet
   exact ⟨a, b, ao, ca, bo, cb, by go_simp, by go_simp, ⟨by go_simp, by go_simp, by simp⟩, hca, ha1, ha2, ha3, hcb, hb1, hb2, by omega, hla, rfl, hbel, by simp <;> omega⟩
 case rest =>
  clear ha ha1 ha2 ha3 ha4 hb hb1 hb2 hb3 hb4 hla hlb
  obtain ⟨x, y, ax, cx, ay, cy, hbx, hby, hbr, hcx, hx1, hx2, hx3, hcy, hy1, hy2, hyx, hxl, hsum, hbel, hsz⟩ := hcut
  have HSum := Lib.hid hsum; clear hsum
  have hbr' := hbr.cell
  have hbf := hbr.free
  go_wp2_with fail
  refine (clone_any ax cx (limbs x) wc hcx hx1 (by unfold maxLen; omega) hx3 (by omega)).mono ?_
  rintro e w1 ⟨v, rfl, ho, hb1⟩
  have hil := ints_length .u32 (limbs x)
  go_wp2_with (at_builtin; refine append1 E32 ho rfl rfl rfl rfl rfl (by rw [hil]; omega) (by rw [hil]; unfold maxLen; omega) hb1.size ?_; intro v' w2 ho2 hb2 _)
  have hone : ints .u32 (limbs x) ++ [.int .u32 0] = ints .u32 (limbs x ++ [0]) := by simp [ints]
  rw [hone] at ho2
  rcases ho2.shape with ⟨_, hnil⟩ | ⟨g, cap, rfl, hg, hgw, hcap, hcapm, _, _⟩
  ·simp [ints] at hnil
  have hln : (ints .u32 (limbs x ++ [0])).length = (limbs x).length + 1 := by simp [ints]
  rw [hln] at hcap ho2 ⊢
  have hb02 : Below wc.heap.size wc w2 := hb1.trans hb2
  have hm := ho2.mut
  unfold maxLen at hcapm
  have hbl := hbel.size
  clear hbx hcx hx1 hx2 hx3 hbr' hbf ho hb1 hil hb2 hone ho2 hln
  have hxB := limbs_lt x
  have hyB := limbs_lt y
  have hxB2 : ∀ z ∈ limbs x ++ [0], z < 4294967296 := by
   intro z hz
   rcases List.mem_append.1 hz with h | h
   ·exact hxB z h
   ·simp at h; omega
  have hst := AddInv.start (ys := limbs y) hxB2
  go_wp2_with fail
  go_step3
  go_wp2_with fail
  go_loopg [6, 24] ((limbs x).length + 1) (fun gg cv iv wr => ∃ (k c : Nat) (zs : List Nat), k + gg = (limbs x).length + 1 ∧ iv = .int .i64 k ∧ cv = .int .u64 c ∧ AddInv (limbs x ++ [0]) (limbs y) k c zs ∧ Mut .u32 wr g 0 zs ∧ Below wc.heap.size wc wr)
  case atStart => exact ⟨0, 0, _, by omega, rfl, rfl, hst, hm, hb02⟩
  case round =>
   obtain ⟨k, c, zs, hk, rfl, rfl, hinv, hmz, hbr0⟩ := hrel
   have hbyr : wr.cell? ⟨w.heap.size + 1, 0, none⟩ = some (.slice ay (limbs y).length cy) := ((bcell hbr0).1 _ _ (by omega)).trans hby
   have hzl : zs.length = (limbs x).length + 1 := by rw [hinv.len]; simp
   have hcar := hinv.car
   by_cases hkn : k < (limbs x).length + 1
   ·have hzk := hmz.cell k (by omega)
    have hfk := hmz.free k (by omega)
    rw [Nat.zero_add] at hzk hfk
    have hzB := getD_lt (k := k) hinv.lt (by decide)
    have hnx := hinv.next hyB (by simp; omega)
    have hms := hmz.set k ((c + (limbs y)[k]?.getD 0 + zs[k]?.getD 0) % 4294967296) (by omega)
    rw [Nat.zero_add] at hms
    by_cases hky : k < (limbs y).length
    ·have hcyr := hcy.below hbr0
     rcases hcyr with hcyr | ⟨yb, yoff, rfl, hyb, hyc⟩
     ·rw [hcyr] at hky; simp at hky
     have hyk := hyc k hky
     have hyB2 := getD_lt (k := k) hyB (by decide)
     generalize zs[k]?.getD 0 = z at *
     generalize (limbs y)[k]?.getD 0 = yy at *
     have HN := Lib.hid hnx
     have HM := Lib.hid hms
     have HL := Lib.hid hzl
     clear hyc hinv hnx hms hzl hmz hst hm hcy hb02 hby
     go_wp2_with fail
     go_roundg (gk - 1)
     case measure => omega
     case rel => exact ⟨k + 1, _, _, by omega, by go_num, by go_num, HN.out, HM.out, hbr0.setCell (by exact hg) _⟩
    ·have hy0 : (limbs y)[k]?.getD 0 = 0 := by rw [List.getElem?_eq_none (by omega)]; rfl
     rw [hy0, Nat.add_zero] at hnx hms
     have HL := Lib.hid hzl
     by_cases hc0 : c = 0
     ·subst hc0
      clear hy0 hnx hms hst hzk hfk
      have hval : val zs = x + y := by
       have := hinv.broke (by omega)
       rwa [val_limbs, val_limbs] at this
      rw [HSum.out] at hval
      have hzB3 := hinv.lt
      have hn := trim_nat (cap := cap) (w' := wr) hmz.cells (by rw [hzl]; exact hcap) hzB3 (by unfold maxLen; omega)
      have hcl := hmz.cells
      have hzc : zs.length ≤ cap := by rw [hzl]; exact hcap
      have hbox := hbr.below hbr0 (by omega)
      have HZL := Lib.hid hzl
      have HV := Lib.hid hval
      clear hzl hval
      go_wp2_with fail
      rw [← HZL.out]
      refine (trim_any (some ⟨g, 0, none⟩) cap zs wr hcl hzc (by unfold maxLen; omega) hzB3).mono ?_
      rintro e w6 ⟨rfl, hb6⟩
      have hn6 := hn.below hb6
      have hbox6 := hbox.kept hb6
      rw [HV.out] at hn6 ⊢
      have hc6 := hbox6.cell
      have hf6 := hbox6.free
      have hfin : Below w.heap.size w w6 := hbel.trans ((hbr0.trans (hb6.mono hbr0.size)).mono hbel.size)
      clear hmz hinv hn hcl hbox
      go_wp2
      rw [Exit.noGoto_ret]
      refine ret_nat rfl rfl (cell_set hc6) rfl ⟨_, rfl, hn6.set _ _ (fun n e => by rw [hc6] at e; cases e), hfin.setCell (p := ⟨w.heap.size + 2, 0, none⟩) (by simp) _⟩
     ·have hcp : 0 < c := by omega
      generalize zs[k]?.getD 0 = z at *
      have HN := Lib.hid hnx
      have HM := Lib.hid hms
      clear hy0 hinv hnx hms hzl hmz hst hm hcy hb02 hby
      go_wp2_with fail
      go_roundg (gk - 1)
      case measure => omega
      case rel => exact ⟨k + 1, _, _, by omega, by go_num, by go_num, HN.out, HM.out, hbr0.setCell (by exact hg) _⟩
   ·obtain rfl : k = (limbs x).length + 1 := by omega
    have hval : val zs = x + y := by
     have := hinv.done hxB hyB hyx
     rwa [val_limbs, val_limbs] at this
    rw [HSum.out] at hval
    have hzB3 := hinv.lt
    have hn := trim_nat (cap := cap) (w' := wr) hmz.cells (by rw [hzl]; exact hcap) hzB3 (by unfold maxLen; omega)
    have hcl := hmz.cells
    have hzc : zs.length ≤ cap := by rw [hzl]; exact hcap
    have hbox := hbr.below hbr0 (by omega)
    have HZL := Lib.hid hzl
    have HV := Lib.hid hval
    clear hzl hval
    go_wp2_with fail
    rw [← HZL.out]
    refine (trim_any (some ⟨g, 0, none⟩) cap zs wr hcl hzc (by unfold maxLen; omega) hzB3).mono ?_
    rintro e w6 ⟨rfl, hb6⟩
    have hn6 := hn.below hb6
    have hbox6 := hbox.kept hb6
    rw [HV.out] at hn6 ⊢
    have hc6 := hbox6.cell
    have hf6 := hbox6.free
    have hfin : Below w.heap.size w w6 := hbel.trans ((hbr0.trans (hb6.mono hbr0.size)).mono hbel.size)
    clear hmz hinv hn hcl hbox
    go_wp2
    rw [Exit.noGoto_ret]
    refine ret_nat rfl rfl (cell_set hc6) rfl ⟨_, rfl, hn6.set _ _ (fun n e => by rw [hc6] at e; cases e), hfin.setCell (p := ⟨w.heap.size + 2, 0, none⟩) (by simp) _⟩
end Go.Proofs.YtcpfanpcdkoiaaaGreat
namespace Go.Proofs.YtcpfanpcdkoiaaaGreat
open Go.RowKit


attribute [local go_sem] and_low field_nat
def EqFrom (xs ys : List Nat) (k : Nat) : Prop := ∀ j : Nat, k ≤ j → xs[j]?.getD 0 = ys[j]?.getD 0
theorem EqFrom.start (xs ys : List Nat) (k : Nat) (h1 : xs.length ≤ k) (h2 : ys.length ≤ k) : EqFrom xs ys k := fun j hj => by
 rw [List.getElem?_eq_none (by omega), List.getElem?_eq_none (by omega)]
theorem cmp_lt {a b k : Nat} (h : EqFrom (limbs a) (limbs b) (k + 1)) (hk : (limbs a)[k]?.getD 0 < (limbs b)[k]?.getD 0) : cmpI a b = -1 := by
 have := val_lt_of_top (limbs_lt a) (limbs_lt b) (fun j hj => h j hj) hk
 rw [val_limbs, val_limbs] at this
 unfold cmpI; rw [if_pos this]
theorem cmp_gt {a b k : Nat} (h : EqFrom (limbs a) (limbs b) (k + 1)) (hk : (limbs b)[k]?.getD 0 < (limbs a)[k]?.getD 0) : cmpI a b = 1 := by
 have := val_lt_of_top (limbs_lt b) (limbs_lt a) (fun j hj => (h j hj).symm) hk
 rw [val_limbs, val_limbs] at this
 unfold cmpI; rw [if_neg (by omega), if_pos this]
theorem cmp_eq {a b : Nat} (h : EqFrom (limbs a) (limbs b) 0) : cmpI a b = 0 := by
 have := val_ext (n := (limbs a).length + (limbs b).length) (by omega) (by omega) (fun j => h j (Nat.zero_le _))
 rw [val_limbs, val_limbs] at this
 unfold cmpI; rw [if_neg (by omega), if_neg (by omega)]
theorem held_next {wr w1 w2 : World} {p q : Nat} {u v : Value} (hb : Below w1.heap.size w1 w2) (h : w1.cell? ⟨p, 0, none⟩ = some u ∧ w1.cell? ⟨q, 0, none⟩ = some v ∧ Below wr.heap.size wr w1) :
  w2.cell? ⟨p, 0, none⟩ = some u ∧ w2.cell? ⟨q, 0, none⟩ = some v ∧ Below wr.heap.size wr w2 :=
 ⟨(hb.cell (p := ⟨p, 0, none⟩) (World.block_lt_of_cell? w1 ⟨p, 0, none⟩ h.1)).trans h.1, (hb.cell (p := ⟨q, 0, none⟩) (World.block_lt_of_cell? w1 ⟨q, 0, none⟩ h.2.1)).trans h.2.1, h.2.2.trans (hb.mono h.2.2.size)⟩
theorem held_nat {wr w1 : World} {p q : Nat} {u v x : Value} {n : Nat} (hn : NatIs wr x n) (h : w1.cell? ⟨p, 0, none⟩ = some u ∧ w1.cell? ⟨q, 0, none⟩ = some v ∧ Below wr.heap.size wr w1) : NatIs w1 x n := hn.below h.2.2
set_option maxHeartbeats 1000000 in
theorem cmp_any (va vb : Value) (a b : Nat) (w : World) (ha : NatIs w va a) (hb : NatIs w vb b) :
  Calls Tryz.prog 204 #[va, vb] w fun e w' => e = .returned (.int .i64 (cmpI a b)) ∧ Below w.heap.size w w' := by
 obtain ⟨ao, ca, rfl, ha1, ha2, ha3, ha4⟩ := ha.open
 obtain ⟨bo, cb, rfl, hb1, hb2, hb3, hb4⟩ := hb.open
 obtain ⟨m, hm⟩ : ∃ m, m = max (limbs a).length (limbs b).length := ⟨_, rfl⟩
 have hm1 : (limbs a).length ≤ m := by omega
 have hm2 : (limbs b).length ≤ m := by omega
 have hm3 : m ≤ 9223372036854775807 := by omega
 have hst := EqFrom.start _ _ m hm1 hm2
 have HM := Lib.hid hm
 have hla : (limbs a).length ≤ 9223372036854775807 := by omega
 have hlb : (limbs b).length ≤ 9223372036854775807 := by omega
 clear hm ha1 ha2 ha3 ha4 hb1 hb2 hb3 hb4 hm1 hm2
 have HS := Lib.hid hst; clear hst
 go_enter Tryz.func204, Tryz.ntmps204
 obtain ⟨w0, hw0⟩ : ∃ w0, w0 = (w.alloc (.cells #[.slice ao (limbs a).length ca] 180)).alloc (.cells #[.slice bo (limbs b).length cb] 180) := ⟨_, rfl⟩
 have hbel : Below w.heap.size w w0 := by
  rw [hw0]; exact ((Below.refl _ w).alloc (Nat.le_refl _) _).alloc (by simp <;> omega) _
 have hsz0 : w0.heap.size = w.heap.size + 2 := by rw [hw0]; simp
 have hba : Box w0 w.heap.size (.slice ao (limbs a).length ca) := by
  rw [hw0]; exact ⟨by go_simp, by go_simp, by simp <;> omega⟩
 have hbb : Box w0 (w.heap.size + 1) (.slice bo (limbs b).length cb) := by
  rw [hw0]; exact ⟨by go_simp, by go_simp, by simp <;> omega⟩
 have ha0 := ha.below hbel
 have hb0 := hb.below hbel
 have HW := Lib.hid hw0; clear hw0
 have HSZ := Lib.hid hsz0
 go_wp2
 all_goals
  go_loopg [5] m (fun gg iv wr => gg ≤ 9223372036854775807 ∧ iv = .int .i64 ((gg : Int) - 1) ∧ EqFrom (limbs a) (limbs b) gg ∧ Below w0.heap.size w0 wr)
  case atStart =>
   refine ⟨hm3, congrArg (Value.int .i64) ?_, HS.out, by rw [HW.out]; exact Below.refl _ _⟩
   have := HM.out
   omega
  case round =>
   obtain ⟨hgg, rfl, heq, hbr⟩ := hrel
   have HE := Lib.hid heq; clear heq
   rcases Nat.eq_zero_or_pos gk with rfl | hpos
   ·go_wp2
    go_ret
    exact ⟨ret_one (congrArg (Value.int .i64) (cmp_eq HE.out).symm), hbel.trans (hbr.mono hbel.size)⟩
   ·obtain ⟨k, rfl⟩ : ∃ k, gk = k + 1 := ⟨gk - 1, by omega⟩
    have har := ha0.below hbr
    have hbr' := hb0.below hbr
    have hbar := hba.kept hbr
    have hbbr := hbb.kept hbr
    have e1 := hbar.cell
    have e2 := hbbr.cell
    have ek : ((k + 1 : Nat) : Int) - 1 = (k : Int) := by omega
    rw [ek]
    have hk9 : k ≤ 9223372036854775807 := by omega
    clear HW HM HS ek
    go_wp2_with fail
    go_region_held3 (fun w' => w'.cell? ⟨w.heap.size, 0, none⟩ = some (.slice ao (limbs a).length ca) ∧ w'.cell? ⟨w.heap.size + 1, 0, none⟩ = some (.slice bo (limbs b).length cb) ∧ Below wr.heap.size wr w')
     (first | assumption | exact ⟨e1, e2, (Below.refl _ _).drew⟩)
     (first
      | (go_at_call_of 205 (Value.slice ao (limbs a).length ca); refine (at_any _ a k _ (held_nat har (by assumption)) hk9).mono ?_; rintro e w' ⟨rfl, hb'⟩; have hS := held_next hb' (by assumption))
      | (go_at_call_of 205 (Value.slice bo (limbs b).length cb); refine (at_any _ b k _ (held_nat hbr' (by assumption)) hk9).mono ?_; rintro e w' ⟨rfl, hb'⟩; have hS := held_next hb' (by assumption)))
    have hw3 := hS.2.2
    have hwb := hbr.trans (hw3.mono hbr.size)
    have hwf := hbel.trans (hwb.mono hbel.size)
    have hlt0 := fun h : (limbs a)[k]?.getD 0 < (limbs b)[k]?.getD 0 => cmp_lt HE.out h
    have hgt0 := fun h : (limbs b)[k]?.getD 0 < (limbs a)[k]?.getD 0 => cmp_gt HE.out h
    have heq0 : (limbs a)[k]?.getD 0 = (limbs b)[k]?.getD 0 → EqFrom (limbs a) (limbs b) k := fun h j hj => by
     rcases Nat.lt_or_ge k j with h1 | h1
     ·exact HE.out j h1
     ·obtain rfl : j = k := by omega
      exact h
    have HL := Lib.hid hlt0
    have HG := Lib.hid hgt0
    have HQ := Lib.hid heq0
    generalize (limbs a)[k]?.getD 0 = xa at *
    generalize (limbs b)[k]?.getD 0 = xb at *
    clear hlt0 hgt0 heq0 HE hS hw3
    by_cases hlt : xa < xb
    ·go_wp2
     go_ret
     exact ⟨ret_one (congrArg (Value.int .i64) (HL.out hlt).symm), hwf⟩
    ·by_cases hgt : xb < xa
     ·go_wp2
      go_ret
      exact ⟨ret_one (congrArg (Value.int .i64) (HG.out hgt).symm), hwf⟩
     ·go_wp2
      go_roundg k
      case measure => omega
      case rel => exact ⟨hk9, rfl, HQ.out (by omega), hwb⟩
end Go.Proofs.YtcpfanpcdkoiaaaGreat
namespace Go.Proofs.YtcpfanpcdkoiaaaGreat
open Go.RowKit


attribute [local go_sem] and_low field_nat
theorem and_one (x : Int) : bits .and .u64 x 1 = x % 2 := by
 obtain ⟨a, ha⟩ := Int.eq_ofNat_of_zero_le (Int.emod_nonneg x (show (18446744073709551616 : Int) ≠ 0 by decide))
 have hlt : a < 18446744073709551616 := by omega
 have e : BitVec.ofInt 64 x = BitVec.ofInt 64 (a : Int) := by
  apply BitVec.eq_of_toInt_eq
  simp only [BitVec.toInt_ofInt, Int.bmod_def]
  omega
 have e1 : bits .and .u64 x 1 = bits .and .u64 (a : Int) 1 := by
  simp only [bits, IntKind.bits] at *
  rw [e]
 have e2 : bits .and .u64 (a : Int) 1 = (a : Int) % 2 := bits_mask .u64 64 (by decide) (fun n h0 h1 => by rw [IntKind.wrap_u64]; omega) 1 (by decide) a (by omega) (by omega)
 rw [e1, e2]
 omega
attribute [local go_sem] and_one
theorem sub_car {z t : Nat} (hz : z < 4294967296) (ht : t ≤ 4294967296) : IntKind.u64.wrap ((z : Int) - (t : Int)) / 4294967296 % 2 = ((subC z t : Nat) : Int) := by
 rw [IntKind.wrap_u64]; unfold subC; split <;> omega
theorem sub_val {z t : Nat} (hz : z < 4294967296) (ht : t ≤ 4294967296) : IntKind.u64.wrap ((z : Int) - (t : Int)) % 4294967296 = ((subV z t : Nat) : Int) := by
 rw [IntKind.wrap_u64]; unfold subV; split <;> omega
set_option maxHeartbeats 1000000 in
theorem sub_any (va vb : Value) (a b : Nat) (w : World) (ha : NatIs w va a) (hb : NatIs w vb b) (hla : (limbs a).length ≤ 100000000) :
  Calls Tryz.prog 195 #[va, vb] w fun e w' => ∃ r, e = .returned (.tuple #[r, .bool (decide (b ≤ a))]) ∧ NatIs w' r (a - b) ∧ Below w.heap.size w w' := by
 obtain ⟨ao, ca, rfl, ha1, ha2, ha3, ha4⟩ := ha.open
 obtain ⟨bo, cb, rfl, hb1, hb2, hb3, hb4⟩ := hb.open
 obtain ⟨w0, hw0⟩ : ∃ w0, w0 = ((w.alloc (.cells #[.slice ao (limbs a).length ca] 180)).alloc (.cells #[.slice bo (limbs b).length cb] 180)).alloc (.cells #[.slice none 0 0] 180) := ⟨_, rfl⟩
 have hbel : Below w.heap.size w w0 := by
  rw [hw0]; exact (((Below.refl _ w).alloc (Nat.le_refl _) _).alloc (by simp <;> omega) _).alloc (by simp <;> omega) _
 have hsz0 : w0.heap.size = w.heap.size + 3 := by rw [hw0]; simp
 have hba : Box w0 w.heap.size (.slice ao (limbs a).length ca) := by
  rw [hw0]; exact ⟨by go_simp, by go_simp, by simp <;> omega⟩
 have hbb : Box w0 (w.heap.size + 1) (.slice bo (limbs b).length cb) := by
  rw [hw0]; exact ⟨by go_simp, by go_simp, by simp <;> omega⟩
 have hbr : Box w0 (w.heap.size + 2) (.slice none 0 0) := by
  rw [hw0]; exact ⟨by go_simp, by go_simp, by simp <;> omega⟩
 have ha0 := ha.below hbel
 have hb0 := hb.below hbel
 have HW := Lib.hid hw0; clear hw0
 go_enter Tryz.func195, Tryz.ntmps195
 go_wp2_with fail
 rw [← HW.out]
 go_step3
 have e1 := hba.cell
 have e2 := hbb.cell
 go_wp2_with fail
 refine (cmp_any _ _ a b w0 ha0 hb0).mono ?_
 rintro e w1 ⟨rfl, hb1⟩
 have hba1 := hba.kept hb1
 have hbb1 := hbb.kept hb1
 have hbr1 := hbr.kept hb1
 have hc1 := (ha4.below hbel).below hb1
 have hcb1 := (hb4.below hbel).below hb1
 have hbel1 := hbel.trans (hb1.mono hbel.size)
 have hsz1 : w.heap.size + 3 ≤ w1.heap.size := by have := hb1.size; omega
 have r1 := hba1.cell
 have r2 := hbb1.cell
 have r3 := hbr1.cell
 have r4 := hbr1.free
 clear e1 e2 hba hbb hbr ha hb ha0 hb0 hb1 hsz0 HW ha4 hb4 hbel
 by_cases hlt : a < b
 ·have hcm : cmpI a b = -1 := by unfold cmpI; rw [if_pos hlt]
  have hd : decide (b ≤ a) = false := by simp; omega
  have HD := Lib.hid hd
  rw [hcm]
  clear hcm hd
  go_wp2
  rw [Exit.noGoto_ret]
  refine ret_nat_tmp rfl rfl rfl (cell_set r3) rfl ⟨_, ret_pair (congrArg Value.bool HD.out.symm), ?_, hbel1.setCell (p := ⟨w.heap.size + 2, 0, none⟩) (by simp) _⟩
  rw [show a - b = 0 by omega]
  exact NatIs.zero _
 ·have hcm : 0 ≤ cmpI a b := by unfold cmpI; rw [if_neg hlt]; split <;> decide
  have hd : decide (b ≤ a) = true := by simp; omega
  have HD := Lib.hid hd
  have hle : b ≤ a := by omega
  clear hd
  go_wp2_with fail
  refine (clone_any ao ca (limbs a) w1 hc1 ha1 (by unfold maxLen; omega) ha3 (by omega)).mono ?_
  rintro e w2 ⟨v, rfl, ho, hb2⟩
  clear hcm
  have hby := r2
  have hsz2 := hb2.size
  rcases ho.shape with ⟨rfl, hnil⟩ | ⟨g, cap, rfl, hg, hgw, hcap, hcapm, _, _⟩
  ·have h0 : limbs a = [] := by simpa [ints] using hnil
   have ha00 := limbs_eq_nil.1 h0
   subst ha00
   obtain rfl : b = 0 := by omega
   have hb5 := (hbr1.kept hb2)
   have r5 := hb5.cell
   have r6 := hb5.free
   go_wp2_with fail
   go_step3
   go_wp2_with fail
   refine wp_loop_rounds 1 ?_
   rw [rounds_succ]
   go_wp2_with fail
   refine (trim_any none 0 [] w2 (.inl rfl) (Nat.le_refl _) (by decide) (by simp)).mono ?_
   rintro e w6 ⟨rfl, hb6⟩
   have hbox6 := hb5.kept hb6
   have hc6 := hbox6.cell
   have hf6 := hbox6.free
   have e0 : (limbs (val [])).length = 0 := by show (limbs 0).length = 0; rw [limbs_zero]; rfl
   rw [e0]
   clear e0
   go_wp2
   rw [Exit.noGoto_ret]
   refine ret_nat_tmp rfl rfl rfl (cell_set hc6) rfl ⟨_, ret_pair (congrArg Value.bool HD.out.symm), NatIs.zero _, ?_⟩
   exact (hbel1.trans ((hb2.trans (hb6.mono hb2.size)).mono hbel1.size)).setCell (p := ⟨w.heap.size + 2, 0, none⟩) (by simp) _
  ·rw [ints_length] at hcap ho ⊢
   have hm := ho.mut
   unfold maxLen at hcapm
   have hxB := limbs_lt a
   have hyB := limbs_lt b
   have hst := SubInv.start (ys := limbs b) hxB
   have hb02 := hb2
   clear ho hc1 r1 r2 r3 r4
   go_wp2_with fail
   go_step3
   go_wp2_with fail
   go_loopg [7, 20] (limbs a).length (fun gg cv iv wr => ∃ (k c : Nat) (zs : List Nat), k + gg = (limbs a).length ∧ iv = .int .i64 k ∧ cv = .int .u64 c ∧ SubInv (limbs a) (limbs b) k c zs ∧ Mut .u32 wr g 0 zs ∧ Below w1.heap.size w1 wr)
   case atStart => exact ⟨0, 0, _, by omega, rfl, rfl, hst, hm, hb02⟩
   case round =>
    obtain ⟨k, c, zs, hk, rfl, rfl, hinv, hmz, hbr0⟩ := hrel
    have hbyr : wr.cell? ⟨w.heap.size + 1, 0, none⟩ = some (.slice bo (limbs b).length cb) := ((bcell hbr0).1 _ _ (by omega)).trans hby
    have hzl := hinv.len
    have hcar := hinv.car
    by_cases hkn : k < (limbs a).length
    ·have hzk := hmz.cell k (by omega)
     have hfk := hmz.free k (by omega)
     rw [Nat.zero_add] at hzk hfk
     have hzB := getD_lt (k := k) hinv.lt (by decide)
     have hnx := hinv.next hyB (by omega)
     have hms := hmz.set k (subV (zs[k]?.getD 0) (c + (limbs b)[k]?.getD 0)) (by omega)
     rw [Nat.zero_add] at hms
     by_cases hky : k < (limbs b).length
     ·have hcyr := hcb1.below hbr0
      rcases hcyr with hcyr | ⟨yb, yoff, rfl, hyb, hyc⟩
      ·rw [hcyr] at hky; simp at hky
      have hyk := hyc k hky
      have hyB2 := getD_lt (k := k) hyB (by decide)
      generalize zs[k]?.getD 0 = z at *
      generalize (limbs b)[k]?.getD 0 = yy at *
      have HN := Lib.hid hnx
      have HM := Lib.hid hms
      have HL := Lib.hid hzl
      clear hyc hinv hnx hms hzl hmz hst hm hcb1 hb02 hby
      have hsc := Lib.hid (sub_car (t := c + yy) hzB (by omega))
      have hsv := Lib.hid (sub_val (t := c + yy) hzB (by omega))
      go_wp2_with fail
      go_roundg (gk - 1)
      case measure => omega
      case rel => exact ⟨k + 1, _, _, by omega, by go_num, congrArg (Value.int .u64) hsc.out, HN.out, by rw [← hsv.out] at HM; exact HM.out, hbr0.setCell (by exact hg) _⟩
     ·have hy0 : (limbs b)[k]?.getD 0 = 0 := by rw [List.getElem?_eq_none (by omega)]; rfl
      rw [hy0, Nat.add_zero] at hnx hms
      by_cases hc0 : c = 0
      ·subst hc0
       clear hy0 hnx hms hst hzk hfk
       have hval : val zs = a - b := by
        have := hinv.done (by omega) (.inr rfl) (by rw [val_limbs, val_limbs]; exact hle)
        rwa [val_limbs, val_limbs] at this
       have hzB3 := hinv.lt
       have hn := trim_nat (cap := cap) (w' := wr) hmz.cells (by rw [hzl]; exact hcap) hzB3 (by unfold maxLen; omega)
       have hcl := hmz.cells
       have hzc : zs.length ≤ cap := by rw [hzl]; exact hcap
       have hbox := hbr1.below hbr0 (by omega)
       have HZL := Lib.hid hzl
       have HV := Lib.hid hval
       clear hzl hval
       go_wp2_with fail
       rw [← HZL.out]
       refine (trim_any (some ⟨g, 0, none⟩) cap zs wr hcl hzc (by unfold maxLen; omega) hzB3).mono ?_
       rintro e w6 ⟨rfl, hb6⟩
       have hn6 := hn.below hb6
       have hbox6 := hbox.kept hb6
       rw [HV.out] at hn6 ⊢
       have hc6 := hbox6.cell
       have hf6 := hbox6.free
       have hfin : Below w.heap.size w w6 := hbel1.trans ((hbr0.trans (hb6.mono hbr0.size)).mono hbel1.size)
       clear hmz hinv hn hcl hbox
       go_wp2
       rw [Exit.noGoto_ret]
       refine ret_nat_tmp rfl rfl rfl (cell_set hc6) rfl ⟨_, ret_pair (congrArg Value.bool HD.out.symm), hn6.set _ _ (fun n e => by rw [hc6] at e; cases e), hfin.setCell (p := ⟨w.heap.size + 2, 0, none⟩) (by simp) _⟩
      ·have hcp : 0 < c := by omega
       have HL := Lib.hid hzl
       generalize zs[k]?.getD 0 = z at *
       have HN := Lib.hid hnx
       have HM := Lib.hid hms
       clear hy0 hinv hnx hms hzl hmz hst hm hcb1 hb02 hby
       have hsc := Lib.hid (sub_car (t := c) hzB (by omega))
       have hsv := Lib.hid (sub_val (t := c) hzB (by omega))
       go_wp2_with fail
       go_roundg (gk - 1)
       case measure => omega
       case rel => exact ⟨k + 1, _, _, by omega, by go_num, congrArg (Value.int .u64) hsc.out, HN.out, by rw [← hsv.out] at HM; exact HM.out, hbr0.setCell (by exact hg) _⟩
    ·obtain rfl : k = (limbs a).length := by omega
     have hla2 : (limbs b).length ≤ (limbs a).length := limbs_length_mono hle
     have hval : val zs = a - b := by
      have := hinv.done (by omega) (.inl (Nat.le_refl _)) (by rw [val_limbs, val_limbs]; exact hle)
      rwa [val_limbs, val_limbs] at this
     have hzB3 := hinv.lt
     have hn := trim_nat (cap := cap) (w' := wr) hmz.cells (by rw [hzl]; exact hcap) hzB3 (by unfold maxLen; omega)
     have hcl := hmz.cells
     have hzc : zs.length ≤ cap := by rw [hzl]; exact hcap
     have hbox := hbr1.below hbr0 (by omega)
     have HZL := Lib.hid hzl
     have HV := Lib.hid hval
     clear hzl hval
     go_wp2_with fail
     rw [← HZL.out]
     refine (trim_any (some ⟨g, 0, none⟩) cap zs wr hcl hzc (by unfold maxLen; omega) hzB3).mono ?_
     rintro e w6 ⟨rfl, hb6⟩
     have hn6 := hn.below hb6
     have hbox6 := hbox.kept hb6
     rw [HV.out] at hn6 ⊢
     have hc6 := hbox6.cell
     have hf6 := hbox6.free
     have hfin : Below w.heap.size w w6 := hbel1.trans ((hbr0.trans (hb6.mono hbr0.size)).mono hbel1.size)
     clear hmz hinv hn hcl hbox
     go_wp2
     rw [Exit.noGoto_ret]
     refine ret_nat_tmp rfl rfl rfl (cell_set hc6) rfl ⟨_, ret_pair (congrArg Value.bool HD.out.symm), hn6.set _ _ (fun n e => by rw [hc6] at e; cases e), hfin.setCell (p := ⟨w.heap.size + 2, 0, none⟩) (by simp) _⟩
end Go.Proofs.YtcpfanpcdkoiaaaGreat
namespace Go.Proofs.YtcpfanpcdkoiaaaGreat
open Go.RowKit


attribute [local go_sem] and_low field_nat
set_option maxHeartbeats 1000000 in
theorem mul_any (va vb : Value) (a b : Nat) (w : World) (ha : NatIs w va a) (hb : NatIs w vb b) (hla : (limbs a).length ≤ 100000000) (hlb : (limbs b).length ≤ 100000000) :
  Calls Tryz.prog 191 #[va, vb] w fun e w' => ∃ r, e = .returned r ∧ NatIs w' r (a * b) ∧ Below w.heap.size w w' := by
 obtain ⟨ao, ca, rfl, ha1, ha2, ha3, ha4⟩ := ha.open
 obtain ⟨bo, cb, rfl, hb1, hb2, hb3, hb4⟩ := hb.open
 obtain ⟨w0, hw0⟩ : ∃ w0, w0 = ((w.alloc (.cells #[.slice ao (limbs a).length ca] 180)).alloc (.cells #[.slice bo (limbs b).length cb] 180)).alloc (.cells #[.slice none 0 0] 180) := ⟨_, rfl⟩
 have hbel : Below w.heap.size w w0 := by
  rw [hw0]; exact (((Below.refl _ w).alloc (Nat.le_refl _) _).alloc (by simp <;> omega) _).alloc (by simp <;> omega) _
 have hsz0 : w0.heap.size = w.heap.size + 3 := by rw [hw0]; simp
 have hba : Box w0 w.heap.size (.slice ao (limbs a).length ca) := by
  rw [hw0]; exact ⟨by go_simp, by go_simp, by simp <;> omega⟩
 have hbb : Box w0 (w.heap.size + 1) (.slice bo (limbs b).length cb) := by
  rw [hw0]; exact ⟨by go_simp, by go_simp, by simp <;> omega⟩
 have hbr : Box w0 (w.heap.size + 2) (.slice none 0 0) := by
  rw [hw0]; exact ⟨by go_simp, by go_simp, by simp <;> omega⟩
 have hca := ha4.below hbel
 have hcb := hb4.below hbel
 have HW := Lib.hid hw0; clear hw0
 have HSZ := Lib.hid hsz0; clear hsz0
 have hszl : w.heap.size + 3 ≤ w0.heap.size := by rw [HSZ.out]; exact Nat.le_refl _
 have hxB := limbs_lt a
 have hyB := limbs_lt b
 have hst := MulOut.start (limbs a) (limbs b)
 clear ha hb ha4 hb4 ha3 hb3
 go_enter Tryz.func191, Tryz.ntmps191
 go_upto_region 1 with fail
 rw [← HW.out]
 have e1 := hba.cell
 have e2 := hbb.cell
 go_wp2_with (at_make; refine makeN E32 (n := (limbs a).length + (limbs b).length) rfl rfl rfl rfl (by omega) (by unfold maxLen; omega) ?_; intro w1 ho hb1; have e3 := (hba.kept hb1).cell; have e4 := (hbb.kept hb1).cell)
 have hm := ho.mut
 have hgw := hm.lt
 clear e1 e2 ho
 go_loopg [22] (limbs a).length (fun gg iv wr => ∃ (i : Nat) (zs : List Nat), i + gg = (limbs a).length ∧ iv = .int .i64 i ∧ MulOut (limbs a) (limbs b) i zs ∧ Mut .u32 wr w0.heap.size 0 zs ∧ Below w0.heap.size w0 wr)
 case atStart => exact ⟨0, _, by omega, rfl, hst, hm, hb1⟩
 case round =>
  obtain ⟨i, zs0, hi, rfl, hout, hmz, hbr0⟩ := hrel
  have hzl := hout.len
  by_cases hil : i < (limbs a).length
  ·have hcar := hca.below hbr0
   rcases hcar with hcar | ⟨xb, xoff, rfl, hxb, hxc⟩
   ·rw [hcar] at hil; simp at hil
   have hxk := hxc i hil
   have hxB2 := getD_lt (k := i) hxB (by decide)
   have f1 := (hba.kept hbr0).cell
   have f2 := (hbb.kept hbr0).cell
   have hin0 := MulIn.start (ys := limbs b) (i := i) (x := (limbs a)[i]?.getD 0) hout.lt
   have HO := Lib.hid hout
   have hcb0 : Cells .u32 wr bo (limbs b) := hcb.below hbr0
   clear hxc hst hm e3 e4 hout
   obtain ⟨x, hx⟩ : ∃ x, x = (limbs a)[i]?.getD 0 := ⟨_, rfl⟩
   rw [← hx] at hxk hxB2 hin0
   have HX := Lib.hid hx
   clear hx
   obtain ⟨go, hgo⟩ : ∃ go, go = gk := ⟨_, rfl⟩
   subst hgo
   go_wp2_with fail
   go_loopg [8, 30] (limbs b).length (fun gg cv jv wx => ∃ (j c : Nat) (zs : List Nat), j + gg = (limbs b).length ∧ jv = .int .i64 j ∧ cv = .int .u64 c ∧ MulIn zs0 (limbs b) i x j c zs ∧ Mut .u32 wx w0.heap.size 0 zs ∧ Below w0.heap.size w0 wx)
   case atStart => exact ⟨0, 0, zs0, by omega, rfl, rfl, hin0, hmz, hbr0⟩
   case round =>
    obtain ⟨j, c, zs, hj, rfl, rfl, hin, hmz1, hbr1⟩ := hrel
    have hzl1 := hin.len
    have hccar := hin.car
    have g1 := (hba.kept hbr1).cell
    have g2 := (hbb.kept hbr1).cell
    by_cases hjl : j < (limbs b).length
    ·have hcbr := hcb.below hbr1
     rcases hcbr with hcbr | ⟨yb, yoff, rfl, hyb, hyc⟩
     ·rw [hcbr] at hjl; simp at hjl
     have hyk := hyc j hjl
     have hyB2 := getD_lt (k := j) hyB (by decide)
     have hzk := hmz1.cell (i + j) (by omega)
     have hfk := hmz1.free (i + j) (by omega)
     rw [Nat.zero_add] at hzk hfk
     have hzB := getD_lt (k := i + j) hin.lt (by decide)
     have hnx := hin.next hxB2 hyB (by omega)
     have hms := hmz1.set (i + j) ((c + (x * (limbs b)[j]?.getD 0 + zs[i + j]?.getD 0)) % 4294967296) (by omega)
     rw [Nat.zero_add] at hms
     generalize zs[i + j]?.getD 0 = z at *
     generalize (limbs b)[j]?.getD 0 = yy at *
     have hmb := mul_bound hccar hxB2 hyB2 hzB
     have HN := Lib.hid hnx
     have HM := Lib.hid hms
     have HL := Lib.hid hzl
     have HL1 := Lib.hid hzl1
     clear hyc hin hnx hms hzl hzl1 hmz1 hcb hcb0 hmz hin0
     go_wp2_with fail
     go_roundg (gk - 1)
     case measure => omega
     case rel => exact ⟨j + 1, _, _, by omega, by go_num, by go_num, HN.out, HM.out, hbr1.setCell (by exact Nat.le_refl _) _⟩
    ·obtain rfl : j = (limbs b).length := by omega
     have hzk := hmz1.cell (i + (limbs b).length) (by omega)
     have hfk := hmz1.free (i + (limbs b).length) (by omega)
     rw [Nat.zero_add] at hzk hfk
     rw [HX.out] at hin
     have hnx := MulOut.next HO.out hin hil
     have hms := hmz1.set (i + (limbs b).length) c (by omega)
     rw [Nat.zero_add] at hms
     have HN := Lib.hid hnx
     have HM := Lib.hid hms
     have HL := Lib.hid hzl
     have HL1 := Lib.hid hzl1
     clear hin hnx hms hmz1 hmz hin0 hzl hzl1
     go_wp2_with fail
     go_roundg (go - 1)
     case measure => omega
     case rel => exact ⟨i + 1, _, by omega, by go_num, HN.out, HM.out, hbr1.setCell (by exact Nat.le_refl _) _⟩
  ·obtain rfl : i = (limbs a).length := by omega
   have hval : val zs0 = a * b := by
    have := hout.eq
    rwa [List.take_length, val_limbs, val_limbs] at this
   have hzB3 := hout.lt
   have hn := trim_nat (cap := (limbs a).length + (limbs b).length) (w' := wr) hmz.cells (by omega) hzB3 (by unfold maxLen; omega)
   have hcl := hmz.cells
   have hzc : zs0.length ≤ (limbs a).length + (limbs b).length := by omega
   have hbox := hbr.kept hbr0
   have HZL := Lib.hid hzl
   have HV := Lib.hid hval
   clear hzl hval e3 e4 hm hst hout hmz
   go_wp2_with fail
   rw [← HZL.out]
   refine (trim_any (some ⟨w0.heap.size, 0, none⟩) zs0.length zs0 wr hcl (Nat.le_refl _) (by rw [HZL.out]; unfold maxLen; omega) hzB3).mono ?_
   rintro e w6 ⟨rfl, hb6⟩
   have hn6 := hn.below hb6
   have hbox6 := hbox.kept hb6
   rw [HV.out] at hn6 ⊢
   have hc6 := hbox6.cell
   have hf6 := hbox6.free
   have hfin : Below w.heap.size w w6 := hbel.trans ((hbr0.trans (hb6.mono hbr0.size)).mono hbel.size)
   clear hn hcl hbox
   go_wp2
   refine ret_nat rfl rfl (cell_set hc6) rfl ⟨_, rfl, hn6.set _ _ (fun n e => by rw [hc6] at e; cases e), hfin.setCell (p := ⟨w.heap.size + 2, 0, none⟩) (by simp) _⟩
end Go.Proofs.YtcpfanpcdkoiaaaGreat
namespace Go.Proofs.YtcpfanpcdkoiaaaGreat
open Go.RowKit


attribute [local go_sem] and_low field_nat
def pcode (l : List UInt8) : Int := if numOk l then (if 1200 < l.length then 2 else 0) else 3
def pval (l : List UInt8) : Nat := if numOk l then (if 1200 < l.length then 0 else dnum l) else 0
end Go.Proofs.YtcpfanpcdkoiaaaGreat
