/-
  Pk05: NatN5 (what is needed of them).
-/
import Derived.Test.YtcpfanpcdkoiaaaGreatPk00
import Derived.Test.YtcpfanpcdkoiaaaGreatPk02
import Derived.Test.YtcpfanpcdkoiaaaGreatPk03
import Derived.Test.YtcpfanpcdkoiaaaGreatPk04
import Derived.BigQuiet
set_option maxRecDepth 100000
set_option linter.unusedVariables false
set_option linter.unusedSimpArgs false

namespace Go.Proofs.YtcpfanpcdkoiaaaGreat
open Go.RowKit


attribute [local go_sem] and_low
theorem guess_down {g r T V1 U0 U1 : Nat} (hT : T = U1 + 4294967296 * U0) (h2 : U0 ≤ V1) (h3 : U1 < 4294967296) (hg : T = g * V1 + r) (h1 : 0 < g) :
  T = (g - 1) * V1 + (r + V1) ∧ (4294967296 ≤ r + V1 → g - 1 < 4294967296) := by
 obtain ⟨k, rfl⟩ : ∃ k, g = k + 1 := ⟨g - 1, by omega⟩
 rw [Nat.add_sub_cancel]
 rw [Nat.add_mul, Nat.one_mul] at hg
 refine ⟨by omega, fun h4 => ?_⟩
 rcases Nat.lt_or_ge k 4294967296 with h5 | h5
 ·exact h5
 ·exfalso
  have := Nat.mul_le_mul_right V1 h5
  omega
theorem guess_fits {q r V2 U2 : Nat} (h : q < 4294967296) (h2 : V2 < 4294967296) (h3 : 4294967296 ≤ r) : q * V2 ≤ r * 4294967296 + U2 := by
 have h4 : q * V2 ≤ 4294967296 * 4294967296 := Nat.mul_le_mul (by omega) (by omega)
 have h5 : 4294967296 * 4294967296 ≤ r * 4294967296 := Nat.mul_le_mul_right _ h3
 omega
set_option maxHeartbeats 1000000 in
theorem guess_any (ub uoff cu vb voff cv m n1 n2 : Nat) (us vs : List Nat) (w : World) (hm : m = n1 + 1) (hn : n1 = n2 + 1) (h : GuessIn us vs n2) (hm9 : m ≤ 1000000000)
  (hu : ∀ i, i < us.length → w.cell? ⟨ub, uoff + i, none⟩ = some (.int .u32 ((us[i]?.getD 0 : Nat) : Int))) (hv : ∀ i, i < vs.length → w.cell? ⟨vb, voff + i, none⟩ = some (.int .u32 ((vs[i]?.getD 0 : Nat) : Int))) :
  Calls Tryz.prog 210 #[.slice (some ⟨ub, uoff, none⟩) (m + 1) cu, .slice (some ⟨vb, voff, none⟩) m cv] w fun e w' => ∃ q : Nat, e = .returned (.int .u64 (q : Int)) ∧ val us / val vs ≤ q ∧ q ≤ val us / val vs + 1 ∧ q < 4294967296 ∧ Below w.heap.size w w' := by
 have u0 := hu m (by rw [h.ul]; omega)
 have u1 := hu n1 (by rw [h.ul]; omega)
 have u2 := hu n2 (by rw [h.ul]; omega)
 have v1 := hv n1 (by rw [h.vl]; omega)
 have v2 := hv n2 (by rw [h.vl]; omega)
 have HU := Lib.hid hu
 have HV := Lib.hid hv
 clear hu hv
 have a0 := getD_lt (k := m) h.ult (by decide)
 have a1 := getD_lt (k := n1) h.ult (by decide)
 have a2 := getD_lt (k := n2) h.ult (by decide)
 have b1 := getD_lt (k := n1) h.vlt (by decide)
 have b2 := getD_lt (k := n2) h.vlt (by decide)
 have htop := h.top
 have htwo := h.two
 have hfirst := h.first
 have hforb := fun q r => h.forbid (q := q) (r := r)
 have hall := fun q r => h.allow (q := q) (r := r)
 unfold gTwo at hfirst hforb hall
 rw [show n2 + 1 = n1 by omega] at htop htwo hfirst hforb hall
 rw [show n2 + 2 = m by omega] at htwo hfirst hforb hall
 have hQ := h.lt
 generalize us[m]?.getD 0 = U0 at *
 generalize us[n1]?.getD 0 = U1 at *
 generalize us[n2]?.getD 0 = U2 at *
 generalize vs[n1]?.getD 0 = V1 at *
 generalize vs[n2]?.getD 0 = V2 at *
 generalize val us / val vs = Q at *
 have w1 : IntKind.i64.wrap (n1 : Int) = (n1 : Int) := IntWalk.i64_in _ (by omega)
 have w2 : IntKind.i64.wrap (n2 : Int) = (n2 : Int) := IntWalk.i64_in _ (by omega)
 have s1 : (m : Int) - 1 = (n1 : Int) := by omega
 have s2 : (m : Int) - 2 = (n2 : Int) := by omega
 have l0 : (m : Int) < (m : Int) + 1 := by omega
 have l1 : (n1 : Int) < (m : Int) := by omega
 have l2 : (n2 : Int) < (m : Int) := by omega
 have l3 : (n1 : Int) < (m : Int) + 1 := by omega
 have l4 : (n2 : Int) < (m : Int) + 1 := by omega
 have k1 : (0 : Int) ≤ (m : Int) := by omega
 have k2 : (0 : Int) ≤ (n1 : Int) := by omega
 have k3 : (0 : Int) ≤ (n2 : Int) := by omega
 have t0 : (m : Int).toNat = m := by omega
 have t1 : (n1 : Int).toNat = n1 := by omega
 have t2 : (n2 : Int).toNat = n2 := by omega
 have HM := Lib.hid hm
 have HN := Lib.hid hn
 clear hm hn
 go_enter Tryz.func210, Tryz.ntmps210
 go_wp2_with fail
 go_step3
 go_wp2_with fail
 go_region_held3 (fun w' => w'.cell? ⟨ub, uoff + m, none⟩ = some (.int .u32 (U0 : Int)) ∧ w'.cell? ⟨ub, uoff + n1, none⟩ = some (.int .u32 (U1 : Int)) ∧ Below w.heap.size w w')
  (first | assumption | exact ⟨u0, u1, (Below.refl _ _).drew⟩) (fail)
 have hbits : bits BinOp.or IntKind.u64 (IntKind.u64.wrap (IntKind.u64.wrap (U0 : Int) * 4294967296)) (IntKind.u64.wrap (U1 : Int)) = ((U1 + 4294967296 * U0 : Nat) : Int) := by
  rw [IntWalk.u64_in (U0 : Int) (by omega), IntWalk.u64_in (U1 : Int) (by omega), IntWalk.u64_in _ (by omega), or_join (U0 : Int) (U1 : Int) (by omega) (by omega) (by omega) (by omega)]; omega
 rw [hbits]
 clear hbits
 have hT9 : U1 + 4294967296 * U0 < 18446744073709551616 := by omega
 obtain ⟨T, hT⟩ : ∃ T, T = U1 + 4294967296 * U0 := ⟨_, rfl⟩
 rw [← hT] at hfirst hforb hall hT9 ⊢
 have HT := Lib.hid hT
 clear hT
 have hq0 : ¬ ((V1 : Int) = 0) := by omega
 have q1 : ((T : Int).tdiv (V1 : Int)) = ((T / V1 : Nat) : Int) := by rw [Int.tdiv_eq_ediv_of_nonneg (by omega)]; rfl
 have q2 : ((T : Int).tmod (V1 : Int)) = ((T % V1 : Nat) : Int) := by rw [Int.tmod_eq_emod_of_nonneg (by omega)]; rfl
 have q3 : T / V1 ≤ T := Nat.div_le_self _ _
 have q4 : T % V1 < V1 := Nat.mod_lt _ (by omega)
 have q5 := Nat.div_add_mod T V1
 generalize T / V1 = q0 at *
 generalize T % V1 = r0 at *
 have q6 : IntKind.u64.wrap (q0 : Int) = (q0 : Int) := IntWalk.u64_in _ (by omega)
 have hw3 : Below w.heap.size w w.drew := (Below.refl _ _).drew
 go_wp2_with fail
 go_quiet (fail)
 go_wp2_with fail
 go_step3
 go_wp2_with fail
 have hu2 : ub < w.heap.size := World.block_lt_of_cell? w ⟨ub, uoff + n2, none⟩ u2
 have hv2 : vb < w.heap.size := World.block_lt_of_cell? w ⟨vb, voff + n2, none⟩ v2
 have hstart : Below w.heap.size w (w.drew.drewN nq) := by
  exact ⟨rfl, rfl, rfl, Nat.le_refl _, fun _ _ => rfl⟩
 go_loopg [8, 9] q0 (fun g qv rv wr => ∃ r : Nat, qv = .int .u64 (g : Int) ∧ rv = .int .u64 (r : Int) ∧ T = g * V1 + r ∧ Q ≤ g ∧ r < 4294967296 ∧ Below w.heap.size w wr)
 case atStart => exact ⟨r0, rfl, rfl, by rw [Nat.mul_comm]; omega, hfirst, by omega, hstart⟩
 case round =>
  obtain ⟨r, rfl, rfl, hTg, hQg, hrB, hbr⟩ := hrel
  have u2r := (hbr.cell (p := ⟨ub, uoff + n2, none⟩) hu2).trans u2
  have v2r := (hbr.cell (p := ⟨vb, voff + n2, none⟩) hv2).trans v2
  have e1 : IntKind.u64.wrap (V2 : Int) = (V2 : Int) := IntWalk.u64_in _ (by omega)
  have e2 : IntKind.u64.wrap (U2 : Int) = (U2 : Int) := IntWalk.u64_in _ (by omega)
  have e3 : IntKind.u64.wrap ((r : Int) * 4294967296) = (r : Int) * 4294967296 := IntWalk.u64_in _ (by omega)
  have e4 := or_join (r : Int) (U2 : Int) (by omega) (by omega) (by omega) (by omega)
  have hgT : gk ≤ T := by
   have : gk * 1 ≤ gk * V1 := Nat.mul_le_mul_left _ (by omega)
   omega
  have HTG := Lib.hid hTg
  clear hTg
  by_cases hg1 : 4294967296 ≤ gk
  ·obtain ⟨hd1, hd2⟩ := guess_down HT.out htwo a1 HTG.out (by omega)
   have HD1 := Lib.hid hd1
   clear hd1
   have hg2 : (4294967295 : Int) < (gk : Int) := by omega
   have hgw : IntKind.u64.wrap ((gk : Int) - 1) = ((gk - 1 : Nat) : Int) := by rw [IntWalk.u64_in _ (by omega)]; omega
   go_wp2_with fail
   go_quiet (fail)
   have hbrq : Below w.heap.size w (wr.drewN nq) := ⟨hbr.os, hbr.tape, hbr.output, hbr.size, hbr.block⟩
   by_cases hrl : 4294967296 ≤ r + V1
   ·have hlt := hd2 hrl
    have hal := hall (gk - 1) (r + V1) HD1.out (guess_fits hlt b2 hrl) hlt
    have hrl2 : (4294967295 : Int) < (r : Int) + (V1 : Int) := by omega
    go_wp2
    rw [Exit.noGoto_ret]
    go_ret
    exact ⟨gk - 1, rfl, by omega, hal, hlt, hbrq⟩
   ·have hrl2 : (r : Int) + (V1 : Int) ≤ 4294967295 := by omega
    go_wp2
    go_roundg (gk - 1)
    case measure => omega
    case rel => exact ⟨r + V1, by go_num, by go_num, HD1.out, by omega, by omega, hbrq⟩
  ·have hg2 : (gk : Int) ≤ 4294967295 := by omega
   have hgV : gk * V2 ≤ 4294967295 * 4294967295 := Nat.mul_le_mul (by omega) (by omega)
   have e5 : IntKind.u64.wrap ((gk : Int) * (V2 : Int)) = ((gk * V2 : Nat) : Int) := by rw [IntWalk.u64_in _ (by rw [← Int.natCast_mul]; omega)]; simp
   by_cases hcm : r * 4294967296 + U2 < gk * V2
   ·have hgp : 0 < gk := by
     rcases Nat.eq_zero_or_pos gk with h0 | h0
     ·rw [h0, Nat.zero_mul] at hcm; omega
     ·exact h0
    obtain ⟨hd1, hd2⟩ := guess_down HT.out htwo a1 HTG.out hgp
    have HD1 := Lib.hid hd1
    clear hd1
    have hfo := hforb gk r HTG.out hcm
    have hgw : IntKind.u64.wrap ((gk : Int) - 1) = ((gk - 1 : Nat) : Int) := by rw [IntWalk.u64_in _ (by omega)]; omega
    have hcmi : (r : Int) * 4294967296 + (U2 : Int) < ((gk * V2 : Nat) : Int) := by omega
    go_wp2_with fail
    go_quiet (fail)
    have hbrq : Below w.heap.size w (wr.drewN nq) := ⟨hbr.os, hbr.tape, hbr.output, hbr.size, hbr.block⟩
    by_cases hrl : 4294967296 ≤ r + V1
    ·have hlt := hd2 hrl
     have hal := hall (gk - 1) (r + V1) HD1.out (guess_fits hlt b2 hrl) hlt
     have hrl2 : (4294967295 : Int) < (r : Int) + (V1 : Int) := by omega
     go_wp2
     rw [Exit.noGoto_ret]
     go_ret
     exact ⟨gk - 1, rfl, by omega, hal, hlt, hbrq⟩
    ·have hrl2 : (r : Int) + (V1 : Int) ≤ 4294967295 := by omega
     go_wp2
     go_roundg (gk - 1)
     case measure => omega
     case rel => exact ⟨r + V1, by go_num, by go_num, HD1.out, by omega, by omega, hbrq⟩
   ·have hal := hall gk r HTG.out (by omega) (by omega)
    have hcmi : ((gk * V2 : Nat) : Int) ≤ (r : Int) * 4294967296 + (U2 : Int) := by omega
    go_wp2_with fail
    go_quiet (fail)
    have hbrq : Below w.heap.size w (wr.drewN nq) := ⟨hbr.os, hbr.tape, hbr.output, hbr.size, hbr.block⟩
    go_wp2
    rw [Exit.noGoto_ret]
    go_ret
    exact ⟨gk, rfl, hQg, hal, by omega, hbrq⟩
end Go.Proofs.YtcpfanpcdkoiaaaGreat
namespace Go.Proofs.YtcpfanpcdkoiaaaGreat
open Go.RowKit


attribute [local go_sem] and_low and_one
theorem ms_car {z t b : Nat} (hz : z < 4294967296) (hb : b ≤ 1) : IntKind.u64.wrap (IntKind.u64.wrap ((z : Int) - (t : Int) % 4294967296) - (b : Int)) / 4294967296 % 2 = ((msB z t b : Nat) : Int) := by
 rw [IntKind.wrap_u64, IntKind.wrap_u64]; unfold msB; split <;> omega
theorem ms_val {z t b : Nat} (hz : z < 4294967296) (hb : b ≤ 1) : IntKind.u64.wrap (IntKind.u64.wrap ((z : Int) - (t : Int) % 4294967296) - (b : Int)) % 4294967296 = ((msV z t b : Nat) : Int) := by
 rw [IntKind.wrap_u64, IntKind.wrap_u64]; unfold msV; omega
theorem get_mid {A us C : List Nat} {i : Nat} (h : i < us.length) : (A ++ us ++ C)[A.length + i]?.getD 0 = us[i]?.getD 0 := by
 rw [List.append_assoc, List.getElem?_append_right (by omega), Nat.add_sub_cancel_left, List.getElem?_append_left h]
theorem set_mid {A us C : List Nat} {i z : Nat} (h : i < us.length) : (A ++ us ++ C).set (A.length + i) z = A ++ us.set i z ++ C := by
 rw [List.append_assoc, List.set_append_right _ _ (by omega), Nat.add_sub_cancel_left, List.set_append_left _ _ h, List.append_assoc]
def StepPost (w : World) (g : Nat) (A us C vs : List Nat) (e : Ending) (w' : World) : Prop :=
 e = .returned (.int .u32 ((val us / val vs : Nat) : Int)) ∧ ∃ ws, ws.length = us.length ∧ (∀ x ∈ ws, x < 4294967296) ∧ val ws = val us % val vs ∧ Mut .u32 w' g 0 (A ++ ws ++ C) ∧ w.grownBy w' (some g)
set_option maxHeartbeats 2000000 in
theorem step_any (g cu vb voff cv m n1 n2 : Nat) (A us C vs : List Nat) (w : World) (hm : m = n1 + 1) (hn : n1 = n2 + 1) (h : GuessIn us vs n2) (hm9 : m ≤ 1000000000) (hA9 : A.length ≤ 1000000000) (hne : vb ≠ g)
  (hM : Mut .u32 w g 0 (A ++ us ++ C)) (hv : ∀ i, i < vs.length → w.cell? ⟨vb, voff + i, none⟩ = some (.int .u32 ((vs[i]?.getD 0 : Nat) : Int))) :
  Calls Tryz.prog 209 #[.slice (some ⟨g, A.length, none⟩) (m + 1) cu, .slice (some ⟨vb, voff, none⟩) m cv] w fun e w' => StepPost w g A us C vs e w' := by
 have hu : ∀ i, i < us.length → w.cell? ⟨g, A.length + i, none⟩ = some (.int .u32 ((us[i]?.getD 0 : Nat) : Int)) := fun i hi => by
  have := hM.cell (A.length + i) (by simp; omega)
  rwa [Nat.zero_add, get_mid hi] at this
 have hgw := hM.lt
 have hul : us.length = m + 1 := by rw [h.ul]; omega
 have hvl : vs.length = m := by rw [h.vl]; omega
 have HM := Lib.hid hM
 have HV := Lib.hid hv
 have HH := Lib.hid h
 have hm2 : 2 ≤ m := by omega
 have hvb : vb < w.heap.size := World.block_lt_of_cell? w ⟨vb, voff + 0, none⟩ (hv 0 (by omega))
 have HMM := Lib.hid hm
 have HNN := Lib.hid hn
 have hgu := guess_any g A.length cu vb voff cv m n1 n2 us vs w hm hn h hm9 hu hv
 have hst := MsInv.start (ys := vs) (q := 0) h.ult
 have hAl : A.length + m < 9223372036854775807 := by omega
 clear hM hv hu hm hn h
 go_enter Tryz.func209, Tryz.ntmps209
 go_wp2_with fail
 refine hgu.mono ?_
 clear hgu
 rintro e w1 ⟨q, rfl, hq1, hq2, hq3, hb1⟩
 have hM1 := HM.out.below hb1 hgw
 have hst := MsInv.start (ys := vs) (q := q) HH.out.ult
 have hgr : w.grownBy w1 (some g) := ⟨hb1.os, hb1.tape, hb1.output, hb1.size, fun k hk _ => hb1.block k hk⟩
 go_wp2_with fail
 go_loopg [6, 7, 16] (m + 1) (fun gg bv cv' iv wr => ∃ (i b c : Nat) (ys : List Nat), i + gg = m + 1 ∧ iv = .int .i64 (i : Int) ∧ bv = .int .u64 (b : Int) ∧ cv' = .int .u64 (c : Int) ∧ MsInv us vs q i c b ys ∧ Mut .u32 wr g 0 (A ++ ys ++ C) ∧ w.grownBy wr (some g))
 case atStart => exact ⟨0, 0, 0, us, by omega, rfl, rfl, rfl, hst, hM1, hgr⟩
 case round =>
  obtain ⟨i, b, c, ys, hi, rfl, rfl, rfl, hinv, hmz, hgr1⟩ := hrel
  by_cases him : i < m + 1
  ·have hyl := hinv.len
   have hcar := hinv.car
   have hbor := hinv.bor
   have hz := hmz.cell (A.length + i) (by simp; omega)
   have hf := hmz.free (A.length + i) (by simp; omega)
   rw [Nat.zero_add, get_mid (by omega)] at hz
   rw [Nat.zero_add] at hf
   have hzB := getD_lt (k := i) hinv.lt (by decide)
   have hnx := hinv.next HH.out.vlt (by omega) hq3
   have hms := hmz.set (A.length + i) (msV (ys[i]?.getD 0) (c + q * (vs[i]?.getD 0)) b) (by simp; omega)
   rw [Nat.zero_add, set_mid (by omega)] at hms
   by_cases hiv : i < m
   ·have hvi := (World.cell?_of_block (a := ⟨vb, voff + i, none⟩) (hgr1.block vb hvb (by simpa using hne))).trans (HV.out i (by omega))
    have hvB := getD_lt (k := i) HH.out.vlt (by decide)
    have hqV : q * (vs[i]?.getD 0) ≤ 4294967295 * 4294967295 := Nat.mul_le_mul (by omega) (by omega)
    generalize ys[i]?.getD 0 = z at *
    generalize vs[i]?.getD 0 = V at *
    have e1 : IntKind.u64.wrap ((q : Int) * (V : Int)) = ((q * V : Nat) : Int) := by rw [IntWalk.u64_in _ (by rw [← Int.natCast_mul]; omega)]; simp
    generalize q * V = qv at *
    have HN := Lib.hid hnx
    have HMS := Lib.hid hms
    clear hnx hms hmz hinv hst hM1 hgr hyl
    have hsc := ms_car (t := c + qv) hzB hbor
    have hsv := ms_val (t := c + qv) hzB hbor
    rw [Int.natCast_add] at hsc hsv
    have HSC := Lib.hid hsc
    have HSV := Lib.hid hsv
    clear hsc hsv
    go_wp2_with fail
    go_roundg (gk - 1)
    case measure => omega
    case rel => exact ⟨i + 1, _, _, _, by omega, by go_num, congrArg (Value.int .u64) HSC.out, by go_num, HN.out, by rw [← HSV.out] at HMS; exact HMS.out, grownBy_set hgr1 _ _⟩
   ·have hy0 : vs[i]?.getD 0 = 0 := by rw [List.getElem?_eq_none (by omega)]; rfl
    rw [hy0, Nat.mul_zero, Nat.add_zero] at hnx hms
    generalize ys[i]?.getD 0 = z at *
    have HN := Lib.hid hnx
    have HMS := Lib.hid hms
    have hsc := ms_car (t := c) hzB hbor
    have hsv := ms_val (t := c) hzB hbor
    have HSC := Lib.hid hsc
    have HSV := Lib.hid hsv
    clear hsc hsv hnx hms hmz hinv hst hM1 hgr hyl hy0
    go_wp2_with fail
    go_roundg (gk - 1)
    case measure => omega
    case rel => exact ⟨i + 1, _, _, _, by omega, by go_num, congrArg (Value.int .u64) HSC.out, by go_num, HN.out, by rw [← HSV.out] at HMS; exact HMS.out, grownBy_set hgr1 _ _⟩
  ·obtain rfl : gk = 0 := by omega
   obtain rfl : i = m + 1 := by omega
   rw [← hul] at hinv
   have hpos := HH.out.pos
   have hbor := hinv.bor
   have hyl := hinv.len
   rcases (by omega : b = 0 ∨ b = 1) with rfl | rfl
   ·obtain ⟨k1, k2⟩ := hinv.right (by omega) hq1 hpos
    have hylt := hinv.lt
    have K1 := Lib.hid k1
    clear k1 hst hM1 hinv
    go_wp2_with fail
    go_ret
    exact ⟨congrArg (fun n : Nat => Ending.returned (.int .u32 (n : Int))) K1.out, ys, hyl, hylt, k2, hmz, hgr1⟩
   ·have hst2 := AddInv.start (ys := vs) hinv.lt
    have HI := Lib.hid hinv
    clear hst hM1 hinv
    go_wp2_with fail
    go_loopg [7, 60] (m + 1) (fun gg cv' iv wx => ∃ (i c : Nat) (zs : List Nat), i + gg = m + 1 ∧ iv = .int .i64 (i : Int) ∧ cv' = .int .u64 (c : Int) ∧ AddInv ys vs i c zs ∧ Mut .u32 wx g 0 (A ++ zs ++ C) ∧ w.grownBy wx (some g))
    case atStart => exact ⟨0, 0, ys, by omega, rfl, rfl, hst2, hmz, hgr1⟩
    case round =>
     obtain ⟨i, c2, zs, hi2, rfl, rfl, hadd, hmz2, hgr2⟩ := hrel
     have hzl := hadd.len
     have hcar := hadd.car
     by_cases him2 : i < m + 1
     ·have hz := hmz2.cell (A.length + i) (by simp; omega)
      have hf := hmz2.free (A.length + i) (by simp; omega)
      rw [Nat.zero_add, get_mid (by omega)] at hz
      rw [Nat.zero_add] at hf
      have hzB := getD_lt (k := i) hadd.lt (by decide)
      have hnx := hadd.next HH.out.vlt (by omega)
      have hms := hmz2.set (A.length + i) ((c2 + vs[i]?.getD 0 + zs[i]?.getD 0) % 4294967296) (by simp; omega)
      rw [Nat.zero_add, set_mid (by omega)] at hms
      by_cases hiv : i < m
      ·have hvi := (World.cell?_of_block (a := ⟨vb, voff + i, none⟩) (hgr2.block vb hvb (by simpa using hne))).trans (HV.out i (by omega))
       have hvB := getD_lt (k := i) HH.out.vlt (by decide)
       generalize zs[i]?.getD 0 = z at *
       generalize vs[i]?.getD 0 = V at *
       have HN := Lib.hid hnx
       have HMS := Lib.hid hms
       clear hnx hms hmz2 hmz hadd hst2 hzl hyl
       go_wp2_with fail
       go_roundg (gk - 1)
       case measure => omega
       case rel => exact ⟨i + 1, _, _, by omega, by go_num, by go_num, HN.out, HMS.out, grownBy_set hgr2 _ _⟩
      ·have hy0 : vs[i]?.getD 0 = 0 := by rw [List.getElem?_eq_none (by omega)]; rfl
       rw [hy0, Nat.add_zero] at hnx hms
       generalize zs[i]?.getD 0 = z at *
       have HN := Lib.hid hnx
       have HMS := Lib.hid hms
       clear hnx hms hmz2 hmz hadd hst2 hzl hyl hy0
       go_wp2_with fail
       go_roundg (gk - 1)
       case measure => omega
       case rel => exact ⟨i + 1, _, _, by omega, by go_num, by go_num, HN.out, HMS.out, grownBy_set hgr2 _ _⟩
     ·obtain rfl : gk = 0 := by omega
      obtain rfl : i = m + 1 := by omega
      rw [← hul] at hadd
      obtain ⟨k1, k2⟩ := HI.out.more hadd (by omega) hq2 hpos HH.out.vlt
      have hzlt := hadd.lt
      have hzl2 : zs.length = us.length := hzl.trans hyl
      have K1 : Hid (q - 1 = val us / val vs) := Lib.hid (by rw [k1, Nat.add_sub_cancel])
      have hq0 : 0 < q := by rw [k1]; exact Nat.succ_pos _
      have K2 := Lib.hid k2
      clear k1 hq1 hq2 k2
      have hqw : IntKind.u64.wrap ((q : Int) - 1) = ((q - 1 : Nat) : Int) := by rw [IntWalk.u64_in _ (by omega)]; omega
      clear hadd hst2 hmz
      go_wp2_with fail
      go_ret
      exact ⟨congrArg (fun n : Nat => Ending.returned (.int .u32 (n : Int))) K1.out, zs, hzl2, hzlt, K2.out, hmz2, hgr2⟩
end Go.Proofs.YtcpfanpcdkoiaaaGreat
namespace Go.Proofs.YtcpfanpcdkoiaaaGreat
open Go.RowKit


attribute [local go_sem] and_low field_nat
theorem lead32 {x : Nat} (h : x < 4294967296) : (32 - (Lib.bitLen (x : Int).toNat : Int)) = ((32 - blen x : Nat) : Int) := by
 rw [Int.toNat_natCast, bitLen_blen x (by omega)]
 have := blen_le (n := x) (k := 32) (by rw [show (2 : Nat) ^ 32 = 4294967296 by decide]; exact h)
 omega
theorem owns_some {base : Nat} {e : TypeId} {w : World} {v : Value} {us : List Nat} (h : Owns base e w v (ints .u32 us)) (hne : us ≠ []) : ∃ g cap, v = .slice (some ⟨g, 0, none⟩) us.length cap ∧ base ≤ g ∧ g < w.heap.size ∧ us.length ≤ cap ∧ cap ≤ maxLen := by
 rcases h.shape with ⟨_, h1⟩ | ⟨g, cap, h1, h2, h3, h4, h5, _⟩
 ·exact (hne (by simpa [ints] using h1)).elim
 ·rw [ints_length] at h1 h4
  exact ⟨g, cap, h1, h2, h3, h4, h5⟩
theorem below_of_grown_of {B : Nat} {w1 w2 w3 : World} {g : Nat} (h : Below B w1 w2) (hg : w2.grownBy w3 (some g)) (hB : B ≤ g) (h0 : B ≤ w2.heap.size) : Below B w1 w3 :=
 ⟨hg.os.trans h.os, hg.tape.trans h.tape, hg.output.trans h.output, Nat.le_trans h.size hg.size, fun k hk => by
  exact (hg.block k (by omega) (by simp; omega)).trans (h.block k hk)⟩
theorem shift_back (va : Value) (a s : Nat) (w : World) (ha : NatIs w va (a * 2 ^ s)) (hla : (limbs (a * 2 ^ s)).length ≤ 1000000) (hs : s ≤ 31) :
  Calls Tryz.prog 185 #[va, .int .i64 (-(s : Int))] w fun e w' => ∃ r, e = .returned r ∧ NatIs w' r a ∧ Below w.heap.size w w' := by
 rcases Nat.eq_zero_or_pos s with rfl | h0
 ·have := shift_any va (a * 2 ^ 0) 0 w ha hla (by omega)
  simpa using this
 ·have := shift_neg va (a * 2 ^ s) s w ha hla (by omega) h0
  rwa [Nat.mul_div_cancel _ (Nat.two_pow_pos s)] at this
theorem ret_nat_nat {fn : Func} {s t : Nat} {R : Ending → World → Prop} {a : Act} {w : World} {p q : Addr} {v u : Value} (hres : fn.results = #[.cell s 180, .cell t 180]) (hp : a.tmps.getD s undef = .pointer (some p)) (hq : a.tmps.getD t undef = .pointer (some q)) (hc : w.cell? p = some v) (hc2 : w.cell? q = some u) (hd : a.defers = [])
  (hR : R (.returned (.tuple #[.agg #[v], .agg #[u]])) w) : bodyPost Tryz.prog fn R .ret a w := by
 refine bodyPost_ret (v := .tuple #[.agg #[v], .agg #[u]]) ?_ hd hR
 have hp' : a.tmps[s]?.getD undef = .pointer (some p) := by simpa using hp
 have hq' : a.tmps[t]?.getD undef = .pointer (some q) := by simpa using hq
 simp only [results, hres]
 simp [Sem.run_bind, Sem.run_pure, Result.andThen, hp', hq', asAddr, load_nat hc, load_nat hc2]
def LongPost (w : World) (a b : Nat) (e : Ending) (w' : World) : Prop := ∃ r s, e = .returned (.tuple #[r, s]) ∧ NatIs w' r (a / b) ∧ NatIs w' s (a % b) ∧ Below w.heap.size w w'
set_option maxHeartbeats 2000000 in
theorem long_any (va vb : Value) (a b n1 n2 : Nat) (w : World) (ha : NatIs w va a) (hb : NatIs w vb b) (hl : (limbs b).length = n1 + 1) (hn : n1 = n2 + 1) (hla : (limbs a).length ≤ 1000000) (hle : (limbs b).length ≤ (limbs a).length) :
  Calls Tryz.prog 207 #[va, vb] w fun e w' => LongPost w a b e w' := by
 obtain ⟨ao, ca, rfl, ha1, ha2, ha3, ha4⟩ := ha.open
 obtain ⟨bo, cb, rfl, hb1, hb2, hb3, hb4⟩ := hb.open
 obtain ⟨w0, hw0⟩ : ∃ w0, w0 = (((w.alloc (.cells #[.slice ao (limbs a).length ca] 180)).alloc (.cells #[.slice bo (limbs b).length cb] 180)).alloc (.cells #[.slice none 0 0] 180)).alloc (.cells #[.slice none 0 0] 180) := ⟨_, rfl⟩
 have hbel : Below w.heap.size w w0 := by
  rw [hw0]; exact ((((Below.refl _ w).alloc (Nat.le_refl _) _).alloc (by simp <;> omega) _).alloc (by simp <;> omega) _).alloc (by simp <;> omega) _
 have hsz0 : w0.heap.size = w.heap.size + 4 := by rw [hw0]; simp
 have hba : Box w0 w.heap.size (.slice ao (limbs a).length ca) := by
  rw [hw0]; exact ⟨by go_simp, by go_simp, by simp <;> omega⟩
 have hbb : Box w0 (w.heap.size + 1) (.slice bo (limbs b).length cb) := by
  rw [hw0]; exact ⟨by go_simp, by go_simp, by simp <;> omega⟩
 have hbr : Box w0 (w.heap.size + 2) (.slice none 0 0) := by
  rw [hw0]; exact ⟨by go_simp, by go_simp, by simp <;> omega⟩
 have hbs : Box w0 (w.heap.size + 3) (.slice none 0 0) := by
  rw [hw0]; exact ⟨by go_simp, by go_simp, by simp <;> omega⟩
 have ha0 := ha.below hbel
 have hb0 := hb.below hbel
 have hcb := hb4.below hbel
 have HW := Lib.hid hw0; clear hw0
 obtain ⟨bb, boff, rfl, hbb1, hbc⟩ : ∃ bb boff, bo = some ⟨bb, boff, none⟩ ∧ bb < w0.heap.size ∧ ∀ i, i < (limbs b).length → w0.cell? ⟨bb, boff + i, none⟩ = some (.int .u32 (((limbs b)[i]?.getD 0 : Nat) : Int)) := by
  rcases hcb with h | ⟨bb, boff, h1, h2, h3⟩
  ·rw [h] at hl; simp at hl
  ·exact ⟨bb, boff, h1, h2, h3⟩
 have htop := hbc n1 (by omega)
 have htB := getD_lt (k := n1) (limbs_lt b) (by decide)
 have ht0 : 0 < (limbs b)[n1]?.getD 0 := by
  have h1 : limbs b ≠ [] := by intro h; rw [h] at hl; simp at hl
  have h2 := limbs_getLast b h1
  rw [List.getLast_eq_getElem] at h2
  rw [List.getElem?_eq_getElem (by omega)]
  simp only [Option.getD_some]
  have h3 : (limbs b).length - 1 = n1 := by omega
  simp only [h3] at h2
  omega
 obtain ⟨hnorm, hb32, hbp⟩ := normed hl ht0
 have HB := Lib.hid hbc
 generalize (limbs b)[n1]?.getD 0 = T at *
 have e1 := hba.cell
 have e2 := hbb.cell
 have k1 : (((limbs b).length : Nat) : Int) - 1 = (n1 : Int) := by omega
 have k2 : (n1 : Int).toNat = n1 := by omega
 have k3 : (0 : Int) ≤ (n1 : Int) := by omega
 have k4 : (n1 : Int) < ((limbs b).length : Int) := by omega
 have k5 : IntKind.i64.wrap (n1 : Int) = (n1 : Int) := IntWalk.i64_in _ (by omega)
 have HL := Lib.hid hl
 have HN := Lib.hid hn
 clear hl hn hbc
 go_enter Tryz.func207, Tryz.ntmps207
 go_upto_region 1 with fail
 rw [← HW.out]
 go_wp2_with fail
 refine (Tryz.bits_LeadingZeros32 (T : Int) w0 (by omega) (by omega)).mono ?_
 rintro e w' ⟨rfl, rfl⟩
 rw [lead32 htB]
 obtain ⟨s, hs⟩ : ∃ s, s = 32 - blen T := ⟨_, rfl⟩
 rw [← hs] at hnorm ⊢
 have hs31 : s ≤ 31 := by omega
 clear hs hb32 hbp
 go_wp2_with fail
 refine (shift_any _ b s w' hb0 (by omega) (by omega)).mono ?_
 rintro e w1 ⟨r, rfl, hnv, hb1⟩
 obtain ⟨vs, hvs⟩ : ∃ vs, vs = limbs (b * 2 ^ s) := ⟨_, rfl⟩
 have hvl : vs.length = n1 + 1 := by rw [hvs]; exact hnorm.len
 have hvlt : ∀ x ∈ vs, x < 4294967296 := by rw [hvs]; exact limbs_lt _
 have hvval : val vs = b * 2 ^ s := by rw [hvs]; exact val_limbs _
 have hvtop : 2147483648 ≤ vs[n1]?.getD 0 := by rw [hvs]; exact hnorm.top
 have hvbig := hnorm.big
 obtain ⟨vo, cv, rfl, hv1, hv2, hv3, hv4⟩ := hnv.open
 rw [← hvs] at hv1 hv4 ⊢
 obtain ⟨vg, voff, rfl, hvg, hvc⟩ : ∃ vg voff, vo = some ⟨vg, voff, none⟩ ∧ vg < w1.heap.size ∧ ∀ i, i < vs.length → w1.cell? ⟨vg, voff + i, none⟩ = some (.int .u32 ((vs[i]?.getD 0 : Nat) : Int)) := by
  rcases hv4 with h | ⟨vg, voff, h1, h2, h3⟩
  ·rw [h] at hvl; simp at hvl
  ·exact ⟨vg, voff, h1, h2, h3⟩
 have HVC := Lib.hid hvc
 have HVL := Lib.hid hvl
 have HVV := Lib.hid hvval
 have HVS := Lib.hid hvs
 clear hnorm hvs hnv hvc hvl hvval hv4 e1 e2
 have hba1 := hba.kept hb1
 have e1 := hba1.cell
 go_wp2_with fail
 refine (shift_any _ a s w1 (ha0.below hb1) hla (by omega)).mono ?_
 rintro e w2 ⟨r, rfl, hnu, hb2'⟩
 obtain ⟨us0, hus0⟩ : ∃ us, us = limbs (a * 2 ^ s) := ⟨_, rfl⟩
 have huval : val us0 = a * 2 ^ s := by rw [hus0]; exact val_limbs _
 have hult : ∀ x ∈ us0, x < 4294967296 := by rw [hus0]; exact limbs_lt _
 have hulen : us0.length ≤ 1000001 := by
  rw [hus0]
  refine Nat.le_trans (limbs_length_le (k := (limbs a).length + 1) ?_) (by omega)
  have h1 := val_lt (limbs a) (limbs_lt a)
  rw [val_limbs] at h1
  rw [Nat.pow_succ]
  have h2 : (2 : Nat) ^ s ≤ 4294967296 := Nat.le_trans (Nat.pow_le_pow_right (by decide) hs31) (by decide)
  exact Nat.lt_of_lt_of_le (Nat.mul_lt_mul_of_pos_right h1 (Nat.two_pow_pos s)) (Nat.mul_le_mul_left _ h2)
 obtain ⟨uo, cu, rfl, hu1, hu2, hu3, hu4⟩ := hnu.open
 rw [← hus0] at hu1 hu4 ⊢
 have HUV := Lib.hid huval
 clear hus0 hnu huval e1
 have hba2 := hba1.kept hb2'
 have e1 := hba2.cell
 go_wp2_with fail
 refine (clone_any uo cu us0 w2 hu4 hu1 hu2 hu3 (by omega)).mono ?_
 rintro e w3 ⟨u3, rfl, ho3, hb3⟩
 have hba3 := hba2.kept hb3
 clear e1
 go_wp2_with fail
 go_loopg [8] ((limbs a).length + 1 - us0.length) (fun gg uv wr => ∃ (us : List Nat) (ug ucap : Nat), gg = (limbs a).length + 1 - us.length ∧ uv = .slice (some ⟨ug, 0, none⟩) us.length ucap ∧ us ≠ [] ∧ w2.heap.size ≤ ug ∧ ug < wr.heap.size ∧ us.length ≤ ucap ∧ ucap ≤ maxLen ∧ Owns w2.heap.size 211 wr (.slice (some ⟨ug, 0, none⟩) us.length ucap) (ints .u32 us) ∧ val us = a * 2 ^ s ∧ (∀ x ∈ us, x < 4294967296) ∧ us.length ≤ 1000001 ∧ Below w2.heap.size w2 wr)
 case atStart =>
  have hune : us0 ≠ [] := by
   intro h
   have h1 := HUV.out
   rw [h] at h1
   have h2 : a = 0 := by
    rcases Nat.eq_zero_or_pos a with h3 | h3
    ·exact h3
    ·have := Nat.mul_pos h3 (Nat.two_pow_pos s)
     rw [← h1] at this; simp [val] at this
   have h3 : (limbs a).length = 0 := by rw [h2, limbs_zero]; rfl
   have := HL.out
   omega
  obtain ⟨ug, ucap, rfl, g1, g2, g3, g4⟩ := owns_some ho3 hune
  exact ⟨us0, ug, ucap, rfl, rfl, hune, g1, g2, g3, g4, ho3, HUV.out, hult, hulen, hb3⟩
 case round =>
  obtain ⟨us, ug, ucap, rfl, rfl, hune, hug, hugw, huc1, huc2, hou, huv, hult2, hul2, hbu⟩ := hrel
  have hbar := hba2.kept hbu
  have e1 := hbar.cell
  have HUV2 := Lib.hid huv
  clear huv
  have hsz2 : w2.heap.size ≤ wr.heap.size := hbu.size
  by_cases hlen : us.length ≤ (limbs a).length
  ·go_wp2_with (at_builtin; refine append1 E32 hou rfl rfl rfl rfl rfl (by rw [ints_length]; omega) (by rw [ints_length]; unfold maxLen; omega) hsz2 ?_; intro v' w5 ho5 hb5 hg5)
   have ho6 : Owns w2.heap.size 211 w5 v' (ints .u32 (us ++ [0])) := by rw [ints_append]; exact ho5
   obtain ⟨ug', ucap', rfl, g1, g2, g3, g4⟩ := owns_some ho6 (by simp)
   have hl1 : (us ++ [0]).length = us.length + 1 := by simp
   go_roundg ((limbs a).length + 1 - (us.length + 1))
   case measure => omega
   case rel =>
    refine ⟨us ++ [0], ug', ucap', by rw [hl1], rfl, by simp, g1, g2, g3, g4, ho6, by rw [val_snoc_zero]; exact HUV2.out, ?_, by rw [hl1]; omega, hbu.trans hb5⟩
    intro x hx
    rcases List.mem_append.1 hx with h | h
    ·exact hult2 x h
    ·simp at h; omega
  ·have hmu := hou.mut
   obtain ⟨K, hK⟩ : ∃ K, us.length = K + vs.length := ⟨us.length - vs.length, by have := HVL.out; have := HL.out; omega⟩
   have hK1 : 0 < K := by have := HVL.out; have := HL.out; omega
   have kk : ((us.length : Nat) : Int) - ((vs.length : Nat) : Int) = (K : Int) := by omega
   have hlong := LongInv.start (V := b * 2 ^ s) (N := a * 2 ^ s) (n1 := n1) (s := s) (a := a) (L := us.length) HUV2.out hult2 rfl (by have := HVL.out; omega) hvbig hs31 (by
    have h1 := val_lt (limbs a) (limbs_lt a)
    rw [val_limbs] at h1
    exact Nat.lt_of_lt_of_le h1 (Nat.pow_le_pow_right (by decide) (by omega))) rfl
   rw [show us.length - (n1 + 1) = K by have := HVL.out; omega] at hlong
   have HK := Lib.hid hK
   have HLI := Lib.hid hlong
   have hul3 : us.length ≤ 1000001 := hul2
   have hKle : K ≤ 1000001 := by omega
   clear hK hlong
   go_wp2_with (at_make; refine makeN E32 (n := K) rfl rfl rfl rfl (by omega) (by unfold maxLen; omega) ?_; intro w6 hq6 hb6)
   have hmq := hq6.mut
   have hmu6 := hmu.below hb6 hugw
   have hb26 : Below w2.heap.size w2 w6 := hbu.trans (hb6.mono hbu.size)
   obtain ⟨qg, hqge⟩ : ∃ q, q = wr.heap.size := ⟨_, rfl⟩
   rw [← hqge] at hmq hugw hsz2 ⊢
   have hqg : qg < w6.heap.size := hmq.lt
   have hvg2 : vg < w2.heap.size := Nat.lt_of_lt_of_le hvg hb2'.size
   clear hqge hq6 hb6 hmu hou
   rw [HVL.out]
   go_loopg [10] K (fun gg jv wx => ∃ (us2 qs : List Nat), jv = .int .i64 ((gg : Int) - 1) ∧ gg ≤ K ∧ LongInv (b * 2 ^ s) (a * 2 ^ s) (n1 + 1) gg us2 qs ∧ us2.length = us.length ∧ qs.length = K ∧ Mut .u32 wx ug 0 us2 ∧ Mut .u32 wx qg 0 qs ∧ Below w2.heap.size w2 wx ∧ w6.heap.size ≤ wx.heap.size)
   case atStart => exact ⟨us, List.replicate K 0, rfl, Nat.le_refl _, HLI.out, rfl, by simp, hmu6, hmq, hb26, Nat.le_refl _⟩
   case round =>
    obtain ⟨us2, qs, rfl, hgK, hinv, hu2l, hql, hmu7, hmq7, hb7, hsz7⟩ := hrel
    by_cases hg0 : gk = 0
    ·subst hg0
     obtain ⟨d1, d2⟩ := hinv.done
     rw [Nat.mul_div_mul_right _ _ (Nat.two_pow_pos s)] at d1
     rw [Nat.mul_mod_mul_right] at d2
     have hqlt := hinv.qlt
     have hult9 := hinv.ult
     have ht1 := trim_any (some ⟨qg, 0, none⟩) K qs wr hmq7.cells (by omega) (by unfold maxLen; omega) hqlt
     have hn1 := fun W (hW : Below wr.heap.size wr W) => trim_nat (w' := W) (cap := K) (hmq7.cells.below hW) (by omega) hqlt (by unfold maxLen; omega)
     have hn2 := fun W (hW : Below wr.heap.size wr W) => trim_nat (w' := W) (cap := ucap) (hmu7.cells.below hW) (by omega) hult9 huc2
     have ht2 := fun W (hW : Below wr.heap.size wr W) => trim_any (some ⟨ug, 0, none⟩) ucap us2 W (hmu7.cells.below hW) (by omega) huc2 hult9
     rw [hql] at ht1
     rw [hu2l] at ht2
     rw [d1] at hn1 ht1
     rw [d2] at hn2 ht2
     have HT2 := Lib.hid ht2
     have HN1 := Lib.hid hn1
     have HN2 := Lib.hid hn2
     have hbr7 := ((hbr.kept hb1).kept hb2').kept hb7
     have hbs7 := ((hbs.kept hb1).kept hb2').kept hb7
     clear hinv d1 d2 hql hu2l ht2 hn1 hn2 e1 kk
     go_wp2_with fail
     refine ht1.mono ?_
     rintro e w7 ⟨rfl, hb7t⟩
     go_wp2_with fail
     refine (HT2.out w7 hb7t).mono ?_
     rintro e w8 ⟨rfl, hb8⟩
     have hb78 := hb7t.trans (hb8.mono hb7t.size)
     have hlm : (limbs (a % b * 2 ^ s)).length ≤ 1000000 := by
      have h1 : 0 < b := by
       rcases Nat.eq_zero_or_pos b with h2 | h2
       ·have := HL.out; rw [h2, limbs_zero] at this; simp at this
       ·exact h2
      have h3 := limbs_length_mono (Nat.mul_le_mul_right (2 ^ s) (Nat.le_of_lt (Nat.mod_lt a h1)))
      have h4 := HVS.out
      have h5 := HVL.out
      have h6 := HL.out
      rw [← h4] at h3
      omega
     have hneg : IntKind.i64.wrap (-(s : Int)) = -(s : Int) := IntWalk.i64_in _ (by omega)
     go_wp2_with fail
     refine (shift_back _ (a % b) s w8 (HN2.out w8 hb78) hlm hs31).mono ?_
     rintro e w9 ⟨r, rfl, hn9, hb9⟩
     have hb79 := hb78.trans (hb9.mono hb78.size)
     have hnq := HN1.out w9 hb79
     obtain ⟨ro, rc, rfl, _, _, _, _⟩ := hn9.open
     have hbr9 := ((hbr7.kept hb7t).kept hb8).kept hb9
     have hbs9 := ((hbs7.kept hb7t).kept hb8).kept hb9
     have c1 := hbr9.cell
     have c2 := hbs9.cell
     have f1 := hbr9.free
     have f2 := hbs9.free
     have hB9 : Below w.heap.size w w9 := hbel.trans ((hb1.trans ((hb2'.trans ((hb7.trans (hb79.mono hb7.size)).mono hb2'.size)).mono hb1.size)).mono hbel.size)
     clear hmu7 hmq7
     go_wp2
     refine ret_nat_nat rfl rfl rfl (World.cell?_of_block (a := ⟨w.heap.size + 2, 0, none⟩) ((grownBy_set (grownBy_refl _ (some (w.heap.size + 3))) 0 _).block _ (by simp; exact hbr9.lt) (by simp)) |>.trans (cell_set c1)) (cell_set (((hbs9.setOther (by omega) 0 _)).cell)) rfl ⟨_, _, rfl, ?_, ?_, ?_⟩
     ·exact (hnq.set _ _ (fun n e => by rw [c1] at e; cases e)).set _ _ (fun n e => by rw [(hbs9.setOther (by omega) 0 _).cell] at e; cases e)
     ·exact (hn9.set _ _ (fun n e => by rw [c1] at e; cases e)).set _ _ (fun n e => by rw [(hbs9.setOther (by omega) 0 _).cell] at e; cases e)
     ·exact (hB9.setCell (p := ⟨w.heap.size + 2, 0, none⟩) (by simp) _).setCell (p := ⟨w.heap.size + 3, 0, none⟩) (by simp) _
    ·obtain ⟨j, rfl⟩ : ∃ j, gk = j + 1 := ⟨gk - 1, by omega⟩
     have ej : ((j + 1 : Nat) : Int) - 1 = (j : Int) := by omega
     rw [ej]
     obtain ⟨hgi, hz⟩ := hinv.guess HN.out HVV.out HVL.out hvlt hvtop (by rw [hu2l]; have := HK.out; have := HVL.out; omega)
     have hA : (us2.take j).length = j := by rw [List.length_take, Nat.min_eq_left (by omega)]
     have hsplit : us2 = us2.take j ++ (us2.drop j).take (n1 + 2) ++ us2.drop (j + (n1 + 2)) := by
      rw [List.append_assoc, ← List.drop_drop, List.take_append_drop, List.take_append_drop]
     have hvw : ∀ i, i < vs.length → wr.cell? ⟨vg, voff + i, none⟩ = some (.int .u32 ((vs[i]?.getD 0 : Nat) : Int)) := fun i hi =>
      ((hb7.cell (p := ⟨vg, voff + i, none⟩) hvg2).trans (hb2'.cell (p := ⟨vg, voff + i, none⟩) hvg)).trans (HVC.out i hi)
     have hmu8 := hmu7
     rw [hsplit] at hmu8
     have hstep := fun cu' => step_any ug cu' vg voff cv (n1 + 1) n1 n2 (us2.take j) ((us2.drop j).take (n1 + 2)) (us2.drop (j + (n1 + 2))) vs wr rfl HN.out hgi (by have := HL.out; omega) (by rw [hA]; omega) (by omega) hmu8 hvw
     rw [hA] at hstep
     have HSP := Lib.hid hsplit
     have HSTEP := Lib.hid hstep
     have HA := Lib.hid hA
     have HINV := Lib.hid hinv
     have hjl : j < qs.length := by omega
     have hqc := hmq7.cell j hjl
     have hqf := hmq7.free j hjl
     rw [Nat.zero_add] at hqc hqf
     have HQL := Lib.hid hql
     have HU2 := Lib.hid hu2l
     have hcap1 : j + (n1 + 1) + 1 ≤ ucap := by have := HK.out; have := HVL.out; omega
     have hcap2 : (j : Int) + ((n1 : Int) + 1) + 1 ≤ (ucap : Int) := by omega
     have hlen9 : j + (n1 + 1) + 1 - j = n1 + 1 + 1 := by omega
     have hHL : Hid (j + (n1 + 1) + 1 - j = n1 + 1 + 1) := Lib.hid hlen9
     clear hsplit hstep hA hinv hmu8 ej hvw e1 kk hql hu2l hlen9
     go_wp2_with fail
     rw [hHL.out]
     refine (HSTEP.out _).mono ?_
     rintro e w7 ⟨rfl, ws, hwl, hwlt, hwv, hmw, hgr⟩
     have hqc7 := (World.cell?_of_block (a := ⟨qg, j, none⟩) (hgr.block qg (Nat.lt_of_lt_of_le hqg hsz7) (by simp; omega))).trans hqc
     have hqf7 := (World.frozen?_of_block (a := ⟨qg, j, none⟩) (hgr.block qg (Nat.lt_of_lt_of_le hqg hsz7) (by simp; omega))).trans hqf
     have hmq8 := hmq7.kept (hgr.block qg (Nat.lt_of_lt_of_le hqg hsz7) (by simp; omega)) hgr.size
     have hVpos := hgi.pos
     have hQlt := hgi.lt
     rw [HVV.out] at hwv hQlt hVpos ⊢
     generalize hDe : val ((us2.drop j).take (n1 + 2)) / (b * 2 ^ s) = D at *
     have hnext := HINV.out.next hVpos (by have := HK.out; have := HU2.out; have := HVL.out; omega) hjl hz (by rw [hwl]; exact hgi.ul.trans (by have := HN.out; omega)) hwlt hwv (by rw [hDe]; exact hQlt)
     rw [hDe] at hnext
     have HNX := Lib.hid hnext
     have hms := hmq8.set j D hjl
     rw [Nat.zero_add] at hms
     have HMS := Lib.hid hms
     clear hnext hms hDe
     go_wp2_with fail
     go_roundg j
     case measure => omega
     case rel =>
      refine ⟨_, _, by go_num, by omega, HNX.out, ?_, by rw [List.length_set]; exact HQL.out, ?_, HMS.out, ?_, ?_⟩
      ·have h1 : ws.length = n1 + 2 := by rw [hwl]; exact hgi.ul.trans (by have := HN.out; omega)
       rw [List.length_append, List.length_append, HA.out, h1, List.length_drop, HU2.out]
       have := HK.out; have := HVL.out; omega
      ·exact hmw.kept ((grownBy_set (grownBy_refl w7 (some qg)) j _).block ug hmw.lt (by simp; omega)) (by simp)
      ·exact (below_of_grown_of hb7 hgr hug hb7.size).setCell (p := ⟨qg, j, none⟩) (by simpa using hsz2) _
      ·have := hgr.size; simp; omega
end Go.Proofs.YtcpfanpcdkoiaaaGreat
namespace Go.Proofs.YtcpfanpcdkoiaaaGreat
open Go.RowKit


attribute [local go_sem] and_low field_nat
def DivPost (w : World) (a b : Nat) (e : Ending) (w' : World) : Prop := ∃ r s, e = .returned (.tuple #[r, s, .bool (decide (b ≠ 0))]) ∧ NatIs w' r (a / b) ∧ NatIs w' s (if b = 0 then 0 else a % b) ∧ Below w.heap.size w w'
theorem ret_nat_nat_tmp {fn : Func} {s t k : Nat} {R : Ending → World → Prop} {a : Act} {w : World} {p q : Addr} {v u x : Value} (hres : fn.results = #[.cell s 180, .cell t 180, .tmp k]) (hp : a.tmps.getD s undef = .pointer (some p)) (hq : a.tmps.getD t undef = .pointer (some q)) (hx : a.tmps.getD k undef = x)
  (hc : w.cell? p = some v) (hc2 : w.cell? q = some u) (hd : a.defers = []) (hR : R (.returned (.tuple #[.agg #[v], .agg #[u], x])) w) : bodyPost Tryz.prog fn R .ret a w := by
 refine bodyPost_ret (v := .tuple #[.agg #[v], .agg #[u], x]) ?_ hd hR
 have hp' : a.tmps[s]?.getD undef = .pointer (some p) := by simpa using hp
 have hq' : a.tmps[t]?.getD undef = .pointer (some q) := by simpa using hq
 have hx' : a.tmps[k]?.getD undef = x := by simpa using hx
 simp only [results, hres]
 simp [Sem.run_bind, Sem.run_pure, Result.andThen, hp', hq', hx', asAddr, load_nat hc, load_nat hc2]
theorem div_end {fn : Func} {w w9 : World} {a b : Nat} {act : Act} {ro so : Option Addr} {rl rc sl sc : Nat} (hres : fn.results = #[.cell 4 180, .cell 5 180, .tmp 6])
  (hp : act.tmps.getD 4 undef = .pointer (some ⟨w.heap.size + 2, 0, none⟩)) (hq : act.tmps.getD 5 undef = .pointer (some ⟨w.heap.size + 3, 0, none⟩)) (hx : act.tmps.getD 6 undef = .bool (decide (b ≠ 0))) (hd : act.defers = [])
  (hbr : Box w9 (w.heap.size + 2) (.slice none 0 0)) (hbs : Box w9 (w.heap.size + 3) (.slice none 0 0)) (hn : NatIs w9 (.agg #[.slice ro rl rc]) (a / b)) (hm : NatIs w9 (.agg #[.slice so sl sc]) (if b = 0 then 0 else a % b)) (hB : Below w.heap.size w w9) :
  bodyPost Tryz.prog fn (fun e w' => DivPost w a b e w') .ret act ((w9.setCell ⟨w.heap.size + 2, 0, none⟩ (.slice ro rl rc)).setCell ⟨w.heap.size + 3, 0, none⟩ (.slice so sl sc)) := by
 have c1 := hbr.cell
 refine ret_nat_nat_tmp hres hp hq hx (World.cell?_of_block (a := ⟨w.heap.size + 2, 0, none⟩) ((grownBy_set (grownBy_refl _ (some (w.heap.size + 3))) 0 _).block _ (by simp; exact hbr.lt) (by simp)) |>.trans (cell_set c1)) (cell_set (((hbs.setOther (by omega) 0 _)).cell)) hd ⟨_, _, rfl, ?_, ?_, ?_⟩
 ·exact (hn.set _ _ (fun n e => by rw [c1] at e; cases e)).set _ _ (fun n e => by rw [(hbs.setOther (by omega) 0 _).cell] at e; cases e)
 ·exact (hm.set _ _ (fun n e => by rw [c1] at e; cases e)).set _ _ (fun n e => by rw [(hbs.setOther (by omega) 0 _).cell] at e; cases e)
 ·exact (hB.setCell (p := ⟨w.heap.size + 2, 0, none⟩) (by simp) _).setCell (p := ⟨w.heap.size + 3, 0, none⟩) (by simp) _
set_option maxHeartbeats 2000000 in
theorem divmod_any (va vb : Value) (a b : Nat) (w : World) (ha : NatIs w va a) (hb : NatIs w vb b) (hla : (limbs a).length ≤ 1000000) (hlb : (limbs b).length ≤ 1000000) :
  Calls Tryz.prog 202 #[va, vb] w fun e w' => DivPost w a b e w' := by
 obtain ⟨ao, ca, rfl, ha1, ha2, ha3, ha4⟩ := ha.open
 obtain ⟨bo, cb, rfl, hb1, hb2, hb3, hb4⟩ := hb.open
 obtain ⟨w0, hw0⟩ : ∃ w0, w0 = (((w.alloc (.cells #[.slice ao (limbs a).length ca] 180)).alloc (.cells #[.slice bo (limbs b).length cb] 180)).alloc (.cells #[.slice none 0 0] 180)).alloc (.cells #[.slice none 0 0] 180) := ⟨_, rfl⟩
 have hbel : Below w.heap.size w w0 := by
  rw [hw0]; exact ((((Below.refl _ w).alloc (Nat.le_refl _) _).alloc (by simp <;> omega) _).alloc (by simp <;> omega) _).alloc (by simp <;> omega) _
 have hsz0 : w0.heap.size = w.heap.size + 4 := by rw [hw0]; simp
 have hba : Box w0 w.heap.size (.slice ao (limbs a).length ca) := by
  rw [hw0]; exact ⟨by go_simp, by go_simp, by simp <;> omega⟩
 have hbb : Box w0 (w.heap.size + 1) (.slice bo (limbs b).length cb) := by
  rw [hw0]; exact ⟨by go_simp, by go_simp, by simp <;> omega⟩
 have hbr : Box w0 (w.heap.size + 2) (.slice none 0 0) := by
  rw [hw0]; exact ⟨by go_simp, by go_simp, by simp <;> omega⟩
 have hbs : Box w0 (w.heap.size + 3) (.slice none 0 0) := by
  rw [hw0]; exact ⟨by go_simp, by go_simp, by simp <;> omega⟩
 have ha0 := ha.below hbel
 have hb0 := hb.below hbel
 have HW := Lib.hid hw0; clear hw0
 have e2 := hbb.cell
 go_enter Tryz.func202, Tryz.ntmps202
 go_upto_region 1 with fail
 rw [← HW.out]
 go_wp2_with fail
 refine (zero_any _ b w0 hb0).mono ?_
 rintro e w1 ⟨rfl, hb1⟩
 have hba1 := hba.kept hb1
 have hbb1 := hbb.kept hb1
 have hbr1 := hbr.kept hb1
 have hbs1 := hbs.kept hb1
 have c3 := hbr1.cell
 have c4 := hbs1.cell
 have f3 := hbr1.free
 have f4 := hbs1.free
 clear e2
 by_cases hz : b = 0
 ·have HZ := Lib.hid hz
  simp only [decide_eq_true hz]
  clear hz
  go_wp2
  refine div_end rfl rfl rfl (by rw [HZ.out]; rfl) rfl hbr1 hbs1 (by rw [HZ.out, Nat.div_zero]; exact NatIs.zero _) (by rw [if_pos HZ.out]; exact NatIs.zero _) (hbel.trans (hb1.mono hbel.size))
 ·simp only [decide_eq_false hz]
  have ea := hba1.cell
  have eb := hbb1.cell
  have HZ : Hid (¬ b = 0) := Lib.hid hz
  clear hz c3 c4 f3 f4
  go_wp2_with fail
  refine (cmp_any _ _ a b w1 (ha0.below hb1) (hb0.below hb1)).mono ?_
  rintro e w2 ⟨rfl, hb2'⟩
  have hb02 := hb1.trans (hb2'.mono hb1.size)
  have hba2 := hba1.kept hb2'
  have hbb2 := hbb1.kept hb2'
  have hbr2 := hbr1.kept hb2'
  have hbs2 := hbs1.kept hb2'
  have c1 := hba2.cell
  have c2 := hbb2.cell
  have c3 := hbr2.cell
  have c4 := hbs2.cell
  have f3 := hbr2.free
  have f4 := hbs2.free
  clear ea eb
  by_cases hlt : a < b
  ·have hc : cmpI a b = -1 := by unfold cmpI; rw [if_pos hlt]
   rw [hc]
   have HLT := Lib.hid hlt
   clear hlt hc
   go_wp2_with fail
   go_region
   all_goals
    go_wp2
    have hdr : Below w2.heap.size w2 w2.drew := (Below.refl _ _).drew
    exact div_end (w9 := w2.drew) rfl rfl rfl (by have := HZ.out; simp [this]) rfl hbr2.drew hbs2.drew (by rw [Nat.div_eq_of_lt HLT.out]; exact NatIs.zero _) (by rw [if_neg HZ.out, Nat.mod_eq_of_lt HLT.out]; exact (ha0.below hb02).below hdr) (hbel.trans ((hb02.trans (hdr.mono hb02.size)).mono hbel.size))
  ·have hc : (0 : Int) ≤ cmpI a b := by unfold cmpI; rw [if_neg hlt]; split <;> omega
   generalize cmpI a b = cc at *
   have hge : b ≤ a := by omega
   have hll := limbs_length_mono hge
   have hlp : 0 < (limbs b).length := by
    rcases Nat.eq_zero_or_pos (limbs b).length with h | h
    ·exact (HZ.out (limbs_eq_nil.1 (List.eq_nil_of_length_eq_zero h))).elim
    ·exact h
   by_cases h1 : (limbs b).length = 1
   ·obtain ⟨bg, boff, rfl, hbg, hbc⟩ : ∃ bg boff, bo = some ⟨bg, boff, none⟩ ∧ bg < w2.heap.size ∧ w2.cell? ⟨bg, boff, none⟩ = some (.int .u32 (b : Int)) := by
     have hcb := (hb4.below hbel).below (hb02.mono (Nat.le_refl _))
     rcases hcb with h | ⟨bg, boff, k1, k2, k3⟩
     ·rw [h] at h1; simp at h1
     ·refine ⟨bg, boff, k1, k2, ?_⟩
      have k4 := k3 0 (by omega)
      have k5 : (limbs b)[0]?.getD 0 = b := by
       have k6 := val_limbs b
       obtain ⟨x, hx⟩ := List.length_eq_one_iff.1 h1
       rw [hx] at k6 ⊢
       simpa [val] using k6
      rw [k5, Nat.add_zero] at k4
      exact k4
    have hbB : b < 4294967296 := by
     have k6 := val_limbs b
     obtain ⟨x, hx⟩ := List.length_eq_one_iff.1 h1
     have k7 := limbs_lt b x (by rw [hx]; simp)
     rw [hx] at k6
     simp [val] at k6
     omega
    have hca2 := (ha4.below hbel).below (hb02.mono (Nat.le_refl _))
    have hb1i : (((limbs b).length : Nat) : Int) = 1 := by omega
    have hbp : 0 < b := by have := HZ.out; omega
    have hane : limbs a ≠ [] := by
     intro h
     have := limbs_eq_nil.1 h
     omega
    have HB1 := Lib.hid h1
    clear hlt h1
    go_wp2_with fail
    refine (clone_any ao ca (limbs a) w2 hca2 ha1 ha2 ha3 (by omega)).mono ?_
    rintro e w3 ⟨lv, rfl, ho3, hb3⟩
    obtain ⟨lg, lcap, rfl, g1, g2, g3, g4⟩ := owns_some ho3 hane
    have hmu3 := ho3.mut
    have hbb3 := hbb2.kept hb3
    have hbr3 := hbr2.kept hb3
    have hbs3 := hbs2.kept hb3
    have hbc3 := (hb3.cell (p := ⟨bg, boff, none⟩) hbg).trans hbc
    have c5 := hbb3.cell
    have HB0 := Lib.hid hb1i
    clear c1 c2 c3 c4 f3 f4 hbc hb1i ho3
    have hb1j : (0 : Int) < (((limbs b).length : Nat) : Int) := by have := HB0.out; omega
    go_wp2_with fail
    refine (less_any lg 0 lcap (limbs a) b w3 hmu3 (limbs_lt a) hbp hbB (by omega)).mono ?_
    rintro e w4 ⟨rfl, hm4, hg4⟩
    obtain ⟨hq, hr⟩ := divL_eq (limbs a) b hbp
    have hr9 := divL_rest (limbs a) b hbp
    have hdlt := divL_lt (limbs a) b (limbs_lt _) hbp (Nat.le_of_lt hbB)
    have hdln := divL_length (limbs a) b
    rw [val_limbs] at hq hr
    generalize (divL (limbs a) b).1 = ys at *
    generalize (divL (limbs a) b).2 = r at *
    have hbr4 := hbr3.grown hg4 (by have := hbr2.lt; omega)
    have hbs4 := hbs3.grown hg4 (by have := hbs2.lt; omega)
    have hb24 : Below w2.heap.size w2 w4 := below_of_grown_of hb3 hg4 g1 hb3.size
    clear c5 hbc3 hmu3
    rw [← hdln] at g3 ⊢
    have hn4 := trim_nat (cap := lcap) hm4.cells g3 hdlt g4
    rw [hq] at hn4
    have HQ := Lib.hid hq
    have HR := Lib.hid hr
    have HL := Lib.hid hdln
    clear hq hr hdln
    go_wp2_with fail
    refine (trim_any (some ⟨lg, 0, none⟩) lcap ys w4 hm4.cells g3 g4 hdlt).mono ?_
    rintro e w5 ⟨rfl, hb5⟩
    rw [HQ.out]
    go_wp2_with fail
    refine (of_any r w5 (by omega)).mono ?_
    rintro e w6 ⟨rv, rfl, hn6, hb6⟩
    have hb46 := hb5.trans (hb6.mono hb5.size)
    have hbr6 := (hbr4.kept hb5).kept hb6
    have hbs6 := (hbs4.kept hb5).kept hb6
    have hq6 := hn4.below hb46
    obtain ⟨ro, rc, rfl, _, _, _, _⟩ := hn6.open
    have c3 := hbr6.cell
    have c4 := hbs6.cell
    have f3 := hbr6.free
    have f4 := hbs6.free
    go_wp2
    refine div_end (w9 := w6) rfl rfl rfl (by have := HZ.out; simp [this]) rfl hbr6 hbs6 hq6 (by rw [if_neg HZ.out, ← HR.out]; exact hn6) (hbel.trans ((hb02.trans ((hb24.trans (hb46.mono hb24.size)).mono hb02.size)).mono hbel.size))
   ·obtain ⟨n2, hn2⟩ : ∃ n2, (limbs b).length = n2 + 1 + 1 := ⟨(limbs b).length - 2, by omega⟩
    have hne1 : ¬ (((limbs b).length : Nat) : Int) = 1 := by omega
    have HN2 := Lib.hid hn2
    clear hn2 hlt h1
    go_wp2_with fail
    refine (long_any _ _ a b (n2 + 1) n2 w2 (ha0.below hb02) (hb0.below hb02) HN2.out rfl hla hll).mono ?_
    rintro e w3 ⟨r, sx, rfl, hr, hsx, hb3⟩
    obtain ⟨ro, rc, rfl, _, _, _, _⟩ := hr.open
    obtain ⟨so, sc, rfl, _, _, _, _⟩ := hsx.open
    have hbr3 := hbr2.kept hb3
    have hbs3 := hbs2.kept hb3
    obtain ⟨w4, hw4⟩ : ∃ w4, w4 = (w3.alloc (.cells #[.slice ro (limbs (a / b)).length rc] 180)).alloc (.cells #[.slice so (limbs (a % b)).length sc] 180) := ⟨_, rfl⟩
    have hb4 : Below w3.heap.size w3 w4 := by rw [hw4]; exact ((Below.refl _ w3).alloc (Nat.le_refl _) _).alloc (by simp) _
    have hx9 : Box w4 w3.heap.size (.slice ro (limbs (a / b)).length rc) := by rw [hw4]; exact ⟨by go_simp, by go_simp, by simp <;> omega⟩
    have hx10 : Box w4 (w3.heap.size + 1) (.slice so (limbs (a % b)).length sc) := by rw [hw4]; exact ⟨by go_simp, by go_simp, by simp <;> omega⟩
    have hbr4 := hbr3.kept hb4
    have hbs4 := hbs3.kept hb4
    have hr4 := hr.below hb4
    have hs4 := hsx.below hb4
    have hb24 := hb3.trans (hb4.mono hb3.size)
    have HW4 := Lib.hid hw4
    clear hw4 c1 c2 c3 c4 f3 f4
    have c3 := hbr4.cell
    have c4 := hbs4.cell
    have f3 := hbr4.free
    have f4 := hbs4.free
    have c9 := hx9.cell
    have c10 := hx10.cell
    go_upto_region 10 with fail
    rw [← HW4.out]
    have hlt3 := hbs3.lt
    obtain ⟨q9, hq9⟩ : ∃ q, q = w3.heap.size := ⟨_, rfl⟩
    obtain ⟨q10, hq10⟩ : ∃ q, q = q9 + 1 := ⟨_, rfl⟩
    rw [← hq9] at c9 c10 hlt3 ⊢
    rw [← hq10] at c10 ⊢
    have x1 : ¬ (q10 = w.heap.size + 1 + 1) := by omega
    have x2 : ¬ (w.heap.size + 1 + 1 = q10) := by omega
    have x3 : ¬ (q9 = w.heap.size + 1 + 1 + 1) := by omega
    have x4 : ¬ (w.heap.size + 1 + 1 + 1 = q9) := by omega
    have x5 : ¬ (q9 = w.heap.size + 1 + 1) := by omega
    have x6 : ¬ (q10 = w.heap.size + 1 + 1 + 1) := by omega
    clear hq9 hq10
    go_region
    all_goals
     go_wp2
     have hdr : Below w4.heap.size w4 w4.drew := (Below.refl _ _).drew
     exact div_end (w9 := w4.drew) rfl rfl rfl (by have := HZ.out; simp [this]) rfl hbr4.drew hbs4.drew (hr4.below hdr) (by rw [if_neg HZ.out]; exact hs4.below hdr) (hbel.trans ((hb02.trans ((hb24.trans (hdr.mono hb24.size)).mono hb02.size)).mono hbel.size))
end Go.Proofs.YtcpfanpcdkoiaaaGreat
namespace Go.Proofs.YtcpfanpcdkoiaaaGreat
open Go.RowKit


attribute [local go_sem] and_low field_nat
set_option maxHeartbeats 1000000 in
theorem gcd_any (va vb : Value) (a b : Nat) (w : World) (ha : NatIs w va a) (hb : NatIs w vb b) (hla : (limbs a).length ≤ 1000000) (hlb : (limbs b).length ≤ 1000000) :
  Calls Tryz.prog 201 #[va, vb] w fun e w' => ∃ r, e = .returned r ∧ NatIs w' r (Nat.gcd a b) ∧ Below w.heap.size w w' := by
 obtain ⟨ao, ca, rfl, ha1, ha2, ha3, ha4⟩ := ha.open
 obtain ⟨bo, cb, rfl, hb1, hb2, hb3, hb4⟩ := hb.open
 obtain ⟨w0, hw0⟩ : ∃ w0, w0 = ((w.alloc (.cells #[.slice ao (limbs a).length ca] 180)).alloc (.cells #[.slice bo (limbs b).length cb] 180)).alloc (.cells #[.slice none 0 0] 180) := ⟨_, rfl⟩
 have hbel : Below w.heap.size w w0 := by
  rw [hw0]; exact (((Below.refl _ w).alloc (Nat.le_refl _) _).alloc (by simp <;> omega) _).alloc (by simp <;> omega) _
 have hba : Box w0 w.heap.size (.slice ao (limbs a).length ca) := by
  rw [hw0]; exact ⟨by go_simp, by go_simp, by simp <;> omega⟩
 have hbb : Box w0 (w.heap.size + 1) (.slice bo (limbs b).length cb) := by
  rw [hw0]; exact ⟨by go_simp, by go_simp, by simp <;> omega⟩
 have hbr : Box w0 (w.heap.size + 2) (.slice none 0 0) := by
  rw [hw0]; exact ⟨by go_simp, by go_simp, by simp <;> omega⟩
 have ha0 := ha.below hbel
 have hb0 := hb.below hbel
 have HW := Lib.hid hw0; clear hw0 ha hb ha1 ha2 ha3 ha4 hb1 hb2 hb3 hb4
 go_enter Tryz.func201, Tryz.ntmps201
 go_wp2_with fail
 rw [← HW.out]
 go_loopg [7] b (fun gg uv wr => ∃ (x : Nat) (xo yo : Option Addr) (xl xc yl yc : Nat), Box wr w.heap.size (.slice xo xl xc) ∧ Box wr (w.heap.size + 1) (.slice yo yl yc) ∧ Box wr (w.heap.size + 2) (.slice none 0 0) ∧ NatIs wr (.agg #[.slice xo xl xc]) x ∧ NatIs wr (.agg #[.slice yo yl yc]) gg ∧ (limbs x).length ≤ 1000000 ∧ (limbs gg).length ≤ 1000000 ∧ Nat.gcd x gg = Nat.gcd a b ∧ Below w.heap.size w wr)
 case atStart => exact ⟨a, _, _, _, _, _, _, hba, hbb, hbr, ha0, hb0, hla, hlb, rfl, hbel⟩
 case round =>
  obtain ⟨x, xo, yo, xl, xc, yl, yc, hbx, hby, hbz, hnx, hny, hlx, hly, hg, hbw⟩ := hrel
  have HG := Lib.hid hg; clear hg
  have e1 := hby.cell
  go_wp2_with fail
  refine (zero_any _ _ wr hny).mono ?_
  rintro e w1 ⟨rfl, hb1⟩
  have hbx1 := hbx.kept hb1
  have hby1 := hby.kept hb1
  have hbz1 := hbz.kept hb1
  have e2 := hbx1.cell
  have e3 := hby1.cell
  clear e1
  by_cases hz : gk = 0
  ·have HZ := Lib.hid hz
   simp only [decide_eq_true hz]
   clear hz
   have e4 := hbz1.cell
   have f4 := hbz1.free
   have hfin := hbw.trans (hb1.mono hbw.size)
   have hgx : Nat.gcd a b = x := by rw [← HG.out, HZ.out, Nat.gcd_zero_right]
   have hn1 := (hnx.below hb1).set ⟨w.heap.size + 2, 0, none⟩ (.slice xo xl xc) (fun n e => by rw [e4] at e; cases e)
   rw [← hgx] at hn1
   clear hgx
   go_wp2
   exact ret_nat rfl rfl (cell_set e4) rfl ⟨_, rfl, hn1, hfin.setCell (p := ⟨w.heap.size + 2, 0, none⟩) (by simp) _⟩
  ·simp only [decide_eq_false hz]
   have HZ : Hid (¬ gk = 0) := Lib.hid hz
   clear hz
   go_wp2_with fail
   refine (divmod_any _ _ x gk w1 (hnx.below hb1) (hny.below hb1) hlx hly).mono ?_
   rintro e w2 ⟨q, s, rfl, hq, hs, hb2⟩
   rw [if_neg HZ.out] at hs
   obtain ⟨qo, qc, rfl, _, _, _, _⟩ := hq.open
   obtain ⟨so, sc, rfl, _, _, _, _⟩ := hs.open
   have hbx2 := hbx1.kept hb2
   have hby2 := hby1.kept hb2
   have hbz2 := hbz1.kept hb2
   have hb12 := hb1.trans (hb2.mono hb1.size)
   have hny2 := hny.below hb12
   generalize (limbs (x / gk)).length = ql at *
   obtain ⟨sl, hsl⟩ : ∃ sl, sl = (limbs (x % gk)).length := ⟨_, rfl⟩
   rw [← hsl] at hs ⊢
   have hsl2 : sl ≤ 1000000 := by rw [hsl]; exact Nat.le_trans (limbs_length_mono (Nat.le_of_lt (Nat.mod_lt _ (by have := HZ.out; omega)))) hly
   have HSL := Lib.hid hsl
   obtain ⟨w3, hw3⟩ : ∃ w3, w3 = (w2.alloc (.cells #[.slice qo ql qc] 180)).alloc (.cells #[.slice so sl sc] 180) := ⟨_, rfl⟩
   have hb3 : Below w2.heap.size w2 w3 := by rw [hw3]; exact ((Below.refl _ w2).alloc (Nat.le_refl _) _).alloc (by simp) _
   have hs9 : Box w3 (w2.heap.size + 1) (.slice so sl sc) := by rw [hw3]; exact ⟨by go_simp, by go_simp, by simp <;> omega⟩
   have hbx3 := hbx2.kept hb3
   have hby3 := hby2.kept hb3
   have hbz3 := hbz2.kept hb3
   have hs3 := hs.below hb3
   have hny3 := hny2.below hb3
   have hb23 := hb12.trans (hb3.mono hb12.size)
   have hlt2 : w.heap.size + 2 < w2.heap.size := hbz2.lt
   have HW3 := Lib.hid hw3
   clear hw3 e2 e3 hsl
   have c1 := hbx3.cell
   have c2 := hby3.cell
   have c3 := hs9.cell
   have f1 := hbx3.free
   have f2 := hby3.free
   go_upto_region 3 with fail
   rw [← HW3.out]
   obtain ⟨q9, hq9⟩ : ∃ q, q = w2.heap.size := ⟨_, rfl⟩
   obtain ⟨q10, hq10⟩ : ∃ q, q = q9 + 1 := ⟨_, rfl⟩
   rw [← hq9] at c3 ⊢
   rw [← hq10] at c3 ⊢
   have x1 : ¬ (q10 = w.heap.size) := by omega
   have x2 : ¬ (w.heap.size = q10) := by omega
   have x3 : ¬ (q10 = w.heap.size + 1) := by omega
   have x4 : ¬ (w.heap.size + 1 = q10) := by omega
   clear hq9 hq10
   go_region
   all_goals
    go_wp2
    have hdr : Below w3.heap.size w3 w3.drew := (Below.refl _ _).drew
    go_roundg (x % gk)
    case measure => exact Nat.mod_lt _ (by have := HZ.out; omega)
    case rel =>
     refine ⟨gk, yo, so, yl, yc, sl, sc, ?_, ?_, ?_, ?_, ?_, hly, ?_, ?_, ?_⟩
     ·exact (hbx3.drew.set _).setOther (by omega) 0 _
     ·exact (hby3.drew.setOther (by omega) 0 _).set _
     ·exact (hbz3.drew.setOther (by omega) 0 _).setOther (by omega) 0 _
     ·exact ((hny3.below hdr).set _ _ (fun n e => by rw [hbx3.drew.cell] at e; cases e)).set _ _ (fun n e => by rw [(hby3.drew.setOther (by omega) 0 _).cell] at e; cases e)
     ·exact ((hs3.below hdr).set _ _ (fun n e => by rw [hbx3.drew.cell] at e; cases e)).set _ _ (fun n e => by rw [(hby3.drew.setOther (by omega) 0 _).cell] at e; cases e)
     ·rw [← HSL.out]; exact hsl2
     ·rw [← HG.out, Nat.gcd_comm gk (x % gk), ← Nat.gcd_rec, Nat.gcd_comm]
     ·exact ((hbw.trans ((hb23.trans (hdr.mono hb23.size)).mono hbw.size)).setCell (p := ⟨w.heap.size, 0, none⟩) (by simp) _).setCell (p := ⟨w.heap.size + 1, 0, none⟩) (by simp) _
end Go.Proofs.YtcpfanpcdkoiaaaGreat
namespace Go.Proofs.YtcpfanpcdkoiaaaGreat
open Go.RowKit


attribute [local go_sem] and_low field_nat
end Go.Proofs.YtcpfanpcdkoiaaaGreat
