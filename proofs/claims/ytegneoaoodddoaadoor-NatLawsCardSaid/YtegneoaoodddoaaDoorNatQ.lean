/-
  nat: walks (15): guess.
-/
import Derived.Test.YtegneoaoodddoaaDoorNatK
import Derived.Test.YtegneoaoodddoaaDoorMathG
import Derived.BigQuiet
namespace Go.Proofs.YtegneoaoodddoaaDoor
open Go.RowKit
set_option linter.unusedVariables false
set_option linter.unusedSimpArgs false
attribute [local go_sem] and_low

theorem guess_down {g r T V1 U0 U1 : Nat} (hT : T = U1 + 4294967296 * U0) (h2 : U0 ≤ V1) (h3 : U1 < 4294967296) (hg : T = g * V1 + r) (h1 : 0 < g) :
    T = (g - 1) * V1 + (r + V1) ∧ (4294967296 ≤ r + V1 → g - 1 < 4294967296) := by
  obtain ⟨k, rfl⟩ : ∃ k, g = k + 1 := ⟨g - 1, by omega⟩
  rw [Nat.add_sub_cancel]
  rw [Nat.add_mul, Nat.one_mul] at hg
  refine ⟨by omega, fun h4 => ?_⟩
  rcases Nat.lt_or_ge k 4294967296 with h5 | h5
  · exact h5
  · exfalso
    have := Nat.mul_le_mul_right V1 h5
    omega
theorem guess_fits {q r V2 U2 : Nat} (h : q < 4294967296) (h2 : V2 < 4294967296) (h3 : 4294967296 ≤ r) : q * V2 ≤ r * 4294967296 + U2 := by
  have h4 : q * V2 ≤ 4294967296 * 4294967296 := Nat.mul_le_mul (by omega) (by omega)
  have h5 : 4294967296 * 4294967296 ≤ r * 4294967296 := Nat.mul_le_mul_right _ h3
  omega

set_option maxRecDepth 100000 in
set_option maxHeartbeats 1000000 in
theorem guess_any (ub uoff cu vb voff cv m n1 n2 : Nat) (us vs : List Nat) (w : World) (hm : m = n1 + 1) (hn : n1 = n2 + 1) (h : GuessIn us vs n2) (hm9 : m ≤ 1000000000)
    (hu : ∀ i, i < us.length → w.cell? ⟨ub, uoff + i, none⟩ = some (.int .u32 ((us[i]?.getD 0 : Nat) : Int))) (hv : ∀ i, i < vs.length → w.cell? ⟨vb, voff + i, none⟩ = some (.int .u32 ((vs[i]?.getD 0 : Nat) : Int))) :
    Calls Tryd.prog 70 #[.slice (some ⟨ub, uoff, none⟩) (m + 1) cu, .slice (some ⟨vb, voff, none⟩) m cv] w fun e w' => ∃ q : Nat, e = .returned (.int .u64 (q : Int)) ∧ val us / val vs ≤ q ∧ q ≤ val us / val vs + 1 ∧ q < 4294967296 ∧ Below w.heap.size w w' := by
  have u0 := hu m (by rw [h.ul]; omega)
  have u1 := hu n1 (by rw [h.ul]; omega)
  have u2 := hu n2 (by rw [h.ul]; omega)
  have v1 := hv n1 (by rw [h.vl]; omega)
  have v2 := hv n2 (by rw [h.vl]; omega)
  have HU := Lib.hid hu
  have HV := Lib.hid hv
  clear hu hv
  have a0 := getD_lt (k := m) h.ult (by decide)
  have a1 := getD_lt (k := n1) h.ult (by decide)
  have a2 := getD_lt (k := n2) h.ult (by decide)
  have b1 := getD_lt (k := n1) h.vlt (by decide)
  have b2 := getD_lt (k := n2) h.vlt (by decide)
  have htop := h.top
  have htwo := h.two
  have hfirst := h.first
  have hforb := fun q r => h.forbid (q := q) (r := r)
  have hall := fun q r => h.allow (q := q) (r := r)
  unfold gTwo at hfirst hforb hall
  rw [show n2 + 1 = n1 by omega] at htop htwo hfirst hforb hall
  rw [show n2 + 2 = m by omega] at htwo hfirst hforb hall
  have hQ := h.lt
  generalize us[m]?.getD 0 = U0 at *
  generalize us[n1]?.getD 0 = U1 at *
  generalize us[n2]?.getD 0 = U2 at *
  generalize vs[n1]?.getD 0 = V1 at *
  generalize vs[n2]?.getD 0 = V2 at *
  generalize val us / val vs = Q at *
  have w1 : IntKind.i64.wrap (n1 : Int) = (n1 : Int) := IntWalk.i64_in _ (by omega)
  have w2 : IntKind.i64.wrap (n2 : Int) = (n2 : Int) := IntWalk.i64_in _ (by omega)
  have s1 : (m : Int) - 1 = (n1 : Int) := by omega
  have s2 : (m : Int) - 2 = (n2 : Int) := by omega
  have l0 : (m : Int) < (m : Int) + 1 := by omega
  have l1 : (n1 : Int) < (m : Int) := by omega
  have l2 : (n2 : Int) < (m : Int) := by omega
  have l3 : (n1 : Int) < (m : Int) + 1 := by omega
  have l4 : (n2 : Int) < (m : Int) + 1 := by omega
  have k1 : (0 : Int) ≤ (m : Int) := by omega
  have k2 : (0 : Int) ≤ (n1 : Int) := by omega
  have k3 : (0 : Int) ≤ (n2 : Int) := by omega
  have t0 : (m : Int).toNat = m := by omega
  have t1 : (n1 : Int).toNat = n1 := by omega
  have t2 : (n2 : Int).toNat = n2 := by omega
  have HM := Lib.hid hm
  have HN := Lib.hid hn
  clear hm hn
  go_enter Tryd.func70, Tryd.ntmps70
  go_wp2_with fail
  go_step3
  go_wp2_with fail
  go_region_held3 (fun w' => w'.cell? ⟨ub, uoff + m, none⟩ = some (.int .u32 (U0 : Int)) ∧ w'.cell? ⟨ub, uoff + n1, none⟩ = some (.int .u32 (U1 : Int)) ∧ Below w.heap.size w w')
    (first | assumption | exact ⟨u0, u1, (Below.refl _ _).drew⟩) (fail)
  have hbits : bits BinOp.or IntKind.u64 (IntKind.u64.wrap (IntKind.u64.wrap (U0 : Int) * 4294967296)) (IntKind.u64.wrap (U1 : Int)) = ((U1 + 4294967296 * U0 : Nat) : Int) := by
    rw [IntWalk.u64_in (U0 : Int) (by omega), IntWalk.u64_in (U1 : Int) (by omega), IntWalk.u64_in _ (by omega), or_join (U0 : Int) (U1 : Int) (by omega) (by omega) (by omega) (by omega)]; omega
  rw [hbits]
  clear hbits
  have hT9 : U1 + 4294967296 * U0 < 18446744073709551616 := by omega
  obtain ⟨T, hT⟩ : ∃ T, T = U1 + 4294967296 * U0 := ⟨_, rfl⟩
  rw [← hT] at hfirst hforb hall hT9 ⊢
  have HT := Lib.hid hT
  clear hT
  have hq0 : ¬ ((V1 : Int) = 0) := by omega
  have q1 : ((T : Int).tdiv (V1 : Int)) = ((T / V1 : Nat) : Int) := by rw [Int.tdiv_eq_ediv_of_nonneg (by omega)]; rfl
  have q2 : ((T : Int).tmod (V1 : Int)) = ((T % V1 : Nat) : Int) := by rw [Int.tmod_eq_emod_of_nonneg (by omega)]; rfl
  have q3 : T / V1 ≤ T := Nat.div_le_self _ _
  have q4 : T % V1 < V1 := Nat.mod_lt _ (by omega)
  have q5 := Nat.div_add_mod T V1
  generalize T / V1 = q0 at *
  generalize T % V1 = r0 at *
  have q6 : IntKind.u64.wrap (q0 : Int) = (q0 : Int) := IntWalk.u64_in _ (by omega)
  have hw3 : Below w.heap.size w w.drew := (Below.refl _ _).drew
  go_wp2_with fail
  go_quiet (fail)
  go_wp2_with fail
  go_step3
  go_wp2_with fail
  have hu2 : ub < w.heap.size := World.block_lt_of_cell? w ⟨ub, uoff + n2, none⟩ u2
  have hv2 : vb < w.heap.size := World.block_lt_of_cell? w ⟨vb, voff + n2, none⟩ v2
  have hstart : Below w.heap.size w (w.drew.drewN nq) := by
    exact ⟨rfl, rfl, rfl, Nat.le_refl _, fun _ _ => rfl⟩
  go_loopg [8, 9] q0 (fun g qv rv wr => ∃ r : Nat, qv = .int .u64 (g : Int) ∧ rv = .int .u64 (r : Int) ∧ T = g * V1 + r ∧ Q ≤ g ∧ r < 4294967296 ∧ Below w.heap.size w wr)
  case atStart => exact ⟨r0, rfl, rfl, by rw [Nat.mul_comm]; omega, hfirst, by omega, hstart⟩
  case round =>
    obtain ⟨r, rfl, rfl, hTg, hQg, hrB, hbr⟩ := hrel
    have u2r := (hbr.cell (p := ⟨ub, uoff + n2, none⟩) hu2).trans u2
    have v2r := (hbr.cell (p := ⟨vb, voff + n2, none⟩) hv2).trans v2
    have e1 : IntKind.u64.wrap (V2 : Int) = (V2 : Int) := IntWalk.u64_in _ (by omega)
    have e2 : IntKind.u64.wrap (U2 : Int) = (U2 : Int) := IntWalk.u64_in _ (by omega)
    have e3 : IntKind.u64.wrap ((r : Int) * 4294967296) = (r : Int) * 4294967296 := IntWalk.u64_in _ (by omega)
    have e4 := or_join (r : Int) (U2 : Int) (by omega) (by omega) (by omega) (by omega)
    have hgT : gk ≤ T := by
      have : gk * 1 ≤ gk * V1 := Nat.mul_le_mul_left _ (by omega)
      omega
    have HTG := Lib.hid hTg
    clear hTg
    by_cases hg1 : 4294967296 ≤ gk
    · obtain ⟨hd1, hd2⟩ := guess_down HT.out htwo a1 HTG.out (by omega)
      have HD1 := Lib.hid hd1
      clear hd1
      have hg2 : (4294967295 : Int) < (gk : Int) := by omega
      have hgw : IntKind.u64.wrap ((gk : Int) - 1) = ((gk - 1 : Nat) : Int) := by rw [IntWalk.u64_in _ (by omega)]; omega
      go_wp2_with fail
      go_quiet (fail)
      have hbrq : Below w.heap.size w (wr.drewN nq) := ⟨hbr.os, hbr.tape, hbr.output, hbr.size, hbr.block⟩
      by_cases hrl : 4294967296 ≤ r + V1
      · have hlt := hd2 hrl
        have hal := hall (gk - 1) (r + V1) HD1.out (guess_fits hlt b2 hrl) hlt
        have hrl2 : (4294967295 : Int) < (r : Int) + (V1 : Int) := by omega
        go_wp2
        rw [Exit.noGoto_ret]
        go_ret
        exact ⟨gk - 1, rfl, by omega, hal, hlt, hbrq⟩
      · have hrl2 : (r : Int) + (V1 : Int) ≤ 4294967295 := by omega
        go_wp2
        go_roundg (gk - 1)
        case measure => omega
        case rel => exact ⟨r + V1, by go_num, by go_num, HD1.out, by omega, by omega, hbrq⟩
    · have hg2 : (gk : Int) ≤ 4294967295 := by omega
      have hgV : gk * V2 ≤ 4294967295 * 4294967295 := Nat.mul_le_mul (by omega) (by omega)
      have e5 : IntKind.u64.wrap ((gk : Int) * (V2 : Int)) = ((gk * V2 : Nat) : Int) := by rw [IntWalk.u64_in _ (by rw [← Int.natCast_mul]; omega)]; simp
      by_cases hcm : r * 4294967296 + U2 < gk * V2
      · have hgp : 0 < gk := by
          rcases Nat.eq_zero_or_pos gk with h0 | h0
          · rw [h0, Nat.zero_mul] at hcm; omega
          · exact h0
        obtain ⟨hd1, hd2⟩ := guess_down HT.out htwo a1 HTG.out hgp
        have HD1 := Lib.hid hd1
        clear hd1
        have hfo := hforb gk r HTG.out hcm
        have hgw : IntKind.u64.wrap ((gk : Int) - 1) = ((gk - 1 : Nat) : Int) := by rw [IntWalk.u64_in _ (by omega)]; omega
        have hcmi : (r : Int) * 4294967296 + (U2 : Int) < ((gk * V2 : Nat) : Int) := by omega
        go_wp2_with fail
        go_quiet (fail)
        have hbrq : Below w.heap.size w (wr.drewN nq) := ⟨hbr.os, hbr.tape, hbr.output, hbr.size, hbr.block⟩
        by_cases hrl : 4294967296 ≤ r + V1
        · have hlt := hd2 hrl
          have hal := hall (gk - 1) (r + V1) HD1.out (guess_fits hlt b2 hrl) hlt
          have hrl2 : (4294967295 : Int) < (r : Int) + (V1 : Int) := by omega
          go_wp2
          rw [Exit.noGoto_ret]
          go_ret
          exact ⟨gk - 1, rfl, by omega, hal, hlt, hbrq⟩
        · have hrl2 : (r : Int) + (V1 : Int) ≤ 4294967295 := by omega
          go_wp2
          go_roundg (gk - 1)
          case measure => omega
          case rel => exact ⟨r + V1, by go_num, by go_num, HD1.out, by omega, by omega, hbrq⟩
      · have hal := hall gk r HTG.out (by omega) (by omega)
        have hcmi : ((gk * V2 : Nat) : Int) ≤ (r : Int) * 4294967296 + (U2 : Int) := by omega
        go_wp2_with fail
        go_quiet (fail)
        have hbrq : Below w.heap.size w (wr.drewN nq) := ⟨hbr.os, hbr.tape, hbr.output, hbr.size, hbr.block⟩
        go_wp2
        rw [Exit.noGoto_ret]
        go_ret
        exact ⟨gk, rfl, hQg, hal, by omega, hbrq⟩
end Go.Proofs.YtegneoaoodddoaaDoor
