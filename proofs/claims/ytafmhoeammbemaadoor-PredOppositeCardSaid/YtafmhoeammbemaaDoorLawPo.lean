/-
  PredOpposite: the walk.
-/
import Derived.Test.YtafmhoeammbemaaDoorLogA
import Derived.Test.YtafmhoeammbemaaDoorValC
import Derived.Test.YtafmhoeammbemaaDoorTruA
import Derived.Test.YtafmhoeammbemaaDoorOpenW
import Derived.Deep.DeepCutAuto
namespace Go.Proofs.YtafmhoeammbemaaDoor
open Go.RowKit
set_option linter.unusedVariables false
set_option linter.unusedSimpArgs false
theorem valsRoom_le : ∀ (vs : List V3) (n : Int), 0 ≤ valsRoom n vs → n ≤ 4000 → ∀ v ∈ vs, v.n.length ≤ 4000 := by
  intro vs
  induction vs with
  | nil => intro n _ _ v hv; cases hv
  | cons u r ih =>
    intro n h hn v hv
    unfold valsRoom at h
    by_cases h0 : n < 0
    · rw [if_pos h0] at h; omega
    · rw [if_neg h0] at h
      by_cases h1 : roomL n [1, u.n.length, u.c.length] < 0
      · rw [valsRoom_neg h1] at h; omega
      · have h2 := room_le (n := n) (a := u.n.length) (b := u.c.length) (by omega)
        rcases List.mem_cons.1 hv with rfl | hv
        · omega
        · rcases roomL_le n [1, u.n.length, u.c.length] with h3 | h3
          · exact ih _ h (by omega) v hv
          · omega
theorem rowB_le {vs : List V3} (h : rowB vs = true) : vs.length ≤ 50 ∧ ∀ v ∈ vs, v.n.length ≤ 4000 := by
  unfold rowB at h
  simp only [Bool.and_eq_true, decide_eq_true_eq] at h
  exact ⟨h.1, valsRoom_le vs 4000 h.2 (by decide)⟩
set_option maxRecDepth 100000 in
set_option maxHeartbeats 1000000 in
/-- Row, of a list of any length. -/
theorem row_any (ao : Option Addr) (cap : Nat) (vs : List V3) (b : Bool) (w : World) (hv : Vals w ao vs) (hl : ∀ v ∈ vs, v.n.length ≤ 9223372036854775807 ∧ v.c.length ≤ 9223372036854775807) (HB : Hid (b = rowB vs)) : Calls Tryd.prog 4 #[.slice ao vs.length cap] w fun e w' => e = .returned (.bool b) ∧ Below w.heap.size w w' := by
  by_cases h50 : vs.length ≤ 50
  · exact row_b ao cap vs b w hv (by omega) hl HB
  · have h5i : ¬ ((vs.length : Nat) : Int) ≤ 50 := by omega
    have HB2 : Hid (b = false) := Lib.hid (by rw [HB.out]; unfold rowB; rw [decide_eq_false h50]; rfl)
    go_enter Tryd.func4, Tryd.ntmps4
    go_wp2_with fail
    go_ret
    exact ⟨ret_one (by rw [HB2.out]; rfl), Below.refl _ _⟩
def tvN (b : Bool) : Nat := if b = true then 1 else 0
theorem tvN_is (b : Bool) : ((tvN b : Nat) : Int) = tv b := by cases b <;> rfl
/-- The nine numbers, of which j comparisons are there. -/
def T9 (c : Int) (j : Nat) : List Nat := [0, 0, 0, if 0 < j then tvN (ordB 3 c) else 0, if 1 < j then tvN (ordB 4 c) else 0, if 2 < j then tvN (ordB 5 c) else 0, if 3 < j then tvN (ordB 6 c) else 0, if 4 < j then tvN (ordB 7 c) else 0, if 5 < j then tvN (ordB 8 c) else 0]
theorem T9_len (c : Int) (j : Nat) : (T9 c j).length = 9 := rfl
theorem T9_step (c : Int) (j : Nat) (hj : j < 6) : (T9 c j).set (3 + j) (tvN (ordB ((3 + j : Nat) : Int) c)) = T9 c (j + 1) := by
  match j, hj with
  | 0, _ => rfl
  | 1, _ => rfl
  | 2, _ => rfl
  | 3, _ => rfl
  | 4, _ => rfl
  | 5, _ => rfl
theorem T9_set (c : Int) (o : Nat) (h3 : 3 ≤ o) (h9 : o < 9) : (T9 c (o - 3)).set o (tvN (ordB (o : Int) c)) = T9 c (o + 1 - 3) := by
  obtain ⟨j, rfl⟩ : ∃ j, o = 3 + j := ⟨o - 3, by omega⟩
  rw [show 3 + j - 3 = j by omega, show 3 + j + 1 - 3 = j + 1 by omega]
  exact T9_step c j (by omega)
theorem valid_one {n c : List UInt8} (h : true = vvalid 1 n c) : c = [] ∧ qcode n = 0 := by
  unfold vvalid vnum at h
  simpa using h.symm
theorem Vals.at {w w' : World} {b off B : Nat} {vs : List V3} (h : Vals w (some ⟨b, off, none⟩) vs) (hb : Below B w w') (hB : b < B) : Vals w' (some ⟨b, off, none⟩) vs := fun i v hi => by
  obtain ⟨b', off', e, c0, c1, c2⟩ := h i v hi
  cases e
  exact ⟨b, off, rfl, ⟨(hb.cell (p := ⟨b, _, none⟩) hB).trans c0.cell⟩, ⟨(hb.cell (p := ⟨b, _, none⟩) hB).trans c1.cell⟩, ⟨(hb.cell (p := ⟨b, _, none⟩) hB).trans c2.cell⟩⟩
set_option maxRecDepth 100000 in
set_option maxHeartbeats 8000000 in
theorem predOpposite_walk (f : Int) (v1 v2 : Value) (w : World) (wf : (Lit.int .i64 f).wf = true) (hv1 : ValIn v1) (hv2 : ValsIn w v2) :
    Calls Tryd.prog 3 #[.int .i64 f, v1, v2] w fun e w' => e = .returned (.bool true) ∧ Below w.heap.size w w' := by
  obtain ⟨k, n, c, rfl, hn, hc⟩ := hv1
  obtain ⟨ao, cap, vs, rfl, hv, hcap1, hcap2, hvl⟩ := hv2
  obtain ⟨w0, hw0⟩ : ∃ w0, w0 = (w.alloc (.cells #[.int .i64 k, .string ⟨n.toArray⟩, .string ⟨c.toArray⟩] 23)) := ⟨_, rfl⟩
  have hbf : Below w.heap.size w w0 := by rw [hw0]; exact ((Below.refl _ w).alloc (Nat.le_refl _) _)
  obtain ⟨pv, hpv⟩ : ∃ p, p = w.heap.size := ⟨_, rfl⟩
  have hbv : Box3 w0 pv (Value.int .i64 k) (Value.string ⟨n.toArray⟩) (Value.string ⟨c.toArray⟩) := by rw [hw0, hpv]; exact ⟨by go_simp, by go_simp, by go_simp, by go_simp, by go_simp, by go_simp⟩
  have HP : Hid (w.heap.size ≤ pv) := Lib.hid (by omega)
  have HW := Lib.hid hw0; clear hw0
  replace hv := hv.below hbf
  have HVL := Lib.hid hvl
  clear hvl
  go_enter Tryd.func3, Tryd.ntmps3
  go_upto_region 1 with fail
  rw [← HW.out, ← hpv]
  clear hpv HW
  obtain ⟨b1, hb1⟩ : ∃ b, b = rowB vs := ⟨_, rfl⟩
  go_wp2_with fail
  refine (row_any ao cap vs b1 w0 hv HVL.out (Lib.hid hb1)).mono ?_
  rintro e w1 ⟨rfl, hbw⟩
  replace hbf := hbf.trans (hbw.mono hbf.size)
  replace hbv := hbv.kept hbw
  replace hv := hv.below hbw
  clear hbw
  have HB1 := Lib.hid hb1
  clear hb1
  cases b1
  case false =>
    go_wp2_with fail
    refine (alive13_any _).mono ?_
    rintro e w2 ⟨rfl, hbw⟩
    go_wp2_with fail
    go_ret
    exact ⟨rfl, hbf.trans (hbw.mono hbf.size)⟩
  case true =>
    have ev0 := hbv.c0
    have ev1 := hbv.c1
    have ev2 := hbv.c2
    go_wp2_with fail
    obtain ⟨b2, hb2⟩ : ∃ b, b = rowB [⟨k, n, c⟩] := ⟨_, rfl⟩
    obtain ⟨w2, hw2⟩ : ∃ x, x = w1.alloc (.cells #[.int .i64 k, .string ⟨n.toArray⟩, .string ⟨c.toArray⟩] 23) := ⟨_, rfl⟩
    have hbw : Below w1.heap.size w1 w2 := by rw [hw2]; exact (Below.refl _ _).alloc (Nat.le_refl _) _
    have hv1 : Vals w2 (some ⟨w1.heap.size, 0, none⟩) [⟨k, n, c⟩] := by rw [hw2]; exact vals1 w1 k n c
    rw [← hw2]
    clear hw2 ev0 ev1 ev2
    replace hbf := hbf.trans (hbw.mono hbf.size)
    replace hbv := hbv.kept hbw
    replace hv := hv.below hbw
    refine (row_b1 _ ⟨k, n, c⟩ b2 w2 hv1 ⟨hn, hc⟩ (Lib.hid hb2)).mono ?_
    rintro e w3 ⟨rfl, hbw3⟩
    replace hbf := hbf.trans (hbw3.mono hbf.size)
    replace hbv := hbv.kept hbw3
    replace hv := hv.below hbw3
    have HB2 := Lib.hid hb2
    clear hb2 hv1 hbw hbw3
    cases b2
    case false =>
      go_wp2_with fail
      refine (alive13_any _).mono ?_
      rintro e w4 ⟨rfl, hbw⟩
      go_wp2_with fail
      go_ret
      exact ⟨rfl, hbf.trans (hbw.mono hbf.size)⟩
    case true =>
      go_wp2_with fail
      refine (alive13_any _).mono ?_
      rintro e w4 ⟨rfl, hbw⟩
      replace hbf := hbf.trans (hbw.mono hbf.size)
      replace hbv := hbv.kept hbw
      replace hv := hv.below hbw
      clear hbw
      by_cases hf0 : f < 0
      · go_wp2_with fail
        go_ret
        exact ⟨rfl, hbf⟩
      by_cases hfl : (vs.length : Int) ≤ f
      · go_wp2_with fail
        go_ret
        exact ⟨rfl, hbf⟩
      obtain ⟨i, rfl⟩ : ∃ i : Nat, f = (i : Int) := ⟨f.toNat, by omega⟩
      have hil : i < vs.length := by omega
      obtain ⟨v, hvi⟩ : ∃ v, vs[i]? = some v := ⟨_, List.getElem?_eq_getElem hil⟩
      obtain ⟨b, off, rfl, d0, d1, d2⟩ := hv i v hvi
      have HN4 : Hid (n.length ≤ 4000 ∧ v.n.length ≤ 4000 ∧ vs.length ≤ 50) := Lib.hid ⟨(row_le1 HB2.out.symm).1, (rowB_le HB1.out.symm).2 v (List.mem_of_getElem? hvi), (rowB_le HB1.out.symm).1⟩
      have q1 : (i : Int) < (vs.length : Int) := by omega
      have q2 : (0 : Int) ≤ (i : Int) := by omega
      have q3 : ¬ vs.length ≤ i := by omega
      have q4 : ¬ (i : Int) < 0 := by omega
      clear hf0 hfl
      have ev0 := hbv.c0
      have ev1 := hbv.c1
      have ev2 := hbv.c2
      obtain ⟨b3, hb3⟩ : ∃ b, b = vvalid k n c := ⟨_, rfl⟩
      have HB3 := Lib.hid hb3
      clear hb3
      go_wp2_with fail
      refine (rvvalid_b k n c b3 w4 HB3 (by have := HN4.out; omega)).mono ?_
      rintro e w5 ⟨rfl, hbw⟩
      replace hbf := hbf.trans (hbw.mono hbf.size)
      replace hbv := hbv.kept hbw
      replace hv := hv.below hbw
      replace d0 := d0.kept hbw
      replace d1 := d1.kept hbw
      replace d2 := d2.kept hbw
      clear hbw ev0 ev1 ev2
      cases b3
      case false =>
        go_wp2_with fail
        go_ret
        exact ⟨rfl, hbf⟩
      case true =>
        have e0 := d0.cell
        have e1 := d1.cell
        have e2 := d2.cell
        obtain ⟨b4, hb4⟩ : ∃ b, b = vvalid v.k v.n v.c := ⟨_, rfl⟩
        have HB4 := Lib.hid hb4
        clear hb4
        go_wp2_with fail
        refine (rvvalid_b v.k v.n v.c b4 w5 HB4 (by have := HN4.out; omega)).mono ?_
        rintro e w6 ⟨rfl, hbw⟩
        replace hbf := hbf.trans (hbw.mono hbf.size)
        replace hbv := hbv.kept hbw
        replace hv := hv.below hbw
        replace d0 := d0.kept hbw
        clear hbw e0 e1 e2 d1 d2
        cases b4
        case false =>
          go_wp2_with fail
          go_ret
          exact ⟨rfl, hbf⟩
        case true =>
          have ev0 := hbv.c0
          have e0 := d0.cell
          by_cases hk1 : k = 1
          case neg =>
            have hkb : (k == 1) = false := by simp [hk1]
            go_wp2_with fail
            go_ret
            exact ⟨rfl, hbf⟩
          case pos =>
            by_cases hk2 : v.k = 1
            case neg =>
              have hkb : (v.k != 1) = true := by simp [hk2]
              go_wp2_with fail
              go_ret
              exact ⟨rfl, hbf⟩
            case pos =>
              subst hk1
              have hkb : (v.k != 1) = false := by simp [hk2]
              obtain ⟨vk, vn, vc⟩ := v
              simp only at hk2 HB4 HN4
              subst hk2
              obtain ⟨rfl, hqn⟩ := valid_one HB3.out
              obtain ⟨rfl, hqv⟩ := valid_one HB4.out
              have HQN := Lib.hid hqn
              have HQV := Lib.hid hqv
              obtain ⟨c9, hc9⟩ : ∃ c9, qcmp (qval vn) (qval n) = c9 := ⟨_, rfl⟩
              have hc3 : c9 = -1 ∨ c9 = 0 ∨ c9 = 1 := by rw [← hc9]; exact qcmp_three _ _
              have HC9 := Lib.hid hc9
              clear hc9 hqn hqv
              go_wp2_with (at_make; refine makeN E_ints (n := 9) rfl rfl rfl rfl (by decide) (by decide) ?_; intro w7 ho hb7)
              obtain ⟨pn, hpn⟩ : ∃ p, p = w6.heap.size := ⟨_, rfl⟩
              have hm : Mut .i64 w7 pn 0 (T9 c9 0) := by rw [hpn]; exact ho.mut
              rw [← hpn]
              have hpnw : w.heap.size ≤ pn := by rw [hpn]; exact hbf.size
              have hbv7 := hbv.kept hb7
              have hv7 := hv.below hb7
              have hbf7 := hbf.trans (hb7.mono hbf.size)
              have hpvn : pv < pn := by rw [hpn]; exact hbv.lt
              have hbpn : b < pn := by rw [hpn]; exact World.block_lt_of_cell? w6 _ d0.cell
              clear hpn ho hb7 hbv hv hbf d0 ev0 e0 hkb
              go_loopg [8] 6 (fun g ov wr => ∃ o : Nat, ov = .int .i64 (o : Int) ∧ o + g = 9 ∧ 3 ≤ o ∧ Mut .i64 wr pn 0 (T9 c9 (o - 3)) ∧ Box3 wr pv (.int .i64 1) (.string ⟨n.toArray⟩) (.string ⟨#[]⟩) ∧ Vals wr (some ⟨b, off, none⟩) vs ∧ Below w.heap.size w wr)
              case atStart => exact ⟨3, rfl, by omega, by omega, hm, hbv7, hv7, hbf7⟩
              clear hm hbv7 hv7 hbf7
              case round =>
                obtain ⟨o, rfl, hog, ho3, hm, hbv, hv, hbf⟩ := hrel
                by_cases hj : o < 9
                · have q5 : (o : Int) ≤ 8 := by omega
                  have q6 : (o : Int) < 9 := by omega
                  have q7 : (0 : Int) ≤ (o : Int) := by omega
                  have u0 := hbv.c0
                  have u1 := hbv.c1
                  have u2 := hbv.c2
                  go_wp2_with fail
                  obtain ⟨w9, hw9⟩ : ∃ x, x = wr.alloc (.cells #[.int .i64 1, .string ⟨n.toArray⟩, .string ⟨#[]⟩] 23) := ⟨_, rfl⟩
                  have hbw : Below wr.heap.size wr w9 := by rw [hw9]; exact (Below.refl _ _).alloc (Nat.le_refl _) _
                  have hu : Vals w9 (some ⟨wr.heap.size, 0, none⟩) [⟨1, n, []⟩] := by rw [hw9]; exact vals1 wr 1 n []
                  rw [← hw9]
                  clear hw9 u0 u1 u2
                  have hm9 := hm.below hbw hm.lt
                  have hbv9 := hbv.kept hbw
                  have hv9 := hv.below hbw
                  have hbf9 := hbf.trans (hbw.mono hbf.size)
                  obtain ⟨zn, hzn⟩ : ∃ z, z = tvN (ordB (o : Int) c9) := ⟨_, rfl⟩
                  have HZN := Lib.hid hzn
                  have HZ : Hid (((zn : Nat) : Int) = tv (ordB (o : Int) c9)) := Lib.hid (by rw [hzn, tvN_is])
                  clear hzn
                  refine (eval_q (o : Int) (some ⟨b, off, none⟩) cap vs i vn n wr.heap.size c9 ((zn : Nat) : Int) w9 (by omega) hv9 hvi (by have := HN4.out; omega) hu (by have := HN4.out; omega) (by have := HN4.out; omega) HQV HQN (QB.val9 vn) (QB.val9 n) HC9 hc3 HZ).mono ?_
                  rintro e w10 ⟨rfl, hbw2⟩
                  have hm10 := hm9.below hbw2 hm9.lt
                  have hbv10 := hbv9.kept hbw2
                  have hv10 := hv9.below hbw2
                  have hbf10 := hbf9.trans (hbw2.mono hbf9.size)
                  clear hm hbv hv hbf hm9 hbv9 hv9 hbf9 hbw hbw2 hu
                  have m1 := hm10.cell o (by rw [T9_len]; omega)
                  have m2 := hm10.free o (by rw [T9_len]; omega)
                  rw [Nat.zero_add] at m1 m2
                  have hms := hm10.set o zn (by rw [T9_len]; omega)
                  rw [HZN.out, T9_set c9 o ho3 hj, ← HZN.out, Nat.zero_add] at hms
                  generalize (T9 c9 (o - 3))[o]?.getD 0 = y at m1
                  have hbs := (Below.refl pn w10).setCell (p := ⟨pn, o, none⟩) (Nat.le_refl _) (Value.int .i64 (zn : Int))
                  go_wp2_with fail
                  go_roundg (gk - 1)
                  case measure => omega
                  case rel => exact ⟨o + 1, by go_num, by omega, by omega, hms, hbv10.below hbs hpvn, hv10.at hbs hbpn, hbf10.trans (hbs.mono hpnw)⟩
                · obtain rfl : o = 9 := by omega
                  clear hv hbv
                  rcases hc3 with rfl | rfl | rfl
                  · rw [show T9 (-1) (9 - 3) = [0, 0, 0, 1, 1, 0, 1, 0, 0] by decide] at hm
                    have m3 : wr.cell? ⟨pn, 3, none⟩ = some (.int .i64 1) := by have h9 := hm.cell 3 (by simp); simpa using h9
                    have m4 : wr.cell? ⟨pn, 4, none⟩ = some (.int .i64 1) := by have h9 := hm.cell 4 (by simp); simpa using h9
                    have m5 : wr.cell? ⟨pn, 5, none⟩ = some (.int .i64 0) := by have h9 := hm.cell 5 (by simp); simpa using h9
                    have m6 : wr.cell? ⟨pn, 6, none⟩ = some (.int .i64 1) := by have h9 := hm.cell 6 (by simp); simpa using h9
                    have m7 : wr.cell? ⟨pn, 7, none⟩ = some (.int .i64 0) := by have h9 := hm.cell 7 (by simp); simpa using h9
                    have m8 : wr.cell? ⟨pn, 8, none⟩ = some (.int .i64 0) := by have h9 := hm.cell 8 (by simp); simpa using h9
                    go_upto_region 10 with fail
                    refine wp_region_seq (S := fun w' => w'.cell? ⟨pn, 3, none⟩ = some (.int .i64 1) ∧ w'.cell? ⟨pn, 4, none⟩ = some (.int .i64 1) ∧ w'.cell? ⟨pn, 5, none⟩ = some (.int .i64 0) ∧ w'.cell? ⟨pn, 6, none⟩ = some (.int .i64 1) ∧ w'.cell? ⟨pn, 7, none⟩ = some (.int .i64 0) ∧ w'.cell? ⟨pn, 8, none⟩ = some (.int .i64 0)) [(true, 0), (true, 1), (true, 2), (true, 3), (true, 4), (true, 5), (true, 6), (true, 7), (true, 8), (true, 9), (true, 10), (true, 11), (true, 12), (true, 13), (true, 14), (true, 15), (true, 16), (true, 17), (true, 18), (true, 19), (true, 20), (true, 21), (true, 22), (true, 23), (true, 24), (true, 25), (true, 26), (true, 27), (true, 28), (true, 29), (true, 30), (true, 31), (true, 32), (true, 33), (true, 34), (true, 35), (true, 36), (true, 37), (true, 38), (true, 39), (true, 40), (true, 41), (true, 42), (true, 43), (true, 44), (true, 45), (true, 46), (true, 47), (true, 48), (true, 49), (true, 50), (true, 51), (true, 52), (true, 53), (true, 54), (true, 55)] (by kernel_rfl) (by kernel_rfl) (by kernel_rfl) (by kernel_rfl) (by kernel_rfl) (fun d _ _ _ _ h => by cases d <;> exact h) ⟨m3, m4, m5, m6, m7, m8⟩ (fun _ => ?_)
                    simp only [pickOps, List.append_eq, List.cons_append, List.nil_append, List.getElem?_toArray, List.getElem?_cons_succ, List.getElem?_cons_zero]
                    clear m3 m4 m5 m6 m7 m8
                    repeat (first | (refine seq_take (v := ?_) (by rfl) ?_ ?_; rotate_left; (· intro w hSw; (try dsimp only at hSw); obtain ⟨m3, m4, m5, m6, m7, m8⟩ := hSw; go_simp; all_goals with_reducible rfl); (try simp only [Act.put, List.setIfInBounds_toArray, List.set_cons_zero, List.set_cons_succ])) | (refine seq_leave (by rfl) ?_; (try simp only [Act.put, List.setIfInBounds_toArray, List.set_cons_zero, List.set_cons_succ])))
                    refine seq_end ?_
                    go_wp2_with fail
                    go_ret
                    exact ⟨rfl, hbf.drew⟩
                  · rw [show T9 (0) (9 - 3) = [0, 0, 0, 0, 1, 1, 0, 1, 0] by decide] at hm
                    have m3 : wr.cell? ⟨pn, 3, none⟩ = some (.int .i64 0) := by have h9 := hm.cell 3 (by simp); simpa using h9
                    have m4 : wr.cell? ⟨pn, 4, none⟩ = some (.int .i64 1) := by have h9 := hm.cell 4 (by simp); simpa using h9
                    have m5 : wr.cell? ⟨pn, 5, none⟩ = some (.int .i64 1) := by have h9 := hm.cell 5 (by simp); simpa using h9
                    have m6 : wr.cell? ⟨pn, 6, none⟩ = some (.int .i64 0) := by have h9 := hm.cell 6 (by simp); simpa using h9
                    have m7 : wr.cell? ⟨pn, 7, none⟩ = some (.int .i64 1) := by have h9 := hm.cell 7 (by simp); simpa using h9
                    have m8 : wr.cell? ⟨pn, 8, none⟩ = some (.int .i64 0) := by have h9 := hm.cell 8 (by simp); simpa using h9
                    go_upto_region 10 with fail
                    refine wp_region_seq (S := fun w' => w'.cell? ⟨pn, 3, none⟩ = some (.int .i64 0) ∧ w'.cell? ⟨pn, 4, none⟩ = some (.int .i64 1) ∧ w'.cell? ⟨pn, 5, none⟩ = some (.int .i64 1) ∧ w'.cell? ⟨pn, 6, none⟩ = some (.int .i64 0) ∧ w'.cell? ⟨pn, 7, none⟩ = some (.int .i64 1) ∧ w'.cell? ⟨pn, 8, none⟩ = some (.int .i64 0)) [(true, 0), (true, 1), (true, 2), (true, 3), (true, 4), (true, 5), (true, 6), (true, 7), (true, 8), (true, 9), (true, 10), (true, 11), (true, 12), (true, 13), (true, 14), (true, 15), (true, 16), (true, 17), (true, 18), (true, 19), (true, 20), (true, 21), (true, 22), (true, 23), (true, 24), (true, 25), (true, 26), (true, 27), (true, 28), (true, 29), (true, 30), (true, 31), (true, 32), (true, 33), (true, 34), (true, 35), (true, 36), (true, 37), (true, 38), (true, 39), (true, 40), (true, 41), (true, 42), (true, 43), (true, 44), (true, 45), (true, 46), (true, 47), (true, 48), (true, 49), (true, 50), (true, 51), (true, 52), (true, 53), (true, 54), (true, 55)] (by kernel_rfl) (by kernel_rfl) (by kernel_rfl) (by kernel_rfl) (by kernel_rfl) (fun d _ _ _ _ h => by cases d <;> exact h) ⟨m3, m4, m5, m6, m7, m8⟩ (fun _ => ?_)
                    simp only [pickOps, List.append_eq, List.cons_append, List.nil_append, List.getElem?_toArray, List.getElem?_cons_succ, List.getElem?_cons_zero]
                    clear m3 m4 m5 m6 m7 m8
                    repeat (first | (refine seq_take (v := ?_) (by rfl) ?_ ?_; rotate_left; (· intro w hSw; (try dsimp only at hSw); obtain ⟨m3, m4, m5, m6, m7, m8⟩ := hSw; go_simp; all_goals with_reducible rfl); (try simp only [Act.put, List.setIfInBounds_toArray, List.set_cons_zero, List.set_cons_succ])) | (refine seq_leave (by rfl) ?_; (try simp only [Act.put, List.setIfInBounds_toArray, List.set_cons_zero, List.set_cons_succ])))
                    refine seq_end ?_
                    go_wp2_with fail
                    go_ret
                    exact ⟨rfl, hbf.drew⟩
                  · rw [show T9 (1) (9 - 3) = [0, 0, 0, 0, 0, 0, 1, 1, 1] by decide] at hm
                    have m3 : wr.cell? ⟨pn, 3, none⟩ = some (.int .i64 0) := by have h9 := hm.cell 3 (by simp); simpa using h9
                    have m4 : wr.cell? ⟨pn, 4, none⟩ = some (.int .i64 0) := by have h9 := hm.cell 4 (by simp); simpa using h9
                    have m5 : wr.cell? ⟨pn, 5, none⟩ = some (.int .i64 0) := by have h9 := hm.cell 5 (by simp); simpa using h9
                    have m6 : wr.cell? ⟨pn, 6, none⟩ = some (.int .i64 1) := by have h9 := hm.cell 6 (by simp); simpa using h9
                    have m7 : wr.cell? ⟨pn, 7, none⟩ = some (.int .i64 1) := by have h9 := hm.cell 7 (by simp); simpa using h9
                    have m8 : wr.cell? ⟨pn, 8, none⟩ = some (.int .i64 1) := by have h9 := hm.cell 8 (by simp); simpa using h9
                    go_upto_region 10 with fail
                    refine wp_region_seq (S := fun w' => w'.cell? ⟨pn, 3, none⟩ = some (.int .i64 0) ∧ w'.cell? ⟨pn, 4, none⟩ = some (.int .i64 0) ∧ w'.cell? ⟨pn, 5, none⟩ = some (.int .i64 0) ∧ w'.cell? ⟨pn, 6, none⟩ = some (.int .i64 1) ∧ w'.cell? ⟨pn, 7, none⟩ = some (.int .i64 1) ∧ w'.cell? ⟨pn, 8, none⟩ = some (.int .i64 1)) [(true, 0), (true, 1), (true, 2), (true, 3), (true, 4), (true, 5), (true, 6), (true, 7), (true, 8), (true, 9), (true, 10), (true, 11), (true, 12), (true, 13), (true, 14), (true, 15), (true, 16), (true, 17), (true, 18), (true, 19), (true, 20), (true, 21), (true, 22), (true, 23), (true, 24), (true, 25), (true, 26), (true, 27), (true, 28), (true, 29), (true, 30), (true, 31), (true, 32), (true, 33), (true, 34), (true, 35), (true, 36), (true, 37), (true, 38), (true, 39), (true, 40), (true, 41), (true, 42), (true, 43), (true, 44), (true, 45), (true, 46), (true, 47), (true, 48), (true, 49), (true, 50), (true, 51), (true, 52), (true, 53), (true, 54), (true, 55)] (by kernel_rfl) (by kernel_rfl) (by kernel_rfl) (by kernel_rfl) (by kernel_rfl) (fun d _ _ _ _ h => by cases d <;> exact h) ⟨m3, m4, m5, m6, m7, m8⟩ (fun _ => ?_)
                    simp only [pickOps, List.append_eq, List.cons_append, List.nil_append, List.getElem?_toArray, List.getElem?_cons_succ, List.getElem?_cons_zero]
                    clear m3 m4 m5 m6 m7 m8
                    repeat (first | (refine seq_take (v := ?_) (by rfl) ?_ ?_; rotate_left; (· intro w hSw; (try dsimp only at hSw); obtain ⟨m3, m4, m5, m6, m7, m8⟩ := hSw; go_simp; all_goals with_reducible rfl); (try simp only [Act.put, List.setIfInBounds_toArray, List.set_cons_zero, List.set_cons_succ])) | (refine seq_leave (by rfl) ?_; (try simp only [Act.put, List.setIfInBounds_toArray, List.set_cons_zero, List.set_cons_succ])))
                    refine seq_end ?_
                    go_wp2_with fail
                    go_ret
                    exact ⟨rfl, hbf.drew⟩
end Go.Proofs.YtafmhoeammbemaaDoor
