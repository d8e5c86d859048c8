/-
  ValueTells: the walk.
-/
import Derived.Test.YtfiednmcecpkpaaDoorValC
import Derived.Deep.DeepCutAuto
import Derived.WalkMore
import Derived.Laws.StructEq
namespace Go.Proofs.YtfiednmcecpkpaaDoor
open Go.RowKit
set_option linter.unusedVariables false
set_option linter.unusedSimpArgs false
attribute [local go_sem] field_nat

theorem vq_yes {k : Int} {n c : List UInt8} (h : true = vnum k n c) : vq k n c = qval n := by unfold vq; rw [← h]; rfl
theorem vq_no {k : Int} {n c : List UInt8} (h : false = vnum k n c) : vq k n c = 0 := by unfold vq; rw [← h]; rfl
theorem QB.vq (k : Int) (n c : List UInt8) : QB (vq k n c) 20000 := by
  unfold Go.Proofs.YtfiednmcecpkpaaDoor.vq
  split
  · exact QB.val9 n
  · exact QB.zero _ (by decide)

set_option maxRecDepth 100000 in
set_option maxHeartbeats 8000000 in
/-- ValueTells. -/
theorem valueTells_main (k k2 : Int) (n c n2 c2 s : List UInt8) (w : World) (hn : n.length ≤ 9223372036854775807) (hc : c.length ≤ 9223372036854775807) (hn2 : n2.length ≤ 9223372036854775807) (hc2 : c2.length ≤ 9223372036854775807) : Calls Tryd.prog 5 #[valV k n c, valV k2 n2 c2, .string ⟨s.toArray⟩] w fun e w' => e = .returned (.bool true) ∧ Below w.heap.size w w' := by
  obtain ⟨rb, hrb⟩ : ∃ b, b = rowB [⟨k, n, c⟩, ⟨k2, n2, c2⟩] := ⟨_, rfl⟩
  have HRB := Lib.hid hrb
  clear hrb
  obtain ⟨w0, hw0⟩ : ∃ w0, w0 = ((w.alloc (.cells #[.int .i64 k, .string ⟨n.toArray⟩, .string ⟨c.toArray⟩] 23)).alloc (.cells #[.int .i64 k2, .string ⟨n2.toArray⟩, .string ⟨c2.toArray⟩] 23)) := ⟨_, rfl⟩
  have hbf : Below w.heap.size w w0 := by rw [hw0]; exact (((Below.refl _ w).alloc (Nat.le_refl _) _).alloc (by simp <;> omega) _)
  obtain ⟨pv, hpv⟩ : ∃ p, p = w.heap.size := ⟨_, rfl⟩
  have hbv : Box3 w0 pv (Value.int .i64 k) (Value.string ⟨n.toArray⟩) (Value.string ⟨c.toArray⟩) := by rw [hw0, hpv]; exact ⟨by go_simp, by go_simp, by go_simp, by go_simp, by go_simp, by go_simp⟩
  obtain ⟨pu, hpu⟩ : ∃ p, p = w.heap.size + 1 := ⟨_, rfl⟩
  have hbu : Box3 w0 pu (Value.int .i64 k2) (Value.string ⟨n2.toArray⟩) (Value.string ⟨c2.toArray⟩) := by rw [hw0, hpu]; exact ⟨by go_simp, by go_simp, by go_simp, by go_simp, by go_simp, by go_simp⟩
  have HP : Hid (w.heap.size ≤ pv ∧ pv < pu) := Lib.hid (by omega)
  have HW := Lib.hid hw0; clear hw0
  go_enter Tryd.func5, Tryd.ntmps5
  go_upto_region 1 with fail
  rw [← HW.out, ← hpu, ← hpv]
  clear hpv hpu HW
  obtain ⟨w1, hwE⟩ : ∃ W, W = w0.alloc (.cells #[.int .i64 k, .string ⟨n.toArray⟩, .string ⟨c.toArray⟩, .int .i64 k2, .string ⟨n2.toArray⟩, .string ⟨c2.toArray⟩] 23) := ⟨_, rfl⟩
  have hb : Below w0.heap.size w0 w1 := by rw [hwE]; exact (Below.refl _ _).alloc (Nat.le_refl _) _
  obtain ⟨vP, hvP⟩ : ∃ p, p = w0.heap.size := ⟨_, rfl⟩
  have hvs : Vals w1 (some ⟨vP, 0, none⟩) [⟨k, n, c⟩, ⟨k2, n2, c2⟩] := by rw [hwE, hvP]; exact vals2 _ k n c k2 n2 c2
  have ev0 := hbv.c0
  have ev1 := hbv.c1
  have ev2 := hbv.c2
  have eu0 := hbu.c0
  have eu1 := hbu.c1
  have eu2 := hbu.c2
  have HW := Lib.hid hwE; clear hwE
  go_wp2_with fail
  rw [← HW.out, ← hvP]
  clear hvP HW
  clear ev0 ev1 ev2 eu0 eu1 eu2
  replace hbv := hbv.kept hb
  replace hbu := hbu.kept hb
  replace hbf := hbf.trans (hb.mono hbf.size)
  clear hb
  refine (row_b2 _ ⟨k, n, c⟩ ⟨k2, n2, c2⟩ rb _ hvs ⟨hn, hc⟩ ⟨hn2, hc2⟩ HRB).mono ?_
  rintro e w2 ⟨rfl, hb⟩
  replace hbv := hbv.kept hb
  replace hbu := hbu.kept hb
  replace hbf := hbf.trans (hb.mono hbf.size)
  clear hb
  clear hvs
  cases rb
  case false =>
    go_wp2_with fail
    refine (alive12_any _).mono ?_
    rintro e w3 ⟨rfl, hb⟩
    replace hbv := hbv.kept hb
    replace hbu := hbu.kept hb
    replace hbf := hbf.trans (hb.mono hbf.size)
    clear hb
    go_wp2_with fail
    go_ret
    exact ⟨rfl, hbf⟩
  case true =>
    have hle := row_le2 HRB.out.symm
    obtain ⟨hn4, hc4, hn5, hc5⟩ := hle
    by_cases hs3 : 400 < s.length
    case pos =>
      have hsi : (400 : Int) < ((s.length : Nat) : Int) := by omega
      go_wp2_with fail
      refine (alive12_any _).mono ?_
      rintro e w3 ⟨rfl, hb⟩
      replace hbv := hbv.kept hb
      replace hbu := hbu.kept hb
      replace hbf := hbf.trans (hb.mono hbf.size)
      clear hb
      go_wp2_with fail
      go_ret
      exact ⟨rfl, hbf⟩
    case neg =>
      have hsi : ¬ (400 : Int) < ((s.length : Nat) : Int) := by omega
      have ev0 := hbv.c0
      have ev1 := hbv.c1
      have ev2 := hbv.c2
      have eu0 := hbu.c0
      have eu1 := hbu.c1
      have eu2 := hbu.c2
      go_wp2_with fail
      refine (alive12_any _).mono ?_
      rintro e w3 ⟨rfl, hb⟩
      clear ev0 ev1 ev2 eu0 eu1 eu2
      replace hbv := hbv.kept hb
      replace hbu := hbu.kept hb
      replace hbf := hbf.trans (hb.mono hbf.size)
      clear hb
      obtain ⟨nb, hnb⟩ : ∃ b, b = vnum k n c := ⟨_, rfl⟩
      have HNB := Lib.hid hnb
      obtain ⟨q, hq⟩ : ∃ q, q = vq k n c := ⟨_, rfl⟩
      have hqb : QB q 20000 := by rw [hq]; exact QB.vq k n c
      have HQ := Lib.hid hq
      obtain ⟨p, hp⟩ : ∃ q, q = qval n := ⟨_, rfl⟩
      have hpb : QB p 20000 := by rw [hp]; exact QB.val9 n
      have HP9 := Lib.hid hp
      clear hnb hq hp
      have ev0 := hbv.c0
      have ev1 := hbv.c1
      have ev2 := hbv.c2
      go_wp2_with fail
      refine (vnum_q k n c q nb _ HNB HQ (by omega)).mono ?_
      rintro e w4 hq9
      obtain ⟨aB, axO, axL, axC, ayO, ayL, ayC, rfl, hS, hax, hay, ha, hb⟩ := hq9.out
      have HaS := Lib.hid hS; clear hS
      clear ev0 ev1 ev2
      replace hbv := hbv.kept hb
      replace hbu := hbu.kept hb
      replace hbf := hbf.trans (hb.mono hbf.size)
      clear hb
      obtain ⟨w5, hwE⟩ : ∃ W, W = (w4.alloc (.cells #[.bool aB, .slice axO axL axC, .slice ayO ayL ayC] 38)) := ⟨_, rfl⟩
      have hb : Below w4.heap.size w4 w5 := by rw [hwE]; exact ((Below.refl _ w4).alloc (Nat.le_refl _) _)
      obtain ⟨pa, hpa⟩ : ∃ p, p = w4.heap.size := ⟨_, rfl⟩
      have hba : Box3 w5 pa (Value.bool aB) (Value.slice axO axL axC) (Value.slice ayO ayL ayC) := by rw [hwE, hpa]; exact ⟨by go_simp, by go_simp, by go_simp, by go_simp, by go_simp, by go_simp⟩
      replace HP : Hid (w.heap.size ≤ pv ∧ pv < pu ∧ pu < pa) := Lib.hid (by have h1 := HP.out; have h9 := hbf.size; have h2u := hbu.lt; omega)
      have HW := Lib.hid hwE; clear hwE
      go_upto_region 4 with fail
      rw [← HW.out, ← hpa]
      clear hpa HW
      replace hbv := hbv.kept hb
      replace hbu := hbu.kept hb
      replace hax := hax.below hb
      replace hay := hay.below hb
      replace ha := ha.below hb
      replace hbf := hbf.trans (hb.mono hbf.size)
      clear hb
      have ev0 := hbv.c0
      have ev1 := hbv.c1
      have ev2 := hbv.c2
      go_wp2_with fail
      refine (rvnum_q k n c p nb _ HNB HP9 (by omega)).mono ?_
      rintro e w6 hq9
      obtain ⟨xB, xxO, xxL, xxC, xyO, xyL, xyC, rfl, hS, hxx, hxy, hx, hb⟩ := hq9.out
      have HxS := Lib.hid hS; clear hS
      clear ev0 ev1 ev2
      replace hbv := hbv.kept hb
      replace hbu := hbu.kept hb
      replace hba := hba.kept hb
      replace hax := hax.below hb
      replace hay := hay.below hb
      replace ha := ha.below hb
      replace hbf := hbf.trans (hb.mono hbf.size)
      clear hb
      obtain ⟨w7, hwE⟩ : ∃ W, W = (w6.alloc (.cells #[.bool xB, .slice xxO xxL xxC, .slice xyO xyL xyC] 51)) := ⟨_, rfl⟩
      have hb : Below w6.heap.size w6 w7 := by rw [hwE]; exact ((Below.refl _ w6).alloc (Nat.le_refl _) _)
      obtain ⟨px, hpx⟩ : ∃ p, p = w6.heap.size := ⟨_, rfl⟩
      have hbx : Box3 w7 px (Value.bool xB) (Value.slice xxO xxL xxC) (Value.slice xyO xyL xyC) := by rw [hwE, hpx]; exact ⟨by go_simp, by go_simp, by go_simp, by go_simp, by go_simp, by go_simp⟩
      replace HP : Hid (w.heap.size ≤ pv ∧ pv < pu ∧ pu < pa ∧ pa < px) := Lib.hid (by have h1 := HP.out; have h9 := hbf.size; have h2a := hba.lt; omega)
      have HW := Lib.hid hwE; clear hwE
      go_upto_region 5 with fail
      rw [← HW.out, ← hpx]
      clear hpx HW
      replace hbv := hbv.kept hb
      replace hbu := hbu.kept hb
      replace hba := hba.kept hb
      replace hax := hax.below hb
      replace hay := hay.below hb
      replace ha := ha.below hb
      replace hxx := hxx.below hb
      replace hxy := hxy.below hb
      replace hx := hx.below hb
      replace hbf := hbf.trans (hb.mono hbf.size)
      clear hb
      cases nb
      case false =>
        have hq0 : q = 0 := by rw [HQ.out]; exact vq_no HNB.out
        have HT0 : Hid ([48] = qtext q) := Lib.hid (by rw [hq0, qt_z])
        clear hq0
        refine wp_region_seq (S := fun w' => Box3 w' pa (Value.bool aB) (Value.slice axO axL axC) (Value.slice ayO ayL ayC) ∧ Box3 w' px (Value.bool xB) (Value.slice xxO xxL xxC) (Value.slice xyO xyL xyC)) [(true, 0), (true, 1), (true, 2), (true, 3), (true, 4), (true, 5), (true, 6), (true, 8), (false, 7), (false, 9), (true, 10), (true, 11), (true, 12), (true, 13), (true, 14), (true, 15), (true, 16), (true, 17), (false, 18), (true, 19), (true, 20), (true, 21)] (by kernel_rfl) (by kernel_rfl) (by kernel_rfl) (by kernel_rfl) (by kernel_rfl) (fun d _ _ _ _ h => by cases d <;> exact h) ⟨hba.drew, hbx.drew⟩ (fun _ => ?_)
        simp only [pickOps, List.append_eq, List.cons_append, List.nil_append, List.getElem?_toArray, List.getElem?_cons_succ, List.getElem?_cons_zero]
        have hb : Below w7.heap.size w7 w7.drew := (Below.refl _ _).drew
        generalize w7.drew = w8 at hb ⊢
        replace hbv := hbv.kept hb
        replace hbu := hbu.kept hb
        replace hba := hba.kept hb
        replace hbx := hbx.kept hb
        replace hax := hax.below hb
        replace hay := hay.below hb
        replace ha := ha.below hb
        replace hxx := hxx.below hb
        replace hxy := hxy.below hb
        replace hx := hx.below hb
        replace hbf := hbf.trans (hb.mono hbf.size)
        clear hb
        repeat (first | (refine seq_take (v := ?_) (by rfl) ?_ ?_; rotate_left; (· intro w hSw; (try dsimp only at hSw); obtain ⟨⟨ea0, ea1, ea2, _, _, _⟩, ⟨ex0, ex1, ex2, _, _, _⟩⟩ := hSw; go_simp; all_goals with_reducible rfl); (try simp only [Act.put, List.setIfInBounds_toArray, List.set_cons_zero, List.set_cons_succ])) | (refine seq_leave (by rfl) ?_; (try simp only [Act.put, List.setIfInBounds_toArray, List.set_cons_zero, List.set_cons_succ])))
        refine seq_pass (by rfl) ⟨hba, hbx⟩ ?_
        (try simp only [Act.put, List.setIfInBounds_toArray, List.set_cons_zero, List.set_cons_succ])
        refine seq_pass (by rfl) ⟨hba, hbx⟩ ?_
        (try simp only [Act.put, List.setIfInBounds_toArray, List.set_cons_zero, List.set_cons_succ])
        repeat (first | (refine seq_take (v := ?_) (by rfl) ?_ ?_; rotate_left; (· intro w hSw; (try dsimp only at hSw); obtain ⟨⟨ea0, ea1, ea2, _, _, _⟩, ⟨ex0, ex1, ex2, _, _, _⟩⟩ := hSw; go_simp; all_goals with_reducible rfl); (try simp only [Act.put, List.setIfInBounds_toArray, List.set_cons_zero, List.set_cons_succ])) | (refine seq_leave (by rfl) ?_; (try simp only [Act.put, List.setIfInBounds_toArray, List.set_cons_zero, List.set_cons_succ])))
        refine seq_step (by rfl) (fun K hK => ?_)
        go_simp
        go_at_call 18
        (with_reducible refine (qtext_t9 _ q [48] _ ha (hqb.mono (by decide)) HT0).mono ?_)
        rintro e w9 ⟨rfl, hb⟩
        replace hbv := hbv.kept hb
        replace hbu := hbu.kept hb
        replace hba := hba.kept hb
        replace hbx := hbx.kept hb
        replace hax := hax.below hb
        replace hay := hay.below hb
        replace ha := ha.below hb
        replace hxx := hxx.below hb
        replace hxy := hxy.below hb
        replace hx := hx.below hb
        replace hbf := hbf.trans (hb.mono hbf.size)
        clear hb
        first | refine hK.out _ _ ⟨hba, hbx⟩ (fun _ => ?_) | (go_wp2_with fail; refine hK.out _ _ ⟨hba, hbx⟩ (fun _ => ?_))
        clear hK K
        (try simp only [Act.put, List.setIfInBounds_toArray, List.set_cons_zero, List.set_cons_succ])
        repeat (first | (refine seq_take (v := ?_) (by rfl) ?_ ?_; rotate_left; (· intro w hSw; (try dsimp only at hSw); obtain ⟨⟨ea0, ea1, ea2, _, _, _⟩, ⟨ex0, ex1, ex2, _, _, _⟩⟩ := hSw; go_simp; all_goals with_reducible rfl); (try simp only [Act.put, List.setIfInBounds_toArray, List.set_cons_zero, List.set_cons_succ])) | (refine seq_leave (by rfl) ?_; (try simp only [Act.put, List.setIfInBounds_toArray, List.set_cons_zero, List.set_cons_succ])))
        refine seq_end ?_
        clear ha hax hay hx hxx hxy
        obtain ⟨K, hK⟩ : ∃ k, k = vpk s := ⟨_, rfl⟩
        obtain ⟨N, hN⟩ : ∃ k, k = vpn s := ⟨_, rfl⟩
        obtain ⟨G, hG⟩ : ∃ k, k = vpcat s := ⟨_, rfl⟩
        obtain ⟨d, hd⟩ : ∃ k, k = vpc s := ⟨_, rfl⟩
        have HK := Lib.hid hK
        have HN := Lib.hid hN
        have HG := Lib.hid hG
        have HD := Lib.hid hd
        clear hK hN hG hd
        go_wp2_with fail
        refine (vparse_b s N G K d _ HK HN HG HD (by omega) (Lib.hid fun _ => by omega)).mono ?_
        rintro e w10 ⟨rfl, hb⟩
        replace hbv := hbv.kept hb
        replace hbu := hbu.kept hb
        replace hba := hba.kept hb
        replace hbx := hbx.kept hb
        replace hbf := hbf.trans (hb.mono hbf.size)
        clear hb
        obtain ⟨w11, hwE⟩ : ∃ W, W = (w10.alloc (.cells #[.int .i64 K, .string ⟨N.toArray⟩, .string ⟨G.toArray⟩] 23)) := ⟨_, rfl⟩
        have hb : Below w10.heap.size w10 w11 := by rw [hwE]; exact ((Below.refl _ w10).alloc (Nat.le_refl _) _)
        obtain ⟨py, hpy⟩ : ∃ p, p = w10.heap.size := ⟨_, rfl⟩
        have hby : Box3 w11 py (Value.int .i64 K) (Value.string ⟨N.toArray⟩) (Value.string ⟨G.toArray⟩) := by rw [hwE, hpy]; exact ⟨by go_simp, by go_simp, by go_simp, by go_simp, by go_simp, by go_simp⟩
        replace HP : Hid (w.heap.size ≤ pv ∧ pv < pu ∧ pu < pa ∧ pa < px ∧ px < py) := Lib.hid (by have h1 := HP.out; have h9 := hbf.size; have h2x := hbx.lt; omega)
        have HW := Lib.hid hwE; clear hwE
        go_upto_region 8 with fail
        rw [← HW.out, ← hpy]
        clear hpy HW
        replace hbv := hbv.kept hb
        replace hbu := hbu.kept hb
        replace hba := hba.kept hb
        replace hbx := hbx.kept hb
        replace hbf := hbf.trans (hb.mono hbf.size)
        clear hb
        go_wp2_with fail
        refine (rvparse_b s N G K d _ HK HN HG HD (by omega) (Lib.hid fun _ => by omega)).mono ?_
        rintro e w12 ⟨rfl, hb⟩
        replace hbv := hbv.kept hb
        replace hbu := hbu.kept hb
        replace hba := hba.kept hb
        replace hbx := hbx.kept hb
        replace hby := hby.kept hb
        replace hbf := hbf.trans (hb.mono hbf.size)
        clear hb
        obtain ⟨w13, hwE⟩ : ∃ W, W = (w12.alloc (.cells #[.int .i64 K, .string ⟨N.toArray⟩, .string ⟨G.toArray⟩] 23)) := ⟨_, rfl⟩
        have hb : Below w12.heap.size w12 w13 := by rw [hwE]; exact ((Below.refl _ w12).alloc (Nat.le_refl _) _)
        obtain ⟨pz, hpz⟩ : ∃ p, p = w12.heap.size := ⟨_, rfl⟩
        have hbz : Box3 w13 pz (Value.int .i64 K) (Value.string ⟨N.toArray⟩) (Value.string ⟨G.toArray⟩) := by rw [hwE, hpz]; exact ⟨by go_simp, by go_simp, by go_simp, by go_simp, by go_simp, by go_simp⟩
        replace HP : Hid (w.heap.size ≤ pv ∧ pv < pu ∧ pu < pa ∧ pa < px ∧ px < py ∧ py < pz) := Lib.hid (by have h1 := HP.out; have h9 := hbf.size; have h2y := hby.lt; omega)
        have HW := Lib.hid hwE; clear hwE
        go_upto_region 9 with fail
        rw [← HW.out, ← hpz]
        clear hpz HW
        replace hbv := hbv.kept hb
        replace hbu := hbu.kept hb
        replace hba := hba.kept hb
        replace hbx := hbx.kept hb
        replace hby := hby.kept hb
        replace hbf := hbf.trans (hb.mono hbf.size)
        clear hb
        obtain ⟨vb, hvb⟩ : ∃ b, b = vvalid k n c := ⟨_, rfl⟩
        have HVB := Lib.hid hvb
        obtain ⟨T, hT⟩ : ∃ T, T = vtext k n c := ⟨_, rfl⟩
        have HT := Lib.hid hT
        clear hvb hT
        by_cases hk9 : k = k2
        case neg =>
          have hkb : (k == k2) = false := by rw [beq_eq_false_iff_ne]; exact hk9
          have HSB : Hid (false = (decide (k = k2) && (decide (n = n2) && decide (c = c2)))) := Lib.hid (by simp [hk9])
          refine wp_region_seq (S := fun w' => Box3 w' pv (Value.int .i64 k) (Value.string ⟨n.toArray⟩) (Value.string ⟨c.toArray⟩) ∧ Box3 w' pu (Value.int .i64 k2) (Value.string ⟨n2.toArray⟩) (Value.string ⟨c2.toArray⟩) ∧ Box3 w' py (Value.int .i64 K) (Value.string ⟨N.toArray⟩) (Value.string ⟨G.toArray⟩) ∧ Box3 w' pz (Value.int .i64 K) (Value.string ⟨N.toArray⟩) (Value.string ⟨G.toArray⟩)) [(true, 0), (true, 2), (false, 1), (false, 3), (true, 4), (true, 5), (true, 6), (true, 8), (false, 7), (false, 9), (true, 10), (true, 11), (true, 12), (true, 13), (true, 14), (true, 16), (true, 17), (true, 18), (false, 15), (true, 19), (true, 20), (true, 21), (true, 22), (true, 23), (true, 24), (true, 25), (true, 26), (true, 27), (true, 28), (true, 29), (true, 30), (true, 31), (true, 32), (true, 34), (true, 35), (false, 33), (true, 36), (true, 37), (true, 38)] (by kernel_rfl) (by kernel_rfl) (by kernel_rfl) (by kernel_rfl) (by kernel_rfl) (fun d _ _ _ _ h => by cases d <;> exact h) ⟨hbv.drew, hbu.drew, hby.drew, hbz.drew⟩ (fun _ => ?_)
          simp only [pickOps, List.append_eq, List.cons_append, List.nil_append, List.getElem?_toArray, List.getElem?_cons_succ, List.getElem?_cons_zero]
          have hb : Below w13.heap.size w13 w13.drew := (Below.refl _ _).drew
          generalize w13.drew = w14 at hb ⊢
          replace hbv := hbv.kept hb
          replace hbu := hbu.kept hb
          replace hba := hba.kept hb
          replace hbx := hbx.kept hb
          replace hby := hby.kept hb
          replace hbz := hbz.kept hb
          replace hbf := hbf.trans (hb.mono hbf.size)
          clear hb
          repeat (first | (refine seq_take (v := ?_) (by rfl) ?_ ?_; rotate_left; (· intro w hSw; (try dsimp only at hSw); obtain ⟨⟨ev0, ev1, ev2, _, _, _⟩, ⟨eu0, eu1, eu2, _, _, _⟩, ⟨ey0, ey1, ey2, _, _, _⟩, ⟨ez0, ez1, ez2, _, _, _⟩⟩ := hSw; go_simp; all_goals with_reducible rfl); (try simp only [Act.put, List.setIfInBounds_toArray, List.set_cons_zero, List.set_cons_succ])) | (refine seq_leave (by rfl) ?_; (try simp only [Act.put, List.setIfInBounds_toArray, List.set_cons_zero, List.set_cons_succ])))
          refine seq_step (by rfl) (fun K hK => ?_)
          go_simp
          go_at_call 14
          (with_reducible refine (vvalid_b k n c vb _ HVB (by omega)).mono ?_)
          rintro e w15 ⟨rfl, hb⟩
          replace hbv := hbv.kept hb
          replace hbu := hbu.kept hb
          replace hba := hba.kept hb
          replace hbx := hbx.kept hb
          replace hby := hby.kept hb
          replace hbz := hbz.kept hb
          replace hbf := hbf.trans (hb.mono hbf.size)
          clear hb
          first | refine hK.out _ _ ⟨hbv, hbu, hby, hbz⟩ (fun _ => ?_) | (go_wp2_with fail; refine hK.out _ _ ⟨hbv, hbu, hby, hbz⟩ (fun _ => ?_))
          clear hK K
          (try simp only [Act.put, List.setIfInBounds_toArray, List.set_cons_zero, List.set_cons_succ])
          refine seq_step (by rfl) (fun K hK => ?_)
          go_simp
          go_at_call 8
          (with_reducible refine (rvvalid_b k n c vb _ HVB (by omega)).mono ?_)
          rintro e w16 ⟨rfl, hb⟩
          replace hbv := hbv.kept hb
          replace hbu := hbu.kept hb
          replace hba := hba.kept hb
          replace hbx := hbx.kept hb
          replace hby := hby.kept hb
          replace hbz := hbz.kept hb
          replace hbf := hbf.trans (hb.mono hbf.size)
          clear hb
          first | refine hK.out _ _ ⟨hbv, hbu, hby, hbz⟩ (fun _ => ?_) | (go_wp2_with fail; refine hK.out _ _ ⟨hbv, hbu, hby, hbz⟩ (fun _ => ?_))
          clear hK K
          (try simp only [Act.put, List.setIfInBounds_toArray, List.set_cons_zero, List.set_cons_succ])
          repeat (first | (refine seq_take (v := ?_) (by rfl) ?_ ?_; rotate_left; (· intro w hSw; (try dsimp only at hSw); obtain ⟨⟨ev0, ev1, ev2, _, _, _⟩, ⟨eu0, eu1, eu2, _, _, _⟩, ⟨ey0, ey1, ey2, _, _, _⟩, ⟨ez0, ez1, ez2, _, _, _⟩⟩ := hSw; go_simp; all_goals with_reducible rfl); (try simp only [Act.put, List.setIfInBounds_toArray, List.set_cons_zero, List.set_cons_succ])) | (refine seq_leave (by rfl) ?_; (try simp only [Act.put, List.setIfInBounds_toArray, List.set_cons_zero, List.set_cons_succ])))
          refine seq_step (by rfl) (fun K hK => ?_)
          go_simp
          go_at_call 15
          (with_reducible refine (vtext_t k n c T _ HT (by omega) (by omega)).mono ?_)
          rintro e w17 ⟨rfl, hb⟩
          replace hbv := hbv.kept hb
          replace hbu := hbu.kept hb
          replace hba := hba.kept hb
          replace hbx := hbx.kept hb
          replace hby := hby.kept hb
          replace hbz := hbz.kept hb
          replace hbf := hbf.trans (hb.mono hbf.size)
          clear hb
          first | refine hK.out _ _ ⟨hbv, hbu, hby, hbz⟩ (fun _ => ?_) | (go_wp2_with fail; refine hK.out _ _ ⟨hbv, hbu, hby, hbz⟩ (fun _ => ?_))
          clear hK K
          (try simp only [Act.put, List.setIfInBounds_toArray, List.set_cons_zero, List.set_cons_succ])
          refine seq_step (by rfl) (fun K hK => ?_)
          go_simp
          go_at_call 21
          (with_reducible refine (rvtext_t k n c T _ HT (by omega) (by omega)).mono ?_)
          rintro e w18 ⟨rfl, hb⟩
          replace hbv := hbv.kept hb
          replace hbu := hbu.kept hb
          replace hba := hba.kept hb
          replace hbx := hbx.kept hb
          replace hby := hby.kept hb
          replace hbz := hbz.kept hb
          replace hbf := hbf.trans (hb.mono hbf.size)
          clear hb
          first | refine hK.out _ _ ⟨hbv, hbu, hby, hbz⟩ (fun _ => ?_) | (go_wp2_with fail; refine hK.out _ _ ⟨hbv, hbu, hby, hbz⟩ (fun _ => ?_))
          clear hK K
          (try simp only [Act.put, List.setIfInBounds_toArray, List.set_cons_zero, List.set_cons_succ])
          repeat (first | (refine seq_take (v := ?_) (by rfl) ?_ ?_; rotate_left; (· intro w hSw; (try dsimp only at hSw); obtain ⟨⟨ev0, ev1, ev2, _, _, _⟩, ⟨eu0, eu1, eu2, _, _, _⟩, ⟨ey0, ey1, ey2, _, _, _⟩, ⟨ez0, ez1, ez2, _, _, _⟩⟩ := hSw; go_simp; all_goals with_reducible rfl); (try simp only [Act.put, List.setIfInBounds_toArray, List.set_cons_zero, List.set_cons_succ])) | (refine seq_leave (by rfl) ?_; (try simp only [Act.put, List.setIfInBounds_toArray, List.set_cons_zero, List.set_cons_succ])))
          refine seq_step (by rfl) (fun K hK => ?_)
          go_simp
          go_at_call 22
          (with_reducible refine (vsame_b k k2 n c n2 c2 false _ HSB).mono ?_)
          rintro e w19 ⟨rfl, hb⟩
          replace hbv := hbv.kept hb
          replace hbu := hbu.kept hb
          replace hba := hba.kept hb
          replace hbx := hbx.kept hb
          replace hby := hby.kept hb
          replace hbz := hbz.kept hb
          replace hbf := hbf.trans (hb.mono hbf.size)
          clear hb
          first | refine hK.out _ _ ⟨hbv, hbu, hby, hbz⟩ (fun _ => ?_) | (go_wp2_with fail; refine hK.out _ _ ⟨hbv, hbu, hby, hbz⟩ (fun _ => ?_))
          clear hK K
          (try simp only [Act.put, List.setIfInBounds_toArray, List.set_cons_zero, List.set_cons_succ])
          repeat (first | (refine seq_take (v := ?_) (by rfl) ?_ ?_; rotate_left; (· intro w hSw; (try dsimp only at hSw); obtain ⟨⟨ev0, ev1, ev2, _, _, _⟩, ⟨eu0, eu1, eu2, _, _, _⟩, ⟨ey0, ey1, ey2, _, _, _⟩, ⟨ez0, ez1, ez2, _, _, _⟩⟩ := hSw; go_simp; all_goals with_reducible rfl); (try simp only [Act.put, List.setIfInBounds_toArray, List.set_cons_zero, List.set_cons_succ])) | (refine seq_leave (by rfl) ?_; (try simp only [Act.put, List.setIfInBounds_toArray, List.set_cons_zero, List.set_cons_succ])))
          refine seq_step (by rfl) (fun K hK => ?_)
          go_simp
          go_at_call 23
          (with_reducible refine (vcat_any s _ (by omega)).mono ?_)
          rintro e w20 ⟨rfl, hb⟩
          replace hbv := hbv.kept hb
          replace hbu := hbu.kept hb
          replace hba := hba.kept hb
          replace hbx := hbx.kept hb
          replace hby := hby.kept hb
          replace hbz := hbz.kept hb
          replace hbf := hbf.trans (hb.mono hbf.size)
          clear hb
          first | refine hK.out _ _ ⟨hbv, hbu, hby, hbz⟩ (fun _ => ?_) | (go_wp2_with fail; refine hK.out _ _ ⟨hbv, hbu, hby, hbz⟩ (fun _ => ?_))
          clear hK K
          (try simp only [Act.put, List.setIfInBounds_toArray, List.set_cons_zero, List.set_cons_succ])
          repeat (first | (refine seq_take (v := ?_) (by rfl) ?_ ?_; rotate_left; (· intro w hSw; (try dsimp only at hSw); obtain ⟨⟨ev0, ev1, ev2, _, _, _⟩, ⟨eu0, eu1, eu2, _, _, _⟩, ⟨ey0, ey1, ey2, _, _, _⟩, ⟨ez0, ez1, ez2, _, _, _⟩⟩ := hSw; go_simp; all_goals with_reducible rfl); (try simp only [Act.put, List.setIfInBounds_toArray, List.set_cons_zero, List.set_cons_succ])) | (refine seq_leave (by rfl) ?_; (try simp only [Act.put, List.setIfInBounds_toArray, List.set_cons_zero, List.set_cons_succ])))
          refine seq_end ?_
          go_wp2_with fail
          go_ret
          exact ⟨rfl, hbf⟩
        case pos =>
          subst hk9
          by_cases hn9 : n = n2
          case neg =>
            have hnb : (n == n2) = false := by rw [beq_eq_false_iff_ne]; exact hn9
            have HSB : Hid (false = (decide (k = k) && (decide (n = n2) && decide (c = c2)))) := Lib.hid (by simp [hn9])
            refine wp_region_seq (S := fun w' => Box3 w' pv (Value.int .i64 k) (Value.string ⟨n.toArray⟩) (Value.string ⟨c.toArray⟩) ∧ Box3 w' pu (Value.int .i64 k) (Value.string ⟨n2.toArray⟩) (Value.string ⟨c2.toArray⟩) ∧ Box3 w' py (Value.int .i64 K) (Value.string ⟨N.toArray⟩) (Value.string ⟨G.toArray⟩) ∧ Box3 w' pz (Value.int .i64 K) (Value.string ⟨N.toArray⟩) (Value.string ⟨G.toArray⟩)) [(true, 0), (true, 2), (false, 1), (false, 3), (true, 4), (true, 5), (true, 6), (true, 8), (false, 7), (false, 9), (true, 10), (true, 11), (true, 12), (true, 13), (true, 14), (true, 16), (true, 17), (true, 18), (false, 15), (true, 19), (true, 20), (true, 21), (true, 22), (true, 23), (true, 24), (true, 25), (true, 26), (true, 27), (true, 28), (true, 29), (true, 30), (true, 31), (true, 32), (true, 34), (true, 35), (false, 33), (true, 36), (true, 37), (true, 38)] (by kernel_rfl) (by kernel_rfl) (by kernel_rfl) (by kernel_rfl) (by kernel_rfl) (fun d _ _ _ _ h => by cases d <;> exact h) ⟨hbv.drew, hbu.drew, hby.drew, hbz.drew⟩ (fun _ => ?_)
            simp only [pickOps, List.append_eq, List.cons_append, List.nil_append, List.getElem?_toArray, List.getElem?_cons_succ, List.getElem?_cons_zero]
            have hb : Below w13.heap.size w13 w13.drew := (Below.refl _ _).drew
            generalize w13.drew = w14 at hb ⊢
            replace hbv := hbv.kept hb
            replace hbu := hbu.kept hb
            replace hba := hba.kept hb
            replace hbx := hbx.kept hb
            replace hby := hby.kept hb
            replace hbz := hbz.kept hb
            replace hbf := hbf.trans (hb.mono hbf.size)
            clear hb
            repeat (first | (refine seq_take (v := ?_) (by rfl) ?_ ?_; rotate_left; (· intro w hSw; (try dsimp only at hSw); obtain ⟨⟨ev0, ev1, ev2, _, _, _⟩, ⟨eu0, eu1, eu2, _, _, _⟩, ⟨ey0, ey1, ey2, _, _, _⟩, ⟨ez0, ez1, ez2, _, _, _⟩⟩ := hSw; go_simp; all_goals with_reducible rfl); (try simp only [Act.put, List.setIfInBounds_toArray, List.set_cons_zero, List.set_cons_succ])) | (refine seq_leave (by rfl) ?_; (try simp only [Act.put, List.setIfInBounds_toArray, List.set_cons_zero, List.set_cons_succ])))
            refine seq_step (by rfl) (fun K hK => ?_)
            go_simp
            go_at_call 14
            (with_reducible refine (vvalid_b k n c vb _ HVB (by omega)).mono ?_)
            rintro e w15 ⟨rfl, hb⟩
            replace hbv := hbv.kept hb
            replace hbu := hbu.kept hb
            replace hba := hba.kept hb
            replace hbx := hbx.kept hb
            replace hby := hby.kept hb
            replace hbz := hbz.kept hb
            replace hbf := hbf.trans (hb.mono hbf.size)
            clear hb
            first | refine hK.out _ _ ⟨hbv, hbu, hby, hbz⟩ (fun _ => ?_) | (go_wp2_with fail; refine hK.out _ _ ⟨hbv, hbu, hby, hbz⟩ (fun _ => ?_))
            clear hK K
            (try simp only [Act.put, List.setIfInBounds_toArray, List.set_cons_zero, List.set_cons_succ])
            refine seq_step (by rfl) (fun K hK => ?_)
            go_simp
            go_at_call 8
            (with_reducible refine (rvvalid_b k n c vb _ HVB (by omega)).mono ?_)
            rintro e w16 ⟨rfl, hb⟩
            replace hbv := hbv.kept hb
            replace hbu := hbu.kept hb
            replace hba := hba.kept hb
            replace hbx := hbx.kept hb
            replace hby := hby.kept hb
            replace hbz := hbz.kept hb
            replace hbf := hbf.trans (hb.mono hbf.size)
            clear hb
            first | refine hK.out _ _ ⟨hbv, hbu, hby, hbz⟩ (fun _ => ?_) | (go_wp2_with fail; refine hK.out _ _ ⟨hbv, hbu, hby, hbz⟩ (fun _ => ?_))
            clear hK K
            (try simp only [Act.put, List.setIfInBounds_toArray, List.set_cons_zero, List.set_cons_succ])
            repeat (first | (refine seq_take (v := ?_) (by rfl) ?_ ?_; rotate_left; (· intro w hSw; (try dsimp only at hSw); obtain ⟨⟨ev0, ev1, ev2, _, _, _⟩, ⟨eu0, eu1, eu2, _, _, _⟩, ⟨ey0, ey1, ey2, _, _, _⟩, ⟨ez0, ez1, ez2, _, _, _⟩⟩ := hSw; go_simp; all_goals with_reducible rfl); (try simp only [Act.put, List.setIfInBounds_toArray, List.set_cons_zero, List.set_cons_succ])) | (refine seq_leave (by rfl) ?_; (try simp only [Act.put, List.setIfInBounds_toArray, List.set_cons_zero, List.set_cons_succ])))
            refine seq_step (by rfl) (fun K hK => ?_)
            go_simp
            go_at_call 15
            (with_reducible refine (vtext_t k n c T _ HT (by omega) (by omega)).mono ?_)
            rintro e w17 ⟨rfl, hb⟩
            replace hbv := hbv.kept hb
            replace hbu := hbu.kept hb
            replace hba := hba.kept hb
            replace hbx := hbx.kept hb
            replace hby := hby.kept hb
            replace hbz := hbz.kept hb
            replace hbf := hbf.trans (hb.mono hbf.size)
            clear hb
            first | refine hK.out _ _ ⟨hbv, hbu, hby, hbz⟩ (fun _ => ?_) | (go_wp2_with fail; refine hK.out _ _ ⟨hbv, hbu, hby, hbz⟩ (fun _ => ?_))
            clear hK K
            (try simp only [Act.put, List.setIfInBounds_toArray, List.set_cons_zero, List.set_cons_succ])
            refine seq_step (by rfl) (fun K hK => ?_)
            go_simp
            go_at_call 21
            (with_reducible refine (rvtext_t k n c T _ HT (by omega) (by omega)).mono ?_)
            rintro e w18 ⟨rfl, hb⟩
            replace hbv := hbv.kept hb
            replace hbu := hbu.kept hb
            replace hba := hba.kept hb
            replace hbx := hbx.kept hb
            replace hby := hby.kept hb
            replace hbz := hbz.kept hb
            replace hbf := hbf.trans (hb.mono hbf.size)
            clear hb
            first | refine hK.out _ _ ⟨hbv, hbu, hby, hbz⟩ (fun _ => ?_) | (go_wp2_with fail; refine hK.out _ _ ⟨hbv, hbu, hby, hbz⟩ (fun _ => ?_))
            clear hK K
            (try simp only [Act.put, List.setIfInBounds_toArray, List.set_cons_zero, List.set_cons_succ])
            repeat (first | (refine seq_take (v := ?_) (by rfl) ?_ ?_; rotate_left; (· intro w hSw; (try dsimp only at hSw); obtain ⟨⟨ev0, ev1, ev2, _, _, _⟩, ⟨eu0, eu1, eu2, _, _, _⟩, ⟨ey0, ey1, ey2, _, _, _⟩, ⟨ez0, ez1, ez2, _, _, _⟩⟩ := hSw; go_simp; all_goals with_reducible rfl); (try simp only [Act.put, List.setIfInBounds_toArray, List.set_cons_zero, List.set_cons_succ])) | (refine seq_leave (by rfl) ?_; (try simp only [Act.put, List.setIfInBounds_toArray, List.set_cons_zero, List.set_cons_succ])))
            refine seq_step (by rfl) (fun K hK => ?_)
            go_simp
            go_at_call 22
            (with_reducible refine (vsame_b k k n c n2 c2 false _ HSB).mono ?_)
            rintro e w19 ⟨rfl, hb⟩
            replace hbv := hbv.kept hb
            replace hbu := hbu.kept hb
            replace hba := hba.kept hb
            replace hbx := hbx.kept hb
            replace hby := hby.kept hb
            replace hbz := hbz.kept hb
            replace hbf := hbf.trans (hb.mono hbf.size)
            clear hb
            first | refine hK.out _ _ ⟨hbv, hbu, hby, hbz⟩ (fun _ => ?_) | (go_wp2_with fail; refine hK.out _ _ ⟨hbv, hbu, hby, hbz⟩ (fun _ => ?_))
            clear hK K
            (try simp only [Act.put, List.setIfInBounds_toArray, List.set_cons_zero, List.set_cons_succ])
            repeat (first | (refine seq_take (v := ?_) (by rfl) ?_ ?_; rotate_left; (· intro w hSw; (try dsimp only at hSw); obtain ⟨⟨ev0, ev1, ev2, _, _, _⟩, ⟨eu0, eu1, eu2, _, _, _⟩, ⟨ey0, ey1, ey2, _, _, _⟩, ⟨ez0, ez1, ez2, _, _, _⟩⟩ := hSw; go_simp; all_goals with_reducible rfl); (try simp only [Act.put, List.setIfInBounds_toArray, List.set_cons_zero, List.set_cons_succ])) | (refine seq_leave (by rfl) ?_; (try simp only [Act.put, List.setIfInBounds_toArray, List.set_cons_zero, List.set_cons_succ])))
            refine seq_step (by rfl) (fun K hK => ?_)
            go_simp
            go_at_call 23
            (with_reducible refine (vcat_any s _ (by omega)).mono ?_)
            rintro e w20 ⟨rfl, hb⟩
            replace hbv := hbv.kept hb
            replace hbu := hbu.kept hb
            replace hba := hba.kept hb
            replace hbx := hbx.kept hb
            replace hby := hby.kept hb
            replace hbz := hbz.kept hb
            replace hbf := hbf.trans (hb.mono hbf.size)
            clear hb
            first | refine hK.out _ _ ⟨hbv, hbu, hby, hbz⟩ (fun _ => ?_) | (go_wp2_with fail; refine hK.out _ _ ⟨hbv, hbu, hby, hbz⟩ (fun _ => ?_))
            clear hK K
            (try simp only [Act.put, List.setIfInBounds_toArray, List.set_cons_zero, List.set_cons_succ])
            repeat (first | (refine seq_take (v := ?_) (by rfl) ?_ ?_; rotate_left; (· intro w hSw; (try dsimp only at hSw); obtain ⟨⟨ev0, ev1, ev2, _, _, _⟩, ⟨eu0, eu1, eu2, _, _, _⟩, ⟨ey0, ey1, ey2, _, _, _⟩, ⟨ez0, ez1, ez2, _, _, _⟩⟩ := hSw; go_simp; all_goals with_reducible rfl); (try simp only [Act.put, List.setIfInBounds_toArray, List.set_cons_zero, List.set_cons_succ])) | (refine seq_leave (by rfl) ?_; (try simp only [Act.put, List.setIfInBounds_toArray, List.set_cons_zero, List.set_cons_succ])))
            refine seq_end ?_
            go_wp2_with fail
            go_ret
            exact ⟨rfl, hbf⟩
          case pos =>
            subst hn9
            by_cases hc9 : c = c2
            case neg =>
              have hcb : (c == c2) = false := by rw [beq_eq_false_iff_ne]; exact hc9
              have HSB : Hid (false = (decide (k = k) && (decide (n = n) && decide (c = c2)))) := Lib.hid (by simp [hc9])
              refine wp_region_seq (S := fun w' => Box3 w' pv (Value.int .i64 k) (Value.string ⟨n.toArray⟩) (Value.string ⟨c.toArray⟩) ∧ Box3 w' pu (Value.int .i64 k) (Value.string ⟨n.toArray⟩) (Value.string ⟨c2.toArray⟩) ∧ Box3 w' py (Value.int .i64 K) (Value.string ⟨N.toArray⟩) (Value.string ⟨G.toArray⟩) ∧ Box3 w' pz (Value.int .i64 K) (Value.string ⟨N.toArray⟩) (Value.string ⟨G.toArray⟩)) [(true, 0), (true, 2), (false, 1), (false, 3), (true, 4), (true, 5), (true, 6), (true, 8), (false, 7), (false, 9), (true, 10), (true, 11), (true, 12), (true, 13), (true, 14), (true, 16), (true, 17), (true, 18), (false, 15), (true, 19), (true, 20), (true, 21), (true, 22), (true, 23), (true, 24), (true, 25), (true, 26), (true, 27), (true, 28), (true, 29), (true, 30), (true, 31), (true, 32), (true, 34), (true, 35), (false, 33), (true, 36), (true, 37), (true, 38)] (by kernel_rfl) (by kernel_rfl) (by kernel_rfl) (by kernel_rfl) (by kernel_rfl) (fun d _ _ _ _ h => by cases d <;> exact h) ⟨hbv.drew, hbu.drew, hby.drew, hbz.drew⟩ (fun _ => ?_)
              simp only [pickOps, List.append_eq, List.cons_append, List.nil_append, List.getElem?_toArray, List.getElem?_cons_succ, List.getElem?_cons_zero]
              have hb : Below w13.heap.size w13 w13.drew := (Below.refl _ _).drew
              generalize w13.drew = w14 at hb ⊢
              replace hbv := hbv.kept hb
              replace hbu := hbu.kept hb
              replace hba := hba.kept hb
              replace hbx := hbx.kept hb
              replace hby := hby.kept hb
              replace hbz := hbz.kept hb
              replace hbf := hbf.trans (hb.mono hbf.size)
              clear hb
              repeat (first | (refine seq_take (v := ?_) (by rfl) ?_ ?_; rotate_left; (· intro w hSw; (try dsimp only at hSw); obtain ⟨⟨ev0, ev1, ev2, _, _, _⟩, ⟨eu0, eu1, eu2, _, _, _⟩, ⟨ey0, ey1, ey2, _, _, _⟩, ⟨ez0, ez1, ez2, _, _, _⟩⟩ := hSw; go_simp; all_goals with_reducible rfl); (try simp only [Act.put, List.setIfInBounds_toArray, List.set_cons_zero, List.set_cons_succ])) | (refine seq_leave (by rfl) ?_; (try simp only [Act.put, List.setIfInBounds_toArray, List.set_cons_zero, List.set_cons_succ])))
              refine seq_step (by rfl) (fun K hK => ?_)
              go_simp
              go_at_call 14
              (with_reducible refine (vvalid_b k n c vb _ HVB (by omega)).mono ?_)
              rintro e w15 ⟨rfl, hb⟩
              replace hbv := hbv.kept hb
              replace hbu := hbu.kept hb
              replace hba := hba.kept hb
              replace hbx := hbx.kept hb
              replace hby := hby.kept hb
              replace hbz := hbz.kept hb
              replace hbf := hbf.trans (hb.mono hbf.size)
              clear hb
              first | refine hK.out _ _ ⟨hbv, hbu, hby, hbz⟩ (fun _ => ?_) | (go_wp2_with fail; refine hK.out _ _ ⟨hbv, hbu, hby, hbz⟩ (fun _ => ?_))
              clear hK K
              (try simp only [Act.put, List.setIfInBounds_toArray, List.set_cons_zero, List.set_cons_succ])
              refine seq_step (by rfl) (fun K hK => ?_)
              go_simp
              go_at_call 8
              (with_reducible refine (rvvalid_b k n c vb _ HVB (by omega)).mono ?_)
              rintro e w16 ⟨rfl, hb⟩
              replace hbv := hbv.kept hb
              replace hbu := hbu.kept hb
              replace hba := hba.kept hb
              replace hbx := hbx.kept hb
              replace hby := hby.kept hb
              replace hbz := hbz.kept hb
              replace hbf := hbf.trans (hb.mono hbf.size)
              clear hb
              first | refine hK.out _ _ ⟨hbv, hbu, hby, hbz⟩ (fun _ => ?_) | (go_wp2_with fail; refine hK.out _ _ ⟨hbv, hbu, hby, hbz⟩ (fun _ => ?_))
              clear hK K
              (try simp only [Act.put, List.setIfInBounds_toArray, List.set_cons_zero, List.set_cons_succ])
              repeat (first | (refine seq_take (v := ?_) (by rfl) ?_ ?_; rotate_left; (· intro w hSw; (try dsimp only at hSw); obtain ⟨⟨ev0, ev1, ev2, _, _, _⟩, ⟨eu0, eu1, eu2, _, _, _⟩, ⟨ey0, ey1, ey2, _, _, _⟩, ⟨ez0, ez1, ez2, _, _, _⟩⟩ := hSw; go_simp; all_goals with_reducible rfl); (try simp only [Act.put, List.setIfInBounds_toArray, List.set_cons_zero, List.set_cons_succ])) | (refine seq_leave (by rfl) ?_; (try simp only [Act.put, List.setIfInBounds_toArray, List.set_cons_zero, List.set_cons_succ])))
              refine seq_step (by rfl) (fun K hK => ?_)
              go_simp
              go_at_call 15
              (with_reducible refine (vtext_t k n c T _ HT (by omega) (by omega)).mono ?_)
              rintro e w17 ⟨rfl, hb⟩
              replace hbv := hbv.kept hb
              replace hbu := hbu.kept hb
              replace hba := hba.kept hb
              replace hbx := hbx.kept hb
              replace hby := hby.kept hb
              replace hbz := hbz.kept hb
              replace hbf := hbf.trans (hb.mono hbf.size)
              clear hb
              first | refine hK.out _ _ ⟨hbv, hbu, hby, hbz⟩ (fun _ => ?_) | (go_wp2_with fail; refine hK.out _ _ ⟨hbv, hbu, hby, hbz⟩ (fun _ => ?_))
              clear hK K
              (try simp only [Act.put, List.setIfInBounds_toArray, List.set_cons_zero, List.set_cons_succ])
              refine seq_step (by rfl) (fun K hK => ?_)
              go_simp
              go_at_call 21
              (with_reducible refine (rvtext_t k n c T _ HT (by omega) (by omega)).mono ?_)
              rintro e w18 ⟨rfl, hb⟩
              replace hbv := hbv.kept hb
              replace hbu := hbu.kept hb
              replace hba := hba.kept hb
              replace hbx := hbx.kept hb
              replace hby := hby.kept hb
              replace hbz := hbz.kept hb
              replace hbf := hbf.trans (hb.mono hbf.size)
              clear hb
              first | refine hK.out _ _ ⟨hbv, hbu, hby, hbz⟩ (fun _ => ?_) | (go_wp2_with fail; refine hK.out _ _ ⟨hbv, hbu, hby, hbz⟩ (fun _ => ?_))
              clear hK K
              (try simp only [Act.put, List.setIfInBounds_toArray, List.set_cons_zero, List.set_cons_succ])
              repeat (first | (refine seq_take (v := ?_) (by rfl) ?_ ?_; rotate_left; (· intro w hSw; (try dsimp only at hSw); obtain ⟨⟨ev0, ev1, ev2, _, _, _⟩, ⟨eu0, eu1, eu2, _, _, _⟩, ⟨ey0, ey1, ey2, _, _, _⟩, ⟨ez0, ez1, ez2, _, _, _⟩⟩ := hSw; go_simp; all_goals with_reducible rfl); (try simp only [Act.put, List.setIfInBounds_toArray, List.set_cons_zero, List.set_cons_succ])) | (refine seq_leave (by rfl) ?_; (try simp only [Act.put, List.setIfInBounds_toArray, List.set_cons_zero, List.set_cons_succ])))
              refine seq_step (by rfl) (fun K hK => ?_)
              go_simp
              go_at_call 22
              (with_reducible refine (vsame_b k k n c n c2 false _ HSB).mono ?_)
              rintro e w19 ⟨rfl, hb⟩
              replace hbv := hbv.kept hb
              replace hbu := hbu.kept hb
              replace hba := hba.kept hb
              replace hbx := hbx.kept hb
              replace hby := hby.kept hb
              replace hbz := hbz.kept hb
              replace hbf := hbf.trans (hb.mono hbf.size)
              clear hb
              first | refine hK.out _ _ ⟨hbv, hbu, hby, hbz⟩ (fun _ => ?_) | (go_wp2_with fail; refine hK.out _ _ ⟨hbv, hbu, hby, hbz⟩ (fun _ => ?_))
              clear hK K
              (try simp only [Act.put, List.setIfInBounds_toArray, List.set_cons_zero, List.set_cons_succ])
              repeat (first | (refine seq_take (v := ?_) (by rfl) ?_ ?_; rotate_left; (· intro w hSw; (try dsimp only at hSw); obtain ⟨⟨ev0, ev1, ev2, _, _, _⟩, ⟨eu0, eu1, eu2, _, _, _⟩, ⟨ey0, ey1, ey2, _, _, _⟩, ⟨ez0, ez1, ez2, _, _, _⟩⟩ := hSw; go_simp; all_goals with_reducible rfl); (try simp only [Act.put, List.setIfInBounds_toArray, List.set_cons_zero, List.set_cons_succ])) | (refine seq_leave (by rfl) ?_; (try simp only [Act.put, List.setIfInBounds_toArray, List.set_cons_zero, List.set_cons_succ])))
              refine seq_step (by rfl) (fun K hK => ?_)
              go_simp
              go_at_call 23
              (with_reducible refine (vcat_any s _ (by omega)).mono ?_)
              rintro e w20 ⟨rfl, hb⟩
              replace hbv := hbv.kept hb
              replace hbu := hbu.kept hb
              replace hba := hba.kept hb
              replace hbx := hbx.kept hb
              replace hby := hby.kept hb
              replace hbz := hbz.kept hb
              replace hbf := hbf.trans (hb.mono hbf.size)
              clear hb
              first | refine hK.out _ _ ⟨hbv, hbu, hby, hbz⟩ (fun _ => ?_) | (go_wp2_with fail; refine hK.out _ _ ⟨hbv, hbu, hby, hbz⟩ (fun _ => ?_))
              clear hK K
              (try simp only [Act.put, List.setIfInBounds_toArray, List.set_cons_zero, List.set_cons_succ])
              repeat (first | (refine seq_take (v := ?_) (by rfl) ?_ ?_; rotate_left; (· intro w hSw; (try dsimp only at hSw); obtain ⟨⟨ev0, ev1, ev2, _, _, _⟩, ⟨eu0, eu1, eu2, _, _, _⟩, ⟨ey0, ey1, ey2, _, _, _⟩, ⟨ez0, ez1, ez2, _, _, _⟩⟩ := hSw; go_simp; all_goals with_reducible rfl); (try simp only [Act.put, List.setIfInBounds_toArray, List.set_cons_zero, List.set_cons_succ])) | (refine seq_leave (by rfl) ?_; (try simp only [Act.put, List.setIfInBounds_toArray, List.set_cons_zero, List.set_cons_succ])))
              refine seq_end ?_
              go_wp2_with fail
              go_ret
              exact ⟨rfl, hbf⟩
            case pos =>
              subst hc9
              have HSB : Hid (true = (decide (k = k) && (decide (n = n) && decide (c = c)))) := Lib.hid (by simp)
              refine wp_region_seq (S := fun w' => Box3 w' pv (Value.int .i64 k) (Value.string ⟨n.toArray⟩) (Value.string ⟨c.toArray⟩) ∧ Box3 w' pu (Value.int .i64 k) (Value.string ⟨n.toArray⟩) (Value.string ⟨c.toArray⟩) ∧ Box3 w' py (Value.int .i64 K) (Value.string ⟨N.toArray⟩) (Value.string ⟨G.toArray⟩) ∧ Box3 w' pz (Value.int .i64 K) (Value.string ⟨N.toArray⟩) (Value.string ⟨G.toArray⟩)) [(true, 0), (true, 2), (false, 1), (false, 3), (true, 4), (true, 5), (true, 6), (true, 8), (false, 7), (false, 9), (true, 10), (true, 11), (true, 12), (true, 13), (true, 14), (true, 16), (true, 17), (true, 18), (false, 15), (true, 19), (true, 20), (true, 21), (true, 22), (true, 23), (true, 24), (true, 25), (true, 26), (true, 27), (true, 28), (true, 29), (true, 30), (true, 31), (true, 32), (true, 34), (true, 35), (false, 33), (true, 36), (true, 37), (true, 38)] (by kernel_rfl) (by kernel_rfl) (by kernel_rfl) (by kernel_rfl) (by kernel_rfl) (fun d _ _ _ _ h => by cases d <;> exact h) ⟨hbv.drew, hbu.drew, hby.drew, hbz.drew⟩ (fun _ => ?_)
              simp only [pickOps, List.append_eq, List.cons_append, List.nil_append, List.getElem?_toArray, List.getElem?_cons_succ, List.getElem?_cons_zero]
              have hb : Below w13.heap.size w13 w13.drew := (Below.refl _ _).drew
              generalize w13.drew = w14 at hb ⊢
              replace hbv := hbv.kept hb
              replace hbu := hbu.kept hb
              replace hba := hba.kept hb
              replace hbx := hbx.kept hb
              replace hby := hby.kept hb
              replace hbz := hbz.kept hb
              replace hbf := hbf.trans (hb.mono hbf.size)
              clear hb
              repeat (first | (refine seq_take (v := ?_) (by rfl) ?_ ?_; rotate_left; (· intro w hSw; (try dsimp only at hSw); obtain ⟨⟨ev0, ev1, ev2, _, _, _⟩, ⟨eu0, eu1, eu2, _, _, _⟩, ⟨ey0, ey1, ey2, _, _, _⟩, ⟨ez0, ez1, ez2, _, _, _⟩⟩ := hSw; go_simp; all_goals with_reducible rfl); (try simp only [Act.put, List.setIfInBounds_toArray, List.set_cons_zero, List.set_cons_succ])) | (refine seq_leave (by rfl) ?_; (try simp only [Act.put, List.setIfInBounds_toArray, List.set_cons_zero, List.set_cons_succ])))
              refine seq_step (by rfl) (fun K hK => ?_)
              go_simp
              go_at_call 14
              (with_reducible refine (vvalid_b k n c vb _ HVB (by omega)).mono ?_)
              rintro e w15 ⟨rfl, hb⟩
              replace hbv := hbv.kept hb
              replace hbu := hbu.kept hb
              replace hba := hba.kept hb
              replace hbx := hbx.kept hb
              replace hby := hby.kept hb
              replace hbz := hbz.kept hb
              replace hbf := hbf.trans (hb.mono hbf.size)
              clear hb
              first | refine hK.out _ _ ⟨hbv, hbu, hby, hbz⟩ (fun _ => ?_) | (go_wp2_with fail; refine hK.out _ _ ⟨hbv, hbu, hby, hbz⟩ (fun _ => ?_))
              clear hK K
              (try simp only [Act.put, List.setIfInBounds_toArray, List.set_cons_zero, List.set_cons_succ])
              refine seq_step (by rfl) (fun K hK => ?_)
              go_simp
              go_at_call 8
              (with_reducible refine (rvvalid_b k n c vb _ HVB (by omega)).mono ?_)
              rintro e w16 ⟨rfl, hb⟩
              replace hbv := hbv.kept hb
              replace hbu := hbu.kept hb
              replace hba := hba.kept hb
              replace hbx := hbx.kept hb
              replace hby := hby.kept hb
              replace hbz := hbz.kept hb
              replace hbf := hbf.trans (hb.mono hbf.size)
              clear hb
              first | refine hK.out _ _ ⟨hbv, hbu, hby, hbz⟩ (fun _ => ?_) | (go_wp2_with fail; refine hK.out _ _ ⟨hbv, hbu, hby, hbz⟩ (fun _ => ?_))
              clear hK K
              (try simp only [Act.put, List.setIfInBounds_toArray, List.set_cons_zero, List.set_cons_succ])
              repeat (first | (refine seq_take (v := ?_) (by rfl) ?_ ?_; rotate_left; (· intro w hSw; (try dsimp only at hSw); obtain ⟨⟨ev0, ev1, ev2, _, _, _⟩, ⟨eu0, eu1, eu2, _, _, _⟩, ⟨ey0, ey1, ey2, _, _, _⟩, ⟨ez0, ez1, ez2, _, _, _⟩⟩ := hSw; go_simp; all_goals with_reducible rfl); (try simp only [Act.put, List.setIfInBounds_toArray, List.set_cons_zero, List.set_cons_succ])) | (refine seq_leave (by rfl) ?_; (try simp only [Act.put, List.setIfInBounds_toArray, List.set_cons_zero, List.set_cons_succ])))
              refine seq_step (by rfl) (fun K hK => ?_)
              go_simp
              go_at_call 15
              (with_reducible refine (vtext_t k n c T _ HT (by omega) (by omega)).mono ?_)
              rintro e w17 ⟨rfl, hb⟩
              replace hbv := hbv.kept hb
              replace hbu := hbu.kept hb
              replace hba := hba.kept hb
              replace hbx := hbx.kept hb
              replace hby := hby.kept hb
              replace hbz := hbz.kept hb
              replace hbf := hbf.trans (hb.mono hbf.size)
              clear hb
              first | refine hK.out _ _ ⟨hbv, hbu, hby, hbz⟩ (fun _ => ?_) | (go_wp2_with fail; refine hK.out _ _ ⟨hbv, hbu, hby, hbz⟩ (fun _ => ?_))
              clear hK K
              (try simp only [Act.put, List.setIfInBounds_toArray, List.set_cons_zero, List.set_cons_succ])
              refine seq_step (by rfl) (fun K hK => ?_)
              go_simp
              go_at_call 21
              (with_reducible refine (rvtext_t k n c T _ HT (by omega) (by omega)).mono ?_)
              rintro e w18 ⟨rfl, hb⟩
              replace hbv := hbv.kept hb
              replace hbu := hbu.kept hb
              replace hba := hba.kept hb
              replace hbx := hbx.kept hb
              replace hby := hby.kept hb
              replace hbz := hbz.kept hb
              replace hbf := hbf.trans (hb.mono hbf.size)
              clear hb
              first | refine hK.out _ _ ⟨hbv, hbu, hby, hbz⟩ (fun _ => ?_) | (go_wp2_with fail; refine hK.out _ _ ⟨hbv, hbu, hby, hbz⟩ (fun _ => ?_))
              clear hK K
              (try simp only [Act.put, List.setIfInBounds_toArray, List.set_cons_zero, List.set_cons_succ])
              repeat (first | (refine seq_take (v := ?_) (by rfl) ?_ ?_; rotate_left; (· intro w hSw; (try dsimp only at hSw); obtain ⟨⟨ev0, ev1, ev2, _, _, _⟩, ⟨eu0, eu1, eu2, _, _, _⟩, ⟨ey0, ey1, ey2, _, _, _⟩, ⟨ez0, ez1, ez2, _, _, _⟩⟩ := hSw; go_simp; all_goals with_reducible rfl); (try simp only [Act.put, List.setIfInBounds_toArray, List.set_cons_zero, List.set_cons_succ])) | (refine seq_leave (by rfl) ?_; (try simp only [Act.put, List.setIfInBounds_toArray, List.set_cons_zero, List.set_cons_succ])))
              refine seq_step (by rfl) (fun K hK => ?_)
              go_simp
              go_at_call 22
              (with_reducible refine (vsame_b k k n c n c true _ HSB).mono ?_)
              rintro e w19 ⟨rfl, hb⟩
              replace hbv := hbv.kept hb
              replace hbu := hbu.kept hb
              replace hba := hba.kept hb
              replace hbx := hbx.kept hb
              replace hby := hby.kept hb
              replace hbz := hbz.kept hb
              replace hbf := hbf.trans (hb.mono hbf.size)
              clear hb
              first | refine hK.out _ _ ⟨hbv, hbu, hby, hbz⟩ (fun _ => ?_) | (go_wp2_with fail; refine hK.out _ _ ⟨hbv, hbu, hby, hbz⟩ (fun _ => ?_))
              clear hK K
              (try simp only [Act.put, List.setIfInBounds_toArray, List.set_cons_zero, List.set_cons_succ])
              repeat (first | (refine seq_take (v := ?_) (by rfl) ?_ ?_; rotate_left; (· intro w hSw; (try dsimp only at hSw); obtain ⟨⟨ev0, ev1, ev2, _, _, _⟩, ⟨eu0, eu1, eu2, _, _, _⟩, ⟨ey0, ey1, ey2, _, _, _⟩, ⟨ez0, ez1, ez2, _, _, _⟩⟩ := hSw; go_simp; all_goals with_reducible rfl); (try simp only [Act.put, List.setIfInBounds_toArray, List.set_cons_zero, List.set_cons_succ])) | (refine seq_leave (by rfl) ?_; (try simp only [Act.put, List.setIfInBounds_toArray, List.set_cons_zero, List.set_cons_succ])))
              refine seq_step (by rfl) (fun K hK => ?_)
              go_simp
              go_at_call 23
              (with_reducible refine (vcat_any s _ (by omega)).mono ?_)
              rintro e w20 ⟨rfl, hb⟩
              replace hbv := hbv.kept hb
              replace hbu := hbu.kept hb
              replace hba := hba.kept hb
              replace hbx := hbx.kept hb
              replace hby := hby.kept hb
              replace hbz := hbz.kept hb
              replace hbf := hbf.trans (hb.mono hbf.size)
              clear hb
              first | refine hK.out _ _ ⟨hbv, hbu, hby, hbz⟩ (fun _ => ?_) | (go_wp2_with fail; refine hK.out _ _ ⟨hbv, hbu, hby, hbz⟩ (fun _ => ?_))
              clear hK K
              (try simp only [Act.put, List.setIfInBounds_toArray, List.set_cons_zero, List.set_cons_succ])
              repeat (first | (refine seq_take (v := ?_) (by rfl) ?_ ?_; rotate_left; (· intro w hSw; (try dsimp only at hSw); obtain ⟨⟨ev0, ev1, ev2, _, _, _⟩, ⟨eu0, eu1, eu2, _, _, _⟩, ⟨ey0, ey1, ey2, _, _, _⟩, ⟨ez0, ez1, ez2, _, _, _⟩⟩ := hSw; go_simp; all_goals with_reducible rfl); (try simp only [Act.put, List.setIfInBounds_toArray, List.set_cons_zero, List.set_cons_succ])) | (refine seq_leave (by rfl) ?_; (try simp only [Act.put, List.setIfInBounds_toArray, List.set_cons_zero, List.set_cons_succ])))
              refine seq_end ?_
              go_wp2_with fail
              go_ret
              exact ⟨rfl, hbf⟩
      case true =>
        obtain ⟨T0, hT0⟩ : ∃ T, T = qtext p := ⟨_, rfl⟩
        have HT0 := Lib.hid hT0
        have HT1 : Hid (T0 = qtext q) := Lib.hid (by rw [hT0, HP9.out, HQ.out, vq_yes HNB.out])
        clear hT0
        refine wp_region_seq (S := fun w' => Box3 w' pa (Value.bool aB) (Value.slice axO axL axC) (Value.slice ayO ayL ayC) ∧ Box3 w' px (Value.bool xB) (Value.slice xxO xxL xxC) (Value.slice xyO xyL xyC)) [(true, 0), (true, 1), (true, 2), (true, 3), (true, 4), (true, 5), (true, 6), (true, 8), (false, 7), (false, 9), (true, 10), (true, 11), (true, 12), (true, 13), (true, 14), (true, 15), (true, 16), (true, 17), (false, 18), (true, 19), (true, 20), (true, 21)] (by kernel_rfl) (by kernel_rfl) (by kernel_rfl) (by kernel_rfl) (by kernel_rfl) (fun d _ _ _ _ h => by cases d <;> exact h) ⟨hba.drew, hbx.drew⟩ (fun _ => ?_)
        simp only [pickOps, List.append_eq, List.cons_append, List.nil_append, List.getElem?_toArray, List.getElem?_cons_succ, List.getElem?_cons_zero]
        have hb : Below w7.heap.size w7 w7.drew := (Below.refl _ _).drew
        generalize w7.drew = w8 at hb ⊢
        replace hbv := hbv.kept hb
        replace hbu := hbu.kept hb
        replace hba := hba.kept hb
        replace hbx := hbx.kept hb
        replace hax := hax.below hb
        replace hay := hay.below hb
        replace ha := ha.below hb
        replace hxx := hxx.below hb
        replace hxy := hxy.below hb
        replace hx := hx.below hb
        replace hbf := hbf.trans (hb.mono hbf.size)
        clear hb
        repeat (first | (refine seq_take (v := ?_) (by rfl) ?_ ?_; rotate_left; (· intro w hSw; (try dsimp only at hSw); obtain ⟨⟨ea0, ea1, ea2, _, _, _⟩, ⟨ex0, ex1, ex2, _, _, _⟩⟩ := hSw; go_simp; all_goals with_reducible rfl); (try simp only [Act.put, List.setIfInBounds_toArray, List.set_cons_zero, List.set_cons_succ])) | (refine seq_leave (by rfl) ?_; (try simp only [Act.put, List.setIfInBounds_toArray, List.set_cons_zero, List.set_cons_succ])))
        refine seq_step (by rfl) (fun K hK => ?_)
        go_simp
        go_at_call 18
        (with_reducible refine (qtext_t9 _ q T0 _ ha (hqb.mono (by decide)) HT1).mono ?_)
        rintro e w9 ⟨rfl, hb⟩
        replace hbv := hbv.kept hb
        replace hbu := hbu.kept hb
        replace hba := hba.kept hb
        replace hbx := hbx.kept hb
        replace hax := hax.below hb
        replace hay := hay.below hb
        replace ha := ha.below hb
        replace hxx := hxx.below hb
        replace hxy := hxy.below hb
        replace hx := hx.below hb
        replace hbf := hbf.trans (hb.mono hbf.size)
        clear hb
        first | refine hK.out _ _ ⟨hba, hbx⟩ (fun _ => ?_) | (go_wp2_with fail; refine hK.out _ _ ⟨hba, hbx⟩ (fun _ => ?_))
        clear hK K
        (try simp only [Act.put, List.setIfInBounds_toArray, List.set_cons_zero, List.set_cons_succ])
        refine seq_step (by rfl) (fun K hK => ?_)
        go_simp
        go_at_call 19
        (with_reducible refine (rqtext_t9 _ p T0 _ hx (hpb.mono (by decide)) HT0).mono ?_)
        rintro e w10 ⟨rfl, hb⟩
        replace hbv := hbv.kept hb
        replace hbu := hbu.kept hb
        replace hba := hba.kept hb
        replace hbx := hbx.kept hb
        replace hax := hax.below hb
        replace hay := hay.below hb
        replace ha := ha.below hb
        replace hxx := hxx.below hb
        replace hxy := hxy.below hb
        replace hx := hx.below hb
        replace hbf := hbf.trans (hb.mono hbf.size)
        clear hb
        first | refine hK.out _ _ ⟨hba, hbx⟩ (fun _ => ?_) | (go_wp2_with fail; refine hK.out _ _ ⟨hba, hbx⟩ (fun _ => ?_))
        clear hK K
        (try simp only [Act.put, List.setIfInBounds_toArray, List.set_cons_zero, List.set_cons_succ])
        repeat (first | (refine seq_take (v := ?_) (by rfl) ?_ ?_; rotate_left; (· intro w hSw; (try dsimp only at hSw); obtain ⟨⟨ea0, ea1, ea2, _, _, _⟩, ⟨ex0, ex1, ex2, _, _, _⟩⟩ := hSw; go_simp; all_goals with_reducible rfl); (try simp only [Act.put, List.setIfInBounds_toArray, List.set_cons_zero, List.set_cons_succ])) | (refine seq_leave (by rfl) ?_; (try simp only [Act.put, List.setIfInBounds_toArray, List.set_cons_zero, List.set_cons_succ])))
        refine seq_pass (by rfl) ⟨hba, hbx⟩ ?_
        (try simp only [Act.put, List.setIfInBounds_toArray, List.set_cons_zero, List.set_cons_succ])
        repeat (first | (refine seq_take (v := ?_) (by rfl) ?_ ?_; rotate_left; (· intro w hSw; (try dsimp only at hSw); obtain ⟨⟨ea0, ea1, ea2, _, _, _⟩, ⟨ex0, ex1, ex2, _, _, _⟩⟩ := hSw; go_simp; all_goals with_reducible rfl); (try simp only [Act.put, List.setIfInBounds_toArray, List.set_cons_zero, List.set_cons_succ])) | (refine seq_leave (by rfl) ?_; (try simp only [Act.put, List.setIfInBounds_toArray, List.set_cons_zero, List.set_cons_succ])))
        refine seq_end ?_
        clear ha hax hay hx hxx hxy
        obtain ⟨K, hK⟩ : ∃ k, k = vpk s := ⟨_, rfl⟩
        obtain ⟨N, hN⟩ : ∃ k, k = vpn s := ⟨_, rfl⟩
        obtain ⟨G, hG⟩ : ∃ k, k = vpcat s := ⟨_, rfl⟩
        obtain ⟨d, hd⟩ : ∃ k, k = vpc s := ⟨_, rfl⟩
        have HK := Lib.hid hK
        have HN := Lib.hid hN
        have HG := Lib.hid hG
        have HD := Lib.hid hd
        clear hK hN hG hd
        go_wp2_with fail
        refine (vparse_b s N G K d _ HK HN HG HD (by omega) (Lib.hid fun _ => by omega)).mono ?_
        rintro e w11 ⟨rfl, hb⟩
        replace hbv := hbv.kept hb
        replace hbu := hbu.kept hb
        replace hba := hba.kept hb
        replace hbx := hbx.kept hb
        replace hbf := hbf.trans (hb.mono hbf.size)
        clear hb
        obtain ⟨w12, hwE⟩ : ∃ W, W = (w11.alloc (.cells #[.int .i64 K, .string ⟨N.toArray⟩, .string ⟨G.toArray⟩] 23)) := ⟨_, rfl⟩
        have hb : Below w11.heap.size w11 w12 := by rw [hwE]; exact ((Below.refl _ w11).alloc (Nat.le_refl _) _)
        obtain ⟨py, hpy⟩ : ∃ p, p = w11.heap.size := ⟨_, rfl⟩
        have hby : Box3 w12 py (Value.int .i64 K) (Value.string ⟨N.toArray⟩) (Value.string ⟨G.toArray⟩) := by rw [hwE, hpy]; exact ⟨by go_simp, by go_simp, by go_simp, by go_simp, by go_simp, by go_simp⟩
        replace HP : Hid (w.heap.size ≤ pv ∧ pv < pu ∧ pu < pa ∧ pa < px ∧ px < py) := Lib.hid (by have h1 := HP.out; have h9 := hbf.size; have h2x := hbx.lt; omega)
        have HW := Lib.hid hwE; clear hwE
        go_upto_region 8 with fail
        rw [← HW.out, ← hpy]
        clear hpy HW
        replace hbv := hbv.kept hb
        replace hbu := hbu.kept hb
        replace hba := hba.kept hb
        replace hbx := hbx.kept hb
        replace hbf := hbf.trans (hb.mono hbf.size)
        clear hb
        go_wp2_with fail
        refine (rvparse_b s N G K d _ HK HN HG HD (by omega) (Lib.hid fun _ => by omega)).mono ?_
        rintro e w13 ⟨rfl, hb⟩
        replace hbv := hbv.kept hb
        replace hbu := hbu.kept hb
        replace hba := hba.kept hb
        replace hbx := hbx.kept hb
        replace hby := hby.kept hb
        replace hbf := hbf.trans (hb.mono hbf.size)
        clear hb
        obtain ⟨w14, hwE⟩ : ∃ W, W = (w13.alloc (.cells #[.int .i64 K, .string ⟨N.toArray⟩, .string ⟨G.toArray⟩] 23)) := ⟨_, rfl⟩
        have hb : Below w13.heap.size w13 w14 := by rw [hwE]; exact ((Below.refl _ w13).alloc (Nat.le_refl _) _)
        obtain ⟨pz, hpz⟩ : ∃ p, p = w13.heap.size := ⟨_, rfl⟩
        have hbz : Box3 w14 pz (Value.int .i64 K) (Value.string ⟨N.toArray⟩) (Value.string ⟨G.toArray⟩) := by rw [hwE, hpz]; exact ⟨by go_simp, by go_simp, by go_simp, by go_simp, by go_simp, by go_simp⟩
        replace HP : Hid (w.heap.size ≤ pv ∧ pv < pu ∧ pu < pa ∧ pa < px ∧ px < py ∧ py < pz) := Lib.hid (by have h1 := HP.out; have h9 := hbf.size; have h2y := hby.lt; omega)
        have HW := Lib.hid hwE; clear hwE
        go_upto_region 9 with fail
        rw [← HW.out, ← hpz]
        clear hpz HW
        replace hbv := hbv.kept hb
        replace hbu := hbu.kept hb
        replace hba := hba.kept hb
        replace hbx := hbx.kept hb
        replace hby := hby.kept hb
        replace hbf := hbf.trans (hb.mono hbf.size)
        clear hb
        obtain ⟨vb, hvb⟩ : ∃ b, b = vvalid k n c := ⟨_, rfl⟩
        have HVB := Lib.hid hvb
        obtain ⟨T, hT⟩ : ∃ T, T = vtext k n c := ⟨_, rfl⟩
        have HT := Lib.hid hT
        clear hvb hT
        by_cases hk9 : k = k2
        case neg =>
          have hkb : (k == k2) = false := by rw [beq_eq_false_iff_ne]; exact hk9
          have HSB : Hid (false = (decide (k = k2) && (decide (n = n2) && decide (c = c2)))) := Lib.hid (by simp [hk9])
          refine wp_region_seq (S := fun w' => Box3 w' pv (Value.int .i64 k) (Value.string ⟨n.toArray⟩) (Value.string ⟨c.toArray⟩) ∧ Box3 w' pu (Value.int .i64 k2) (Value.string ⟨n2.toArray⟩) (Value.string ⟨c2.toArray⟩) ∧ Box3 w' py (Value.int .i64 K) (Value.string ⟨N.toArray⟩) (Value.string ⟨G.toArray⟩) ∧ Box3 w' pz (Value.int .i64 K) (Value.string ⟨N.toArray⟩) (Value.string ⟨G.toArray⟩)) [(true, 0), (true, 2), (false, 1), (false, 3), (true, 4), (true, 5), (true, 6), (true, 8), (false, 7), (false, 9), (true, 10), (true, 11), (true, 12), (true, 13), (true, 14), (true, 16), (true, 17), (true, 18), (false, 15), (true, 19), (true, 20), (true, 21), (true, 22), (true, 23), (true, 24), (true, 25), (true, 26), (true, 27), (true, 28), (true, 29), (true, 30), (true, 31), (true, 32), (true, 34), (true, 35), (false, 33), (true, 36), (true, 37), (true, 38)] (by kernel_rfl) (by kernel_rfl) (by kernel_rfl) (by kernel_rfl) (by kernel_rfl) (fun d _ _ _ _ h => by cases d <;> exact h) ⟨hbv.drew, hbu.drew, hby.drew, hbz.drew⟩ (fun _ => ?_)
          simp only [pickOps, List.append_eq, List.cons_append, List.nil_append, List.getElem?_toArray, List.getElem?_cons_succ, List.getElem?_cons_zero]
          have hb : Below w14.heap.size w14 w14.drew := (Below.refl _ _).drew
          generalize w14.drew = w15 at hb ⊢
          replace hbv := hbv.kept hb
          replace hbu := hbu.kept hb
          replace hba := hba.kept hb
          replace hbx := hbx.kept hb
          replace hby := hby.kept hb
          replace hbz := hbz.kept hb
          replace hbf := hbf.trans (hb.mono hbf.size)
          clear hb
          repeat (first | (refine seq_take (v := ?_) (by rfl) ?_ ?_; rotate_left; (· intro w hSw; (try dsimp only at hSw); obtain ⟨⟨ev0, ev1, ev2, _, _, _⟩, ⟨eu0, eu1, eu2, _, _, _⟩, ⟨ey0, ey1, ey2, _, _, _⟩, ⟨ez0, ez1, ez2, _, _, _⟩⟩ := hSw; go_simp; all_goals with_reducible rfl); (try simp only [Act.put, List.setIfInBounds_toArray, List.set_cons_zero, List.set_cons_succ])) | (refine seq_leave (by rfl) ?_; (try simp only [Act.put, List.setIfInBounds_toArray, List.set_cons_zero, List.set_cons_succ])))
          refine seq_step (by rfl) (fun K hK => ?_)
          go_simp
          go_at_call 14
          (with_reducible refine (vvalid_b k n c vb _ HVB (by omega)).mono ?_)
          rintro e w16 ⟨rfl, hb⟩
          replace hbv := hbv.kept hb
          replace hbu := hbu.kept hb
          replace hba := hba.kept hb
          replace hbx := hbx.kept hb
          replace hby := hby.kept hb
          replace hbz := hbz.kept hb
          replace hbf := hbf.trans (hb.mono hbf.size)
          clear hb
          first | refine hK.out _ _ ⟨hbv, hbu, hby, hbz⟩ (fun _ => ?_) | (go_wp2_with fail; refine hK.out _ _ ⟨hbv, hbu, hby, hbz⟩ (fun _ => ?_))
          clear hK K
          (try simp only [Act.put, List.setIfInBounds_toArray, List.set_cons_zero, List.set_cons_succ])
          refine seq_step (by rfl) (fun K hK => ?_)
          go_simp
          go_at_call 8
          (with_reducible refine (rvvalid_b k n c vb _ HVB (by omega)).mono ?_)
          rintro e w17 ⟨rfl, hb⟩
          replace hbv := hbv.kept hb
          replace hbu := hbu.kept hb
          replace hba := hba.kept hb
          replace hbx := hbx.kept hb
          replace hby := hby.kept hb
          replace hbz := hbz.kept hb
          replace hbf := hbf.trans (hb.mono hbf.size)
          clear hb
          first | refine hK.out _ _ ⟨hbv, hbu, hby, hbz⟩ (fun _ => ?_) | (go_wp2_with fail; refine hK.out _ _ ⟨hbv, hbu, hby, hbz⟩ (fun _ => ?_))
          clear hK K
          (try simp only [Act.put, List.setIfInBounds_toArray, List.set_cons_zero, List.set_cons_succ])
          repeat (first | (refine seq_take (v := ?_) (by rfl) ?_ ?_; rotate_left; (· intro w hSw; (try dsimp only at hSw); obtain ⟨⟨ev0, ev1, ev2, _, _, _⟩, ⟨eu0, eu1, eu2, _, _, _⟩, ⟨ey0, ey1, ey2, _, _, _⟩, ⟨ez0, ez1, ez2, _, _, _⟩⟩ := hSw; go_simp; all_goals with_reducible rfl); (try simp only [Act.put, List.setIfInBounds_toArray, List.set_cons_zero, List.set_cons_succ])) | (refine seq_leave (by rfl) ?_; (try simp only [Act.put, List.setIfInBounds_toArray, List.set_cons_zero, List.set_cons_succ])))
          refine seq_step (by rfl) (fun K hK => ?_)
          go_simp
          go_at_call 15
          (with_reducible refine (vtext_t k n c T _ HT (by omega) (by omega)).mono ?_)
          rintro e w18 ⟨rfl, hb⟩
          replace hbv := hbv.kept hb
          replace hbu := hbu.kept hb
          replace hba := hba.kept hb
          replace hbx := hbx.kept hb
          replace hby := hby.kept hb
          replace hbz := hbz.kept hb
          replace hbf := hbf.trans (hb.mono hbf.size)
          clear hb
          first | refine hK.out _ _ ⟨hbv, hbu, hby, hbz⟩ (fun _ => ?_) | (go_wp2_with fail; refine hK.out _ _ ⟨hbv, hbu, hby, hbz⟩ (fun _ => ?_))
          clear hK K
          (try simp only [Act.put, List.setIfInBounds_toArray, List.set_cons_zero, List.set_cons_succ])
          refine seq_step (by rfl) (fun K hK => ?_)
          go_simp
          go_at_call 21
          (with_reducible refine (rvtext_t k n c T _ HT (by omega) (by omega)).mono ?_)
          rintro e w19 ⟨rfl, hb⟩
          replace hbv := hbv.kept hb
          replace hbu := hbu.kept hb
          replace hba := hba.kept hb
          replace hbx := hbx.kept hb
          replace hby := hby.kept hb
          replace hbz := hbz.kept hb
          replace hbf := hbf.trans (hb.mono hbf.size)
          clear hb
          first | refine hK.out _ _ ⟨hbv, hbu, hby, hbz⟩ (fun _ => ?_) | (go_wp2_with fail; refine hK.out _ _ ⟨hbv, hbu, hby, hbz⟩ (fun _ => ?_))
          clear hK K
          (try simp only [Act.put, List.setIfInBounds_toArray, List.set_cons_zero, List.set_cons_succ])
          repeat (first | (refine seq_take (v := ?_) (by rfl) ?_ ?_; rotate_left; (· intro w hSw; (try dsimp only at hSw); obtain ⟨⟨ev0, ev1, ev2, _, _, _⟩, ⟨eu0, eu1, eu2, _, _, _⟩, ⟨ey0, ey1, ey2, _, _, _⟩, ⟨ez0, ez1, ez2, _, _, _⟩⟩ := hSw; go_simp; all_goals with_reducible rfl); (try simp only [Act.put, List.setIfInBounds_toArray, List.set_cons_zero, List.set_cons_succ])) | (refine seq_leave (by rfl) ?_; (try simp only [Act.put, List.setIfInBounds_toArray, List.set_cons_zero, List.set_cons_succ])))
          refine seq_step (by rfl) (fun K hK => ?_)
          go_simp
          go_at_call 22
          (with_reducible refine (vsame_b k k2 n c n2 c2 false _ HSB).mono ?_)
          rintro e w20 ⟨rfl, hb⟩
          replace hbv := hbv.kept hb
          replace hbu := hbu.kept hb
          replace hba := hba.kept hb
          replace hbx := hbx.kept hb
          replace hby := hby.kept hb
          replace hbz := hbz.kept hb
          replace hbf := hbf.trans (hb.mono hbf.size)
          clear hb
          first | refine hK.out _ _ ⟨hbv, hbu, hby, hbz⟩ (fun _ => ?_) | (go_wp2_with fail; refine hK.out _ _ ⟨hbv, hbu, hby, hbz⟩ (fun _ => ?_))
          clear hK K
          (try simp only [Act.put, List.setIfInBounds_toArray, List.set_cons_zero, List.set_cons_succ])
          repeat (first | (refine seq_take (v := ?_) (by rfl) ?_ ?_; rotate_left; (· intro w hSw; (try dsimp only at hSw); obtain ⟨⟨ev0, ev1, ev2, _, _, _⟩, ⟨eu0, eu1, eu2, _, _, _⟩, ⟨ey0, ey1, ey2, _, _, _⟩, ⟨ez0, ez1, ez2, _, _, _⟩⟩ := hSw; go_simp; all_goals with_reducible rfl); (try simp only [Act.put, List.setIfInBounds_toArray, List.set_cons_zero, List.set_cons_succ])) | (refine seq_leave (by rfl) ?_; (try simp only [Act.put, List.setIfInBounds_toArray, List.set_cons_zero, List.set_cons_succ])))
          refine seq_step (by rfl) (fun K hK => ?_)
          go_simp
          go_at_call 23
          (with_reducible refine (vcat_any s _ (by omega)).mono ?_)
          rintro e w21 ⟨rfl, hb⟩
          replace hbv := hbv.kept hb
          replace hbu := hbu.kept hb
          replace hba := hba.kept hb
          replace hbx := hbx.kept hb
          replace hby := hby.kept hb
          replace hbz := hbz.kept hb
          replace hbf := hbf.trans (hb.mono hbf.size)
          clear hb
          first | refine hK.out _ _ ⟨hbv, hbu, hby, hbz⟩ (fun _ => ?_) | (go_wp2_with fail; refine hK.out _ _ ⟨hbv, hbu, hby, hbz⟩ (fun _ => ?_))
          clear hK K
          (try simp only [Act.put, List.setIfInBounds_toArray, List.set_cons_zero, List.set_cons_succ])
          repeat (first | (refine seq_take (v := ?_) (by rfl) ?_ ?_; rotate_left; (· intro w hSw; (try dsimp only at hSw); obtain ⟨⟨ev0, ev1, ev2, _, _, _⟩, ⟨eu0, eu1, eu2, _, _, _⟩, ⟨ey0, ey1, ey2, _, _, _⟩, ⟨ez0, ez1, ez2, _, _, _⟩⟩ := hSw; go_simp; all_goals with_reducible rfl); (try simp only [Act.put, List.setIfInBounds_toArray, List.set_cons_zero, List.set_cons_succ])) | (refine seq_leave (by rfl) ?_; (try simp only [Act.put, List.setIfInBounds_toArray, List.set_cons_zero, List.set_cons_succ])))
          refine seq_end ?_
          go_wp2_with fail
          go_ret
          exact ⟨rfl, hbf⟩
        case pos =>
          subst hk9
          by_cases hn9 : n = n2
          case neg =>
            have hnb : (n == n2) = false := by rw [beq_eq_false_iff_ne]; exact hn9
            have HSB : Hid (false = (decide (k = k) && (decide (n = n2) && decide (c = c2)))) := Lib.hid (by simp [hn9])
            refine wp_region_seq (S := fun w' => Box3 w' pv (Value.int .i64 k) (Value.string ⟨n.toArray⟩) (Value.string ⟨c.toArray⟩) ∧ Box3 w' pu (Value.int .i64 k) (Value.string ⟨n2.toArray⟩) (Value.string ⟨c2.toArray⟩) ∧ Box3 w' py (Value.int .i64 K) (Value.string ⟨N.toArray⟩) (Value.string ⟨G.toArray⟩) ∧ Box3 w' pz (Value.int .i64 K) (Value.string ⟨N.toArray⟩) (Value.string ⟨G.toArray⟩)) [(true, 0), (true, 2), (false, 1), (false, 3), (true, 4), (true, 5), (true, 6), (true, 8), (false, 7), (false, 9), (true, 10), (true, 11), (true, 12), (true, 13), (true, 14), (true, 16), (true, 17), (true, 18), (false, 15), (true, 19), (true, 20), (true, 21), (true, 22), (true, 23), (true, 24), (true, 25), (true, 26), (true, 27), (true, 28), (true, 29), (true, 30), (true, 31), (true, 32), (true, 34), (true, 35), (false, 33), (true, 36), (true, 37), (true, 38)] (by kernel_rfl) (by kernel_rfl) (by kernel_rfl) (by kernel_rfl) (by kernel_rfl) (fun d _ _ _ _ h => by cases d <;> exact h) ⟨hbv.drew, hbu.drew, hby.drew, hbz.drew⟩ (fun _ => ?_)
            simp only [pickOps, List.append_eq, List.cons_append, List.nil_append, List.getElem?_toArray, List.getElem?_cons_succ, List.getElem?_cons_zero]
            have hb : Below w14.heap.size w14 w14.drew := (Below.refl _ _).drew
            generalize w14.drew = w15 at hb ⊢
            replace hbv := hbv.kept hb
            replace hbu := hbu.kept hb
            replace hba := hba.kept hb
            replace hbx := hbx.kept hb
            replace hby := hby.kept hb
            replace hbz := hbz.kept hb
            replace hbf := hbf.trans (hb.mono hbf.size)
            clear hb
            repeat (first | (refine seq_take (v := ?_) (by rfl) ?_ ?_; rotate_left; (· intro w hSw; (try dsimp only at hSw); obtain ⟨⟨ev0, ev1, ev2, _, _, _⟩, ⟨eu0, eu1, eu2, _, _, _⟩, ⟨ey0, ey1, ey2, _, _, _⟩, ⟨ez0, ez1, ez2, _, _, _⟩⟩ := hSw; go_simp; all_goals with_reducible rfl); (try simp only [Act.put, List.setIfInBounds_toArray, List.set_cons_zero, List.set_cons_succ])) | (refine seq_leave (by rfl) ?_; (try simp only [Act.put, List.setIfInBounds_toArray, List.set_cons_zero, List.set_cons_succ])))
            refine seq_step (by rfl) (fun K hK => ?_)
            go_simp
            go_at_call 14
            (with_reducible refine (vvalid_b k n c vb _ HVB (by omega)).mono ?_)
            rintro e w16 ⟨rfl, hb⟩
            replace hbv := hbv.kept hb
            replace hbu := hbu.kept hb
            replace hba := hba.kept hb
            replace hbx := hbx.kept hb
            replace hby := hby.kept hb
            replace hbz := hbz.kept hb
            replace hbf := hbf.trans (hb.mono hbf.size)
            clear hb
            first | refine hK.out _ _ ⟨hbv, hbu, hby, hbz⟩ (fun _ => ?_) | (go_wp2_with fail; refine hK.out _ _ ⟨hbv, hbu, hby, hbz⟩ (fun _ => ?_))
            clear hK K
            (try simp only [Act.put, List.setIfInBounds_toArray, List.set_cons_zero, List.set_cons_succ])
            refine seq_step (by rfl) (fun K hK => ?_)
            go_simp
            go_at_call 8
            (with_reducible refine (rvvalid_b k n c vb _ HVB (by omega)).mono ?_)
            rintro e w17 ⟨rfl, hb⟩
            replace hbv := hbv.kept hb
            replace hbu := hbu.kept hb
            replace hba := hba.kept hb
            replace hbx := hbx.kept hb
            replace hby := hby.kept hb
            replace hbz := hbz.kept hb
            replace hbf := hbf.trans (hb.mono hbf.size)
            clear hb
            first | refine hK.out _ _ ⟨hbv, hbu, hby, hbz⟩ (fun _ => ?_) | (go_wp2_with fail; refine hK.out _ _ ⟨hbv, hbu, hby, hbz⟩ (fun _ => ?_))
            clear hK K
            (try simp only [Act.put, List.setIfInBounds_toArray, List.set_cons_zero, List.set_cons_succ])
            repeat (first | (refine seq_take (v := ?_) (by rfl) ?_ ?_; rotate_left; (· intro w hSw; (try dsimp only at hSw); obtain ⟨⟨ev0, ev1, ev2, _, _, _⟩, ⟨eu0, eu1, eu2, _, _, _⟩, ⟨ey0, ey1, ey2, _, _, _⟩, ⟨ez0, ez1, ez2, _, _, _⟩⟩ := hSw; go_simp; all_goals with_reducible rfl); (try simp only [Act.put, List.setIfInBounds_toArray, List.set_cons_zero, List.set_cons_succ])) | (refine seq_leave (by rfl) ?_; (try simp only [Act.put, List.setIfInBounds_toArray, List.set_cons_zero, List.set_cons_succ])))
            refine seq_step (by rfl) (fun K hK => ?_)
            go_simp
            go_at_call 15
            (with_reducible refine (vtext_t k n c T _ HT (by omega) (by omega)).mono ?_)
            rintro e w18 ⟨rfl, hb⟩
            replace hbv := hbv.kept hb
            replace hbu := hbu.kept hb
            replace hba := hba.kept hb
            replace hbx := hbx.kept hb
            replace hby := hby.kept hb
            replace hbz := hbz.kept hb
            replace hbf := hbf.trans (hb.mono hbf.size)
            clear hb
            first | refine hK.out _ _ ⟨hbv, hbu, hby, hbz⟩ (fun _ => ?_) | (go_wp2_with fail; refine hK.out _ _ ⟨hbv, hbu, hby, hbz⟩ (fun _ => ?_))
            clear hK K
            (try simp only [Act.put, List.setIfInBounds_toArray, List.set_cons_zero, List.set_cons_succ])
            refine seq_step (by rfl) (fun K hK => ?_)
            go_simp
            go_at_call 21
            (with_reducible refine (rvtext_t k n c T _ HT (by omega) (by omega)).mono ?_)
            rintro e w19 ⟨rfl, hb⟩
            replace hbv := hbv.kept hb
            replace hbu := hbu.kept hb
            replace hba := hba.kept hb
            replace hbx := hbx.kept hb
            replace hby := hby.kept hb
            replace hbz := hbz.kept hb
            replace hbf := hbf.trans (hb.mono hbf.size)
            clear hb
            first | refine hK.out _ _ ⟨hbv, hbu, hby, hbz⟩ (fun _ => ?_) | (go_wp2_with fail; refine hK.out _ _ ⟨hbv, hbu, hby, hbz⟩ (fun _ => ?_))
            clear hK K
            (try simp only [Act.put, List.setIfInBounds_toArray, List.set_cons_zero, List.set_cons_succ])
            repeat (first | (refine seq_take (v := ?_) (by rfl) ?_ ?_; rotate_left; (· intro w hSw; (try dsimp only at hSw); obtain ⟨⟨ev0, ev1, ev2, _, _, _⟩, ⟨eu0, eu1, eu2, _, _, _⟩, ⟨ey0, ey1, ey2, _, _, _⟩, ⟨ez0, ez1, ez2, _, _, _⟩⟩ := hSw; go_simp; all_goals with_reducible rfl); (try simp only [Act.put, List.setIfInBounds_toArray, List.set_cons_zero, List.set_cons_succ])) | (refine seq_leave (by rfl) ?_; (try simp only [Act.put, List.setIfInBounds_toArray, List.set_cons_zero, List.set_cons_succ])))
            refine seq_step (by rfl) (fun K hK => ?_)
            go_simp
            go_at_call 22
            (with_reducible refine (vsame_b k k n c n2 c2 false _ HSB).mono ?_)
            rintro e w20 ⟨rfl, hb⟩
            replace hbv := hbv.kept hb
            replace hbu := hbu.kept hb
            replace hba := hba.kept hb
            replace hbx := hbx.kept hb
            replace hby := hby.kept hb
            replace hbz := hbz.kept hb
            replace hbf := hbf.trans (hb.mono hbf.size)
            clear hb
            first | refine hK.out _ _ ⟨hbv, hbu, hby, hbz⟩ (fun _ => ?_) | (go_wp2_with fail; refine hK.out _ _ ⟨hbv, hbu, hby, hbz⟩ (fun _ => ?_))
            clear hK K
            (try simp only [Act.put, List.setIfInBounds_toArray, List.set_cons_zero, List.set_cons_succ])
            repeat (first | (refine seq_take (v := ?_) (by rfl) ?_ ?_; rotate_left; (· intro w hSw; (try dsimp only at hSw); obtain ⟨⟨ev0, ev1, ev2, _, _, _⟩, ⟨eu0, eu1, eu2, _, _, _⟩, ⟨ey0, ey1, ey2, _, _, _⟩, ⟨ez0, ez1, ez2, _, _, _⟩⟩ := hSw; go_simp; all_goals with_reducible rfl); (try simp only [Act.put, List.setIfInBounds_toArray, List.set_cons_zero, List.set_cons_succ])) | (refine seq_leave (by rfl) ?_; (try simp only [Act.put, List.setIfInBounds_toArray, List.set_cons_zero, List.set_cons_succ])))
            refine seq_step (by rfl) (fun K hK => ?_)
            go_simp
            go_at_call 23
            (with_reducible refine (vcat_any s _ (by omega)).mono ?_)
            rintro e w21 ⟨rfl, hb⟩
            replace hbv := hbv.kept hb
            replace hbu := hbu.kept hb
            replace hba := hba.kept hb
            replace hbx := hbx.kept hb
            replace hby := hby.kept hb
            replace hbz := hbz.kept hb
            replace hbf := hbf.trans (hb.mono hbf.size)
            clear hb
            first | refine hK.out _ _ ⟨hbv, hbu, hby, hbz⟩ (fun _ => ?_) | (go_wp2_with fail; refine hK.out _ _ ⟨hbv, hbu, hby, hbz⟩ (fun _ => ?_))
            clear hK K
            (try simp only [Act.put, List.setIfInBounds_toArray, List.set_cons_zero, List.set_cons_succ])
            repeat (first | (refine seq_take (v := ?_) (by rfl) ?_ ?_; rotate_left; (· intro w hSw; (try dsimp only at hSw); obtain ⟨⟨ev0, ev1, ev2, _, _, _⟩, ⟨eu0, eu1, eu2, _, _, _⟩, ⟨ey0, ey1, ey2, _, _, _⟩, ⟨ez0, ez1, ez2, _, _, _⟩⟩ := hSw; go_simp; all_goals with_reducible rfl); (try simp only [Act.put, List.setIfInBounds_toArray, List.set_cons_zero, List.set_cons_succ])) | (refine seq_leave (by rfl) ?_; (try simp only [Act.put, List.setIfInBounds_toArray, List.set_cons_zero, List.set_cons_succ])))
            refine seq_end ?_
            go_wp2_with fail
            go_ret
            exact ⟨rfl, hbf⟩
          case pos =>
            subst hn9
            by_cases hc9 : c = c2
            case neg =>
              have hcb : (c == c2) = false := by rw [beq_eq_false_iff_ne]; exact hc9
              have HSB : Hid (false = (decide (k = k) && (decide (n = n) && decide (c = c2)))) := Lib.hid (by simp [hc9])
              refine wp_region_seq (S := fun w' => Box3 w' pv (Value.int .i64 k) (Value.string ⟨n.toArray⟩) (Value.string ⟨c.toArray⟩) ∧ Box3 w' pu (Value.int .i64 k) (Value.string ⟨n.toArray⟩) (Value.string ⟨c2.toArray⟩) ∧ Box3 w' py (Value.int .i64 K) (Value.string ⟨N.toArray⟩) (Value.string ⟨G.toArray⟩) ∧ Box3 w' pz (Value.int .i64 K) (Value.string ⟨N.toArray⟩) (Value.string ⟨G.toArray⟩)) [(true, 0), (true, 2), (false, 1), (false, 3), (true, 4), (true, 5), (true, 6), (true, 8), (false, 7), (false, 9), (true, 10), (true, 11), (true, 12), (true, 13), (true, 14), (true, 16), (true, 17), (true, 18), (false, 15), (true, 19), (true, 20), (true, 21), (true, 22), (true, 23), (true, 24), (true, 25), (true, 26), (true, 27), (true, 28), (true, 29), (true, 30), (true, 31), (true, 32), (true, 34), (true, 35), (false, 33), (true, 36), (true, 37), (true, 38)] (by kernel_rfl) (by kernel_rfl) (by kernel_rfl) (by kernel_rfl) (by kernel_rfl) (fun d _ _ _ _ h => by cases d <;> exact h) ⟨hbv.drew, hbu.drew, hby.drew, hbz.drew⟩ (fun _ => ?_)
              simp only [pickOps, List.append_eq, List.cons_append, List.nil_append, List.getElem?_toArray, List.getElem?_cons_succ, List.getElem?_cons_zero]
              have hb : Below w14.heap.size w14 w14.drew := (Below.refl _ _).drew
              generalize w14.drew = w15 at hb ⊢
              replace hbv := hbv.kept hb
              replace hbu := hbu.kept hb
              replace hba := hba.kept hb
              replace hbx := hbx.kept hb
              replace hby := hby.kept hb
              replace hbz := hbz.kept hb
              replace hbf := hbf.trans (hb.mono hbf.size)
              clear hb
              repeat (first | (refine seq_take (v := ?_) (by rfl) ?_ ?_; rotate_left; (· intro w hSw; (try dsimp only at hSw); obtain ⟨⟨ev0, ev1, ev2, _, _, _⟩, ⟨eu0, eu1, eu2, _, _, _⟩, ⟨ey0, ey1, ey2, _, _, _⟩, ⟨ez0, ez1, ez2, _, _, _⟩⟩ := hSw; go_simp; all_goals with_reducible rfl); (try simp only [Act.put, List.setIfInBounds_toArray, List.set_cons_zero, List.set_cons_succ])) | (refine seq_leave (by rfl) ?_; (try simp only [Act.put, List.setIfInBounds_toArray, List.set_cons_zero, List.set_cons_succ])))
              refine seq_step (by rfl) (fun K hK => ?_)
              go_simp
              go_at_call 14
              (with_reducible refine (vvalid_b k n c vb _ HVB (by omega)).mono ?_)
              rintro e w16 ⟨rfl, hb⟩
              replace hbv := hbv.kept hb
              replace hbu := hbu.kept hb
              replace hba := hba.kept hb
              replace hbx := hbx.kept hb
              replace hby := hby.kept hb
              replace hbz := hbz.kept hb
              replace hbf := hbf.trans (hb.mono hbf.size)
              clear hb
              first | refine hK.out _ _ ⟨hbv, hbu, hby, hbz⟩ (fun _ => ?_) | (go_wp2_with fail; refine hK.out _ _ ⟨hbv, hbu, hby, hbz⟩ (fun _ => ?_))
              clear hK K
              (try simp only [Act.put, List.setIfInBounds_toArray, List.set_cons_zero, List.set_cons_succ])
              refine seq_step (by rfl) (fun K hK => ?_)
              go_simp
              go_at_call 8
              (with_reducible refine (rvvalid_b k n c vb _ HVB (by omega)).mono ?_)
              rintro e w17 ⟨rfl, hb⟩
              replace hbv := hbv.kept hb
              replace hbu := hbu.kept hb
              replace hba := hba.kept hb
              replace hbx := hbx.kept hb
              replace hby := hby.kept hb
              replace hbz := hbz.kept hb
              replace hbf := hbf.trans (hb.mono hbf.size)
              clear hb
              first | refine hK.out _ _ ⟨hbv, hbu, hby, hbz⟩ (fun _ => ?_) | (go_wp2_with fail; refine hK.out _ _ ⟨hbv, hbu, hby, hbz⟩ (fun _ => ?_))
              clear hK K
              (try simp only [Act.put, List.setIfInBounds_toArray, List.set_cons_zero, List.set_cons_succ])
              repeat (first | (refine seq_take (v := ?_) (by rfl) ?_ ?_; rotate_left; (· intro w hSw; (try dsimp only at hSw); obtain ⟨⟨ev0, ev1, ev2, _, _, _⟩, ⟨eu0, eu1, eu2, _, _, _⟩, ⟨ey0, ey1, ey2, _, _, _⟩, ⟨ez0, ez1, ez2, _, _, _⟩⟩ := hSw; go_simp; all_goals with_reducible rfl); (try simp only [Act.put, List.setIfInBounds_toArray, List.set_cons_zero, List.set_cons_succ])) | (refine seq_leave (by rfl) ?_; (try simp only [Act.put, List.setIfInBounds_toArray, List.set_cons_zero, List.set_cons_succ])))
              refine seq_step (by rfl) (fun K hK => ?_)
              go_simp
              go_at_call 15
              (with_reducible refine (vtext_t k n c T _ HT (by omega) (by omega)).mono ?_)
              rintro e w18 ⟨rfl, hb⟩
              replace hbv := hbv.kept hb
              replace hbu := hbu.kept hb
              replace hba := hba.kept hb
              replace hbx := hbx.kept hb
              replace hby := hby.kept hb
              replace hbz := hbz.kept hb
              replace hbf := hbf.trans (hb.mono hbf.size)
              clear hb
              first | refine hK.out _ _ ⟨hbv, hbu, hby, hbz⟩ (fun _ => ?_) | (go_wp2_with fail; refine hK.out _ _ ⟨hbv, hbu, hby, hbz⟩ (fun _ => ?_))
              clear hK K
              (try simp only [Act.put, List.setIfInBounds_toArray, List.set_cons_zero, List.set_cons_succ])
              refine seq_step (by rfl) (fun K hK => ?_)
              go_simp
              go_at_call 21
              (with_reducible refine (rvtext_t k n c T _ HT (by omega) (by omega)).mono ?_)
              rintro e w19 ⟨rfl, hb⟩
              replace hbv := hbv.kept hb
              replace hbu := hbu.kept hb
              replace hba := hba.kept hb
              replace hbx := hbx.kept hb
              replace hby := hby.kept hb
              replace hbz := hbz.kept hb
              replace hbf := hbf.trans (hb.mono hbf.size)
              clear hb
              first | refine hK.out _ _ ⟨hbv, hbu, hby, hbz⟩ (fun _ => ?_) | (go_wp2_with fail; refine hK.out _ _ ⟨hbv, hbu, hby, hbz⟩ (fun _ => ?_))
              clear hK K
              (try simp only [Act.put, List.setIfInBounds_toArray, List.set_cons_zero, List.set_cons_succ])
              repeat (first | (refine seq_take (v := ?_) (by rfl) ?_ ?_; rotate_left; (· intro w hSw; (try dsimp only at hSw); obtain ⟨⟨ev0, ev1, ev2, _, _, _⟩, ⟨eu0, eu1, eu2, _, _, _⟩, ⟨ey0, ey1, ey2, _, _, _⟩, ⟨ez0, ez1, ez2, _, _, _⟩⟩ := hSw; go_simp; all_goals with_reducible rfl); (try simp only [Act.put, List.setIfInBounds_toArray, List.set_cons_zero, List.set_cons_succ])) | (refine seq_leave (by rfl) ?_; (try simp only [Act.put, List.setIfInBounds_toArray, List.set_cons_zero, List.set_cons_succ])))
              refine seq_step (by rfl) (fun K hK => ?_)
              go_simp
              go_at_call 22
              (with_reducible refine (vsame_b k k n c n c2 false _ HSB).mono ?_)
              rintro e w20 ⟨rfl, hb⟩
              replace hbv := hbv.kept hb
              replace hbu := hbu.kept hb
              replace hba := hba.kept hb
              replace hbx := hbx.kept hb
              replace hby := hby.kept hb
              replace hbz := hbz.kept hb
              replace hbf := hbf.trans (hb.mono hbf.size)
              clear hb
              first | refine hK.out _ _ ⟨hbv, hbu, hby, hbz⟩ (fun _ => ?_) | (go_wp2_with fail; refine hK.out _ _ ⟨hbv, hbu, hby, hbz⟩ (fun _ => ?_))
              clear hK K
              (try simp only [Act.put, List.setIfInBounds_toArray, List.set_cons_zero, List.set_cons_succ])
              repeat (first | (refine seq_take (v := ?_) (by rfl) ?_ ?_; rotate_left; (· intro w hSw; (try dsimp only at hSw); obtain ⟨⟨ev0, ev1, ev2, _, _, _⟩, ⟨eu0, eu1, eu2, _, _, _⟩, ⟨ey0, ey1, ey2, _, _, _⟩, ⟨ez0, ez1, ez2, _, _, _⟩⟩ := hSw; go_simp; all_goals with_reducible rfl); (try simp only [Act.put, List.setIfInBounds_toArray, List.set_cons_zero, List.set_cons_succ])) | (refine seq_leave (by rfl) ?_; (try simp only [Act.put, List.setIfInBounds_toArray, List.set_cons_zero, List.set_cons_succ])))
              refine seq_step (by rfl) (fun K hK => ?_)
              go_simp
              go_at_call 23
              (with_reducible refine (vcat_any s _ (by omega)).mono ?_)
              rintro e w21 ⟨rfl, hb⟩
              replace hbv := hbv.kept hb
              replace hbu := hbu.kept hb
              replace hba := hba.kept hb
              replace hbx := hbx.kept hb
              replace hby := hby.kept hb
              replace hbz := hbz.kept hb
              replace hbf := hbf.trans (hb.mono hbf.size)
              clear hb
              first | refine hK.out _ _ ⟨hbv, hbu, hby, hbz⟩ (fun _ => ?_) | (go_wp2_with fail; refine hK.out _ _ ⟨hbv, hbu, hby, hbz⟩ (fun _ => ?_))
              clear hK K
              (try simp only [Act.put, List.setIfInBounds_toArray, List.set_cons_zero, List.set_cons_succ])
              repeat (first | (refine seq_take (v := ?_) (by rfl) ?_ ?_; rotate_left; (· intro w hSw; (try dsimp only at hSw); obtain ⟨⟨ev0, ev1, ev2, _, _, _⟩, ⟨eu0, eu1, eu2, _, _, _⟩, ⟨ey0, ey1, ey2, _, _, _⟩, ⟨ez0, ez1, ez2, _, _, _⟩⟩ := hSw; go_simp; all_goals with_reducible rfl); (try simp only [Act.put, List.setIfInBounds_toArray, List.set_cons_zero, List.set_cons_succ])) | (refine seq_leave (by rfl) ?_; (try simp only [Act.put, List.setIfInBounds_toArray, List.set_cons_zero, List.set_cons_succ])))
              refine seq_end ?_
              go_wp2_with fail
              go_ret
              exact ⟨rfl, hbf⟩
            case pos =>
              subst hc9
              have HSB : Hid (true = (decide (k = k) && (decide (n = n) && decide (c = c)))) := Lib.hid (by simp)
              refine wp_region_seq (S := fun w' => Box3 w' pv (Value.int .i64 k) (Value.string ⟨n.toArray⟩) (Value.string ⟨c.toArray⟩) ∧ Box3 w' pu (Value.int .i64 k) (Value.string ⟨n.toArray⟩) (Value.string ⟨c.toArray⟩) ∧ Box3 w' py (Value.int .i64 K) (Value.string ⟨N.toArray⟩) (Value.string ⟨G.toArray⟩) ∧ Box3 w' pz (Value.int .i64 K) (Value.string ⟨N.toArray⟩) (Value.string ⟨G.toArray⟩)) [(true, 0), (true, 2), (false, 1), (false, 3), (true, 4), (true, 5), (true, 6), (true, 8), (false, 7), (false, 9), (true, 10), (true, 11), (true, 12), (true, 13), (true, 14), (true, 16), (true, 17), (true, 18), (false, 15), (true, 19), (true, 20), (true, 21), (true, 22), (true, 23), (true, 24), (true, 25), (true, 26), (true, 27), (true, 28), (true, 29), (true, 30), (true, 31), (true, 32), (true, 34), (true, 35), (false, 33), (true, 36), (true, 37), (true, 38)] (by kernel_rfl) (by kernel_rfl) (by kernel_rfl) (by kernel_rfl) (by kernel_rfl) (fun d _ _ _ _ h => by cases d <;> exact h) ⟨hbv.drew, hbu.drew, hby.drew, hbz.drew⟩ (fun _ => ?_)
              simp only [pickOps, List.append_eq, List.cons_append, List.nil_append, List.getElem?_toArray, List.getElem?_cons_succ, List.getElem?_cons_zero]
              have hb : Below w14.heap.size w14 w14.drew := (Below.refl _ _).drew
              generalize w14.drew = w15 at hb ⊢
              replace hbv := hbv.kept hb
              replace hbu := hbu.kept hb
              replace hba := hba.kept hb
              replace hbx := hbx.kept hb
              replace hby := hby.kept hb
              replace hbz := hbz.kept hb
              replace hbf := hbf.trans (hb.mono hbf.size)
              clear hb
              repeat (first | (refine seq_take (v := ?_) (by rfl) ?_ ?_; rotate_left; (· intro w hSw; (try dsimp only at hSw); obtain ⟨⟨ev0, ev1, ev2, _, _, _⟩, ⟨eu0, eu1, eu2, _, _, _⟩, ⟨ey0, ey1, ey2, _, _, _⟩, ⟨ez0, ez1, ez2, _, _, _⟩⟩ := hSw; go_simp; all_goals with_reducible rfl); (try simp only [Act.put, List.setIfInBounds_toArray, List.set_cons_zero, List.set_cons_succ])) | (refine seq_leave (by rfl) ?_; (try simp only [Act.put, List.setIfInBounds_toArray, List.set_cons_zero, List.set_cons_succ])))
              refine seq_step (by rfl) (fun K hK => ?_)
              go_simp
              go_at_call 14
              (with_reducible refine (vvalid_b k n c vb _ HVB (by omega)).mono ?_)
              rintro e w16 ⟨rfl, hb⟩
              replace hbv := hbv.kept hb
              replace hbu := hbu.kept hb
              replace hba := hba.kept hb
              replace hbx := hbx.kept hb
              replace hby := hby.kept hb
              replace hbz := hbz.kept hb
              replace hbf := hbf.trans (hb.mono hbf.size)
              clear hb
              first | refine hK.out _ _ ⟨hbv, hbu, hby, hbz⟩ (fun _ => ?_) | (go_wp2_with fail; refine hK.out _ _ ⟨hbv, hbu, hby, hbz⟩ (fun _ => ?_))
              clear hK K
              (try simp only [Act.put, List.setIfInBounds_toArray, List.set_cons_zero, List.set_cons_succ])
              refine seq_step (by rfl) (fun K hK => ?_)
              go_simp
              go_at_call 8
              (with_reducible refine (rvvalid_b k n c vb _ HVB (by omega)).mono ?_)
              rintro e w17 ⟨rfl, hb⟩
              replace hbv := hbv.kept hb
              replace hbu := hbu.kept hb
              replace hba := hba.kept hb
              replace hbx := hbx.kept hb
              replace hby := hby.kept hb
              replace hbz := hbz.kept hb
              replace hbf := hbf.trans (hb.mono hbf.size)
              clear hb
              first | refine hK.out _ _ ⟨hbv, hbu, hby, hbz⟩ (fun _ => ?_) | (go_wp2_with fail; refine hK.out _ _ ⟨hbv, hbu, hby, hbz⟩ (fun _ => ?_))
              clear hK K
              (try simp only [Act.put, List.setIfInBounds_toArray, List.set_cons_zero, List.set_cons_succ])
              repeat (first | (refine seq_take (v := ?_) (by rfl) ?_ ?_; rotate_left; (· intro w hSw; (try dsimp only at hSw); obtain ⟨⟨ev0, ev1, ev2, _, _, _⟩, ⟨eu0, eu1, eu2, _, _, _⟩, ⟨ey0, ey1, ey2, _, _, _⟩, ⟨ez0, ez1, ez2, _, _, _⟩⟩ := hSw; go_simp; all_goals with_reducible rfl); (try simp only [Act.put, List.setIfInBounds_toArray, List.set_cons_zero, List.set_cons_succ])) | (refine seq_leave (by rfl) ?_; (try simp only [Act.put, List.setIfInBounds_toArray, List.set_cons_zero, List.set_cons_succ])))
              refine seq_step (by rfl) (fun K hK => ?_)
              go_simp
              go_at_call 15
              (with_reducible refine (vtext_t k n c T _ HT (by omega) (by omega)).mono ?_)
              rintro e w18 ⟨rfl, hb⟩
              replace hbv := hbv.kept hb
              replace hbu := hbu.kept hb
              replace hba := hba.kept hb
              replace hbx := hbx.kept hb
              replace hby := hby.kept hb
              replace hbz := hbz.kept hb
              replace hbf := hbf.trans (hb.mono hbf.size)
              clear hb
              first | refine hK.out _ _ ⟨hbv, hbu, hby, hbz⟩ (fun _ => ?_) | (go_wp2_with fail; refine hK.out _ _ ⟨hbv, hbu, hby, hbz⟩ (fun _ => ?_))
              clear hK K
              (try simp only [Act.put, List.setIfInBounds_toArray, List.set_cons_zero, List.set_cons_succ])
              refine seq_step (by rfl) (fun K hK => ?_)
              go_simp
              go_at_call 21
              (with_reducible refine (rvtext_t k n c T _ HT (by omega) (by omega)).mono ?_)
              rintro e w19 ⟨rfl, hb⟩
              replace hbv := hbv.kept hb
              replace hbu := hbu.kept hb
              replace hba := hba.kept hb
              replace hbx := hbx.kept hb
              replace hby := hby.kept hb
              replace hbz := hbz.kept hb
              replace hbf := hbf.trans (hb.mono hbf.size)
              clear hb
              first | refine hK.out _ _ ⟨hbv, hbu, hby, hbz⟩ (fun _ => ?_) | (go_wp2_with fail; refine hK.out _ _ ⟨hbv, hbu, hby, hbz⟩ (fun _ => ?_))
              clear hK K
              (try simp only [Act.put, List.setIfInBounds_toArray, List.set_cons_zero, List.set_cons_succ])
              repeat (first | (refine seq_take (v := ?_) (by rfl) ?_ ?_; rotate_left; (· intro w hSw; (try dsimp only at hSw); obtain ⟨⟨ev0, ev1, ev2, _, _, _⟩, ⟨eu0, eu1, eu2, _, _, _⟩, ⟨ey0, ey1, ey2, _, _, _⟩, ⟨ez0, ez1, ez2, _, _, _⟩⟩ := hSw; go_simp; all_goals with_reducible rfl); (try simp only [Act.put, List.setIfInBounds_toArray, List.set_cons_zero, List.set_cons_succ])) | (refine seq_leave (by rfl) ?_; (try simp only [Act.put, List.setIfInBounds_toArray, List.set_cons_zero, List.set_cons_succ])))
              refine seq_step (by rfl) (fun K hK => ?_)
              go_simp
              go_at_call 22
              (with_reducible refine (vsame_b k k n c n c true _ HSB).mono ?_)
              rintro e w20 ⟨rfl, hb⟩
              replace hbv := hbv.kept hb
              replace hbu := hbu.kept hb
              replace hba := hba.kept hb
              replace hbx := hbx.kept hb
              replace hby := hby.kept hb
              replace hbz := hbz.kept hb
              replace hbf := hbf.trans (hb.mono hbf.size)
              clear hb
              first | refine hK.out _ _ ⟨hbv, hbu, hby, hbz⟩ (fun _ => ?_) | (go_wp2_with fail; refine hK.out _ _ ⟨hbv, hbu, hby, hbz⟩ (fun _ => ?_))
              clear hK K
              (try simp only [Act.put, List.setIfInBounds_toArray, List.set_cons_zero, List.set_cons_succ])
              repeat (first | (refine seq_take (v := ?_) (by rfl) ?_ ?_; rotate_left; (· intro w hSw; (try dsimp only at hSw); obtain ⟨⟨ev0, ev1, ev2, _, _, _⟩, ⟨eu0, eu1, eu2, _, _, _⟩, ⟨ey0, ey1, ey2, _, _, _⟩, ⟨ez0, ez1, ez2, _, _, _⟩⟩ := hSw; go_simp; all_goals with_reducible rfl); (try simp only [Act.put, List.setIfInBounds_toArray, List.set_cons_zero, List.set_cons_succ])) | (refine seq_leave (by rfl) ?_; (try simp only [Act.put, List.setIfInBounds_toArray, List.set_cons_zero, List.set_cons_succ])))
              refine seq_step (by rfl) (fun K hK => ?_)
              go_simp
              go_at_call 23
              (with_reducible refine (vcat_any s _ (by omega)).mono ?_)
              rintro e w21 ⟨rfl, hb⟩
              replace hbv := hbv.kept hb
              replace hbu := hbu.kept hb
              replace hba := hba.kept hb
              replace hbx := hbx.kept hb
              replace hby := hby.kept hb
              replace hbz := hbz.kept hb
              replace hbf := hbf.trans (hb.mono hbf.size)
              clear hb
              first | refine hK.out _ _ ⟨hbv, hbu, hby, hbz⟩ (fun _ => ?_) | (go_wp2_with fail; refine hK.out _ _ ⟨hbv, hbu, hby, hbz⟩ (fun _ => ?_))
              clear hK K
              (try simp only [Act.put, List.setIfInBounds_toArray, List.set_cons_zero, List.set_cons_succ])
              repeat (first | (refine seq_take (v := ?_) (by rfl) ?_ ?_; rotate_left; (· intro w hSw; (try dsimp only at hSw); obtain ⟨⟨ev0, ev1, ev2, _, _, _⟩, ⟨eu0, eu1, eu2, _, _, _⟩, ⟨ey0, ey1, ey2, _, _, _⟩, ⟨ez0, ez1, ez2, _, _, _⟩⟩ := hSw; go_simp; all_goals with_reducible rfl); (try simp only [Act.put, List.setIfInBounds_toArray, List.set_cons_zero, List.set_cons_succ])) | (refine seq_leave (by rfl) ?_; (try simp only [Act.put, List.setIfInBounds_toArray, List.set_cons_zero, List.set_cons_succ])))
              refine seq_end ?_
              go_wp2_with fail
              go_ret
              exact ⟨rfl, hbf⟩

theorem valueTells_walk (v0 v1 : Value) (a2 : ByteArray) (w : World) (hv : ValIn v0) (hu : ValIn v1) (w2 : a2.size ≤ maxLen) :
    Calls Tryd.prog 5 #[v0, v1, .string a2] w fun e w' => e = .returned (.bool true) ∧ Below w.heap.size w w' := by
  obtain ⟨k, n, c, rfl, hn, hc⟩ := hv
  obtain ⟨k2, n2, c2, rfl, hn2, hc2⟩ := hu
  obtain ⟨l, rfl⟩ : ∃ l : List UInt8, a2 = ⟨l.toArray⟩ := ⟨a2.data.toList, by simp⟩
  exact valueTells_main k k2 n c n2 c2 l w hn hc hn2 hc2

end Go.Proofs.YtfiednmcecpkpaaDoor
