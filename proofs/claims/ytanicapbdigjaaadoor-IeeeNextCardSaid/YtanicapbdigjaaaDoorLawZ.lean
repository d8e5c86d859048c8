/-
  IeeeNext: the walk.
-/
import Derived.Test.YtanicapbdigjaaaDoorIeeeF
namespace Go.Proofs.YtanicapbdigjaaaDoor
open Go.RowKit
set_option linter.unusedVariables false
set_option linter.unusedSimpArgs false
attribute [local go_sem] field_nat

theorem wrap_top {E F : Nat} (hE2 : 2 ≤ E) (hE : E ≤ 11) (hF : F ≤ 52) : IntKind.u64.wrap ((finf E F : Int) - 1) = ((finf E F - 1 : Nat) : Int) := by
  have h1 := finf_pos (E := E) (F := F) (by omega)
  have h2 : finf E F < fsgn E F := finf_lt E F
  have h3 := fsgn_lt hE hF
  rw [IntWalk.u64_in _ ⟨by omega, by omega⟩]; omega
theorem decode_k (E F b : Nat) (k : Int) (q : Rat) (w : World) (hk : Hid (dkind E F b = k)) (hq : Hid (dval' E F b = q)) (hE2 : 2 ≤ E) (hE : E ≤ 11) (hF1 : 1 ≤ F) (hF : F ≤ 52) (hb64 : b < 18446744073709551616) :
    Calls Tryd.prog 10 #[formV (E : Int) (F : Int), .int .u64 (b : Int)] w (QPostC w q k) := by
  have h := decode_any E F b w hE2 hE hF1 hF hb64
  rwa [hk.out, hq.out] at h
/-- What is seen of a finite pattern and the next one. -/
theorem next_seen {E F b p : Nat} (hE2 : 2 ≤ E) (hE : E ≤ 11) (hF1 : 1 ≤ F) (hF : F ≤ 52) (hk : dkind E F b = 1) (h : (p, true) = fnext E F b) :
    ∃ (r s : Rat) (m u : Nat), dval' E F b = r ∧ dkind E F p = 1 ∧ dval' E F p = s ∧ p < 18446744073709551616 ∧ Under E F (qabs ((r + s) / 2)) m ∧ (u, true) = fbelow E F ((r + s) / 2) m ∧ dkind E F u = 1 ∧ dval' E F u = r ∧ u < 18446744073709551616 ∧ qcmp s r = 1 := by
  obtain ⟨h1, h2, h3⟩ := next_yes (by omega) hk h
  have g := fsgn_63 hE hF
  have hz := zof_lt hk
  have hz2 := zof_lt h1
  have hlt : dval' E F b < dval' E F p := by rw [dval_zof hk, dval_zof h1, h2]; exact zval_mono (by omega)
  obtain ⟨r, hr⟩ : ∃ r, dval' E F b = r := ⟨_, rfl⟩
  obtain ⟨s, hs⟩ : ∃ s, dval' E F p = s := ⟨_, rfl⟩
  rw [hr, hs] at hlt
  have hm := half_mid hlt
  obtain ⟨m, hu⟩ := under_exists (E := E) (F := F) (r := qabs ((r + s) / 2)) (by omega) (qabs_nonneg _)
  obtain ⟨u, hu1, hu2, hu3⟩ := below_mid (z := zof E F b) hu hz.2 (by omega) (by rw [← dval_zof hk, hr]; exact Std.le_of_lt hm.1) (by rw [← h2, ← dval_zof h1, hs]; exact hm.2)
  have hul := below_lt (r := (r + s) / 2) hE hF hu.lt
  rw [← hu1] at hul
  exact ⟨r, s, m, u, hr, h1, hs, by omega, hu, hu1, hu2, by rw [dval_zof hu2, hu3, ← dval_zof hk, hr], hul, qcmp_above hlt⟩
/-- What is seen of what lies below a fraction, and the next one. -/
theorem below_seen {E F n b c : Nat} {on : Bool} {x : Rat} (hE2 : 2 ≤ E) (hE : E ≤ 11) (hF1 : 1 ≤ F) (hF : F ≤ 52) (hu : Under E F (qabs x) n) (h : (b, true) = fbelow E F x n) (hc : (c, on) = fnext E F b) :
    b < 18446744073709551616 ∧ c < 18446744073709551616 ∧ qcmp (dval' E F b) x ≤ 0 ∧ (on = true → qcmp (dval' E F c) x = 1) := by
  obtain ⟨h1, h2, h3⟩ := below_yes hu h
  have g := fsgn_63 hE hF
  have hbl := below_lt (r := x) hE hF hu.lt
  rw [← h] at hbl
  refine ⟨hbl, ?_, ?_, fun ho => ?_⟩
  · cases on
    · rw [(next_no hE2 hF1 h1 hc).1]; decide
    · have := (next_yes (by omega) h1 hc).2.2; omega
  · rw [dval_zof h1]; exact qcmp_le0.2 h2
  · subst ho
    obtain ⟨k1, k2, k3⟩ := next_yes (by omega) h1 hc
    have k4 := zof_lt k1
    rw [dval_zof k1, k2]
    exact qcmp_above (h3 (by omega))

set_option maxRecDepth 100000 in
set_option maxHeartbeats 1000000 in
theorem ieeeNext_early (how : Int) (b E F : Nat) (HL : Hid (Looked (bits .and .i64 how 2) E F)) (l : List UInt8) (w : World) (h1 : (60 : Int) < ((l.length : Nat) : Int)) :
    Calls Tryd.prog 6 #[.int .i64 how, .int .u64 (b : Int), .string ⟨l.toArray⟩] w fun e w' => e = .returned (.bool true) ∧ Below w.heap.size w w' := by
  go_enter Tryd.func6, Tryd.ntmps6
  go_wp2_with fail
  refine (form_fix _ E F _ HL).mono ?_
  rintro e w1 ⟨rfl, hb⟩
  have hbf := hb
  clear hb
  obtain ⟨w2, hwE⟩ : ∃ W, W = (w1.alloc (.cells #[.int .i64 (E : Int), .int .i64 (F : Int)] 25)) := ⟨_, rfl⟩
  have hb : Below w1.heap.size w1 w2 := by rw [hwE]; exact ((Below.refl _ w1).alloc (Nat.le_refl _) _)
  obtain ⟨pg, hpg⟩ : ∃ p, p = w1.heap.size := ⟨_, rfl⟩
  have hbg : Box2 w2 pg (Value.int .i64 (E : Int)) (Value.int .i64 (F : Int)) := by rw [hwE, hpg]; exact ⟨by go_simp, by go_simp, by go_simp, by go_simp⟩
  have HP : Hid (w.heap.size ≤ pg) := Lib.hid (by have h9 := hbf.size; omega)
  have HW := Lib.hid hwE; clear hwE
  go_upto_region 2 with fail
  rw [← HW.out, ← hpg]
  clear hpg HW
  replace hbf := hbf.trans (hb.mono hbf.size)
  clear hb
  go_wp2_with fail
  refine (alive4_any _).mono ?_
  rintro e w3 ⟨rfl, hb⟩
  replace hbg := hbg.kept hb
  replace hbf := hbf.trans (hb.mono hbf.size)
  clear hb
  go_wp2_with fail
  go_ret
  exact ⟨rfl, hbf⟩

set_option maxRecDepth 100000 in
set_option maxHeartbeats 1000000 in
/-- IeeeNext. -/
theorem ieeeNext_main (how : Int) (b : Nat) (l : List UInt8) (E F : Nat) (w : World) (HL : Hid (Looked (bits .and .i64 how 2) E F)) (hb64 : b < 18446744073709551616) (hl : l.length ≤ 60) :
    Calls Tryd.prog 6 #[.int .i64 how, .int .u64 (b : Int), .string ⟨l.toArray⟩] w fun e w' => e = .returned (.bool true) ∧ Below w.heap.size w w' := by
  have hE2 := HL.out.ok.1
  have hE : E ≤ 11 := by have := HL.out.ok.2.1; omega
  have hF1 := HL.out.ok.2.2.1
  have hF : F ≤ 52 := by have := HL.out.ok.2.2.2; omega
  have k1 : ¬ (60 : Int) < ((l.length : Nat) : Int) := by omega
  have hqx := QB.val (l := l) (K := 61) (by omega)
  obtain ⟨qx, hxe⟩ : ∃ a, a = qval l := ⟨_, rfl⟩
  obtain ⟨kx, hxc⟩ : ∃ c, c = qcode l := ⟨_, rfl⟩
  rw [← hxe] at hqx
  have HxE := Lib.hid hxe
  have HxC := Lib.hid hxc
  clear hxe hxc
  obtain ⟨p, ok, HNX⟩ : ∃ (a : Nat) (x : Bool), Hid ((a, x) = fnext E F b) := ⟨(fnext E F b).1, (fnext E F b).2, Lib.hid rfl⟩
  have htop := finf_lt E F
  have htop2 := fsgn_lt hE hF
  have ht64 : finf E F - 1 < 18446744073709551616 := by unfold fsgn at htop2; omega
  have hqt := dval_qb (E := E) (F := F) (p := finf E F - 1) hE hF
  have hqb := dval_qb (E := E) (F := F) (p := b) hE hF
  clear htop htop2
  go_enter Tryd.func6, Tryd.ntmps6
  go_wp2_with fail
  refine (form_fix _ E F _ HL).mono ?_
  rintro e w1 ⟨rfl, hb⟩
  have hbf := hb
  clear hb
  obtain ⟨w2, hwE⟩ : ∃ W, W = (w1.alloc (.cells #[.int .i64 (E : Int), .int .i64 (F : Int)] 25)) := ⟨_, rfl⟩
  have hb : Below w1.heap.size w1 w2 := by rw [hwE]; exact ((Below.refl _ w1).alloc (Nat.le_refl _) _)
  obtain ⟨pg, hpg⟩ : ∃ p, p = w1.heap.size := ⟨_, rfl⟩
  have hbg : Box2 w2 pg (Value.int .i64 (E : Int)) (Value.int .i64 (F : Int)) := by rw [hwE, hpg]; exact ⟨by go_simp, by go_simp, by go_simp, by go_simp⟩
  have HP : Hid (w.heap.size ≤ pg) := Lib.hid (by have h9 := hbf.size; omega)
  have HW := Lib.hid hwE; clear hwE
  go_upto_region 2 with fail
  rw [← HW.out, ← hpg]
  clear hpg HW
  replace hbf := hbf.trans (hb.mono hbf.size)
  clear hb
  go_wp2_with fail
  refine (alive4_any _).mono ?_
  rintro e w3 ⟨rfl, hb⟩
  replace hbg := hbg.kept hb
  replace hbf := hbf.trans (hb.mono hbf.size)
  clear hb
  have eg0 := hbg.c0
  have eg1 := hbg.c1
  go_wp2_with fail
  refine (decode_any E F b _ hE2 hE hF1 hF hb64).mono ?_
  rintro e w4 hq9
  obtain ⟨vB, vxO, vxL, vxC, vyO, vyL, vyC, rfl, hS, hvx, hvy, hv, hb⟩ := hq9.out
  have HvS := Lib.hid hS; clear hS
  clear eg0 eg1
  replace hbg := hbg.kept hb
  replace hbf := hbf.trans (hb.mono hbf.size)
  clear hb
  obtain ⟨w5, hwE⟩ : ∃ W, W = (w4.alloc (.cells #[.bool vB, .slice vxO vxL vxC, .slice vyO vyL vyC] 31)) := ⟨_, rfl⟩
  have hb : Below w4.heap.size w4 w5 := by rw [hwE]; exact ((Below.refl _ w4).alloc (Nat.le_refl _) _)
  obtain ⟨pr, hpr⟩ : ∃ p, p = w4.heap.size := ⟨_, rfl⟩
  have hbr : Box3 w5 pr (Value.bool vB) (Value.slice vxO vxL vxC) (Value.slice vyO vyL vyC) := by rw [hwE, hpr]; exact ⟨by go_simp, by go_simp, by go_simp, by go_simp, by go_simp, by go_simp⟩
  replace HP : Hid (w.heap.size ≤ pg ∧ pg < pr) := Lib.hid (by have h1 := HP.out; have h9 := hbf.size; have h2g := hbg.lt; omega)
  have HW := Lib.hid hwE; clear hwE
  go_upto_region 5 with fail
  rw [← HW.out, ← hpr]
  clear hpr HW
  replace hbg := hbg.kept hb
  replace hvx := hvx.below hb
  replace hvy := hvy.below hb
  replace hv := hv.below hb
  replace hbf := hbf.trans (hb.mono hbf.size)
  clear hb
  have eg0 := hbg.c0
  have eg1 := hbg.c1
  go_wp2_with fail
  refine (next_any E F b _ p ok HNX hE2 hE hF1 hF hb64).mono ?_
  rintro e w6 ⟨rfl, hb⟩
  clear eg0 eg1
  replace hbg := hbg.kept hb
  replace hbr := hbr.kept hb
  replace hvx := hvx.below hb
  replace hvy := hvy.below hb
  replace hv := hv.below hb
  replace hbf := hbf.trans (hb.mono hbf.size)
  clear hb
  have eg0 := hbg.c0
  have eg1 := hbg.c1
  go_wp2_with fail
  clear eg0 eg1
  refine wp_region_seqQ (S := fun w' => Box2 w' pg (Value.int .i64 (E : Int)) (Value.int .i64 (F : Int))) [(0, 128, some 56), (1, 72057594037927936, some 57), (2, 144115188075855872, some 58), (4, 288230376151711744, some 59), (0, 128, some 60), (16, 1152921504606846976, some 61), (40, 2882303761517117440, some 62), (64, 4611686018427387904, some 63), (255, 9223372036854775808, some 12)] [(true, 0), (true, 1), (true, 2), (true, 3), (true, 4), (true, 5), (true, 6), (true, 7), (true, 8)] (by kernel_rfl) (by kernel_rfl) (by kernel_rfl) (by kernel_rfl) (by kernel_rfl) (by kernel_rfl) (fun d _ _ _ _ h => by cases d <;> exact h) hbg.drew (fun _ => ?_)
  simp only [pickOps, List.append_eq, List.cons_append, List.nil_append, List.getElem?_toArray, List.getElem?_cons_succ, List.getElem?_cons_zero]
  have hb : Below w6.heap.size w6 w6.drew := (Below.refl _ _).drew
  generalize w6.drew = w7 at hb ⊢
  replace hbg := hbg.kept hb
  replace hbr := hbr.kept hb
  replace hvx := hvx.below hb
  replace hvy := hvy.below hb
  replace hv := hv.below hb
  replace hbf := hbf.trans (hb.mono hbf.size)
  clear hb
  repeat (first | (refine seq_take (v := ?_) (by rfl) ?_ ?_; rotate_left; (· intro w hSw; (try dsimp only at hSw); obtain ⟨eg0, eg1, _, _⟩ := hSw; go_simp; all_goals with_reducible rfl); (try simp only [Act.put, List.setIfInBounds_toArray, List.set_cons_zero, List.set_cons_succ])) | (refine seq_leave (by rfl) ?_; (try simp only [Act.put, List.setIfInBounds_toArray, List.set_cons_zero, List.set_cons_succ])))
  refine seq_end ?_
  rw [wrap_finf hE hF, wrap_top hE2 hE hF]
  by_cases hk : dkind E F b = 1
  case neg =>
    obtain ⟨rfl, rfl⟩ : p = 0 ∧ ok = false := by have := HNX.out; rw [fnext_d hk] at this; exact ⟨congrArg Prod.fst this, congrArg Prod.snd this⟩
    generalize dkind E F b = km at *
    have hkb : (km == 1) = false := by rw [beq_eq_false_iff_ne]; exact hk
    have hkb2 : (km != 1) = true := by rw [bne, hkb]; rfl
    go_wp2_with fail
    go_ret
    exact ⟨rfl, hbf⟩
  have HSM := Lib.hid (next_same hE2 hF1 hk HNX.out)
  rw [hk]
  have HK := Lib.hid hk
  clear hk
  have eg0 := hbg.c0
  have eg1 := hbg.c1
  go_wp2_with fail
  refine (decode_any E F (finf E F - 1) _ hE2 hE hF1 hF ht64).mono ?_
  rintro e w8 hq9
  obtain ⟨tB, txO, txL, txC, tyO, tyL, tyC, rfl, hS, htx, hty, ht, hb⟩ := hq9.out
  have HtS := Lib.hid hS; clear hS
  clear eg0 eg1
  replace hbg := hbg.kept hb
  replace hbr := hbr.kept hb
  replace hvx := hvx.below hb
  replace hvy := hvy.below hb
  replace hv := hv.below hb
  replace hbf := hbf.trans (hb.mono hbf.size)
  clear hb
  obtain ⟨w9, hwE⟩ : ∃ W, W = (w8.alloc (.cells #[.bool tB, .slice txO txL txC, .slice tyO tyL tyC] 31)) := ⟨_, rfl⟩
  have hb : Below w8.heap.size w8 w9 := by rw [hwE]; exact ((Below.refl _ w8).alloc (Nat.le_refl _) _)
  obtain ⟨ps, hps⟩ : ∃ p, p = w8.heap.size := ⟨_, rfl⟩
  have hbs : Box3 w9 ps (Value.bool tB) (Value.slice txO txL txC) (Value.slice tyO tyL tyC) := by rw [hwE, hps]; exact ⟨by go_simp, by go_simp, by go_simp, by go_simp, by go_simp, by go_simp⟩
  replace HP : Hid (w.heap.size ≤ pg ∧ pg < pr ∧ pr < ps) := Lib.hid (by have h1 := HP.out; have h9 := hbf.size; have h2r := hbr.lt; omega)
  have HW := Lib.hid hwE; clear hwE
  go_upto_region 10 with fail
  rw [← HW.out, ← hps]
  clear hps HW
  replace hbg := hbg.kept hb
  replace hbr := hbr.kept hb
  replace hvx := hvx.below hb
  replace hvy := hvy.below hb
  replace hv := hv.below hb
  replace htx := htx.below hb
  replace hty := hty.below hb
  replace ht := ht.below hb
  replace hbf := hbf.trans (hb.mono hbf.size)
  clear hb
  have er0 := hbr.c0
  have er1 := hbr.c1
  have er2 := hbr.c2
  have es0 := hbs.c0
  have es1 := hbs.c1
  have es2 := hbs.c2
  go_wp2_with fail
  refine (same_s _ _ (dval' E F b) (dval' E F (finf E F - 1)) (!ok) 66 66 _ hv ht hqb hqt (by decide) HSM).mono ?_
  rintro e w10 ⟨rfl, hb⟩
  clear er0 er1 er2 es0 es1 es2
  replace hbg := hbg.kept hb
  replace hbr := hbr.kept hb
  replace hbs := hbs.kept hb
  replace hvx := hvx.below hb
  replace hvy := hvy.below hb
  replace hv := hv.below hb
  replace htx := htx.below hb
  replace hty := hty.below hb
  replace ht := ht.below hb
  replace hbf := hbf.trans (hb.mono hbf.size)
  clear hb
  cases ok
  case false =>
    go_wp2_with fail
    refine (qparse_main l _ qx kx HxE HxC (by omega)).mono ?_
    rintro e w11 hq9
    obtain ⟨xB, xxO, xxL, xxC, xyO, xyL, xyC, rfl, hS, hxx, hxy, hx, hb⟩ := hq9.out
    have HxS := Lib.hid hS; clear hS
    replace hbg := hbg.kept hb
    replace hbr := hbr.kept hb
    replace hbs := hbs.kept hb
    replace hvx := hvx.below hb
    replace hvy := hvy.below hb
    replace hv := hv.below hb
    replace htx := htx.below hb
    replace hty := hty.below hb
    replace ht := ht.below hb
    replace hbf := hbf.trans (hb.mono hbf.size)
    clear hb
    obtain ⟨w12, hwE⟩ : ∃ W, W = (w11.alloc (.cells #[.bool xB, .slice xxO xxL xxC, .slice xyO xyL xyC] 31)) := ⟨_, rfl⟩
    have hb : Below w11.heap.size w11 w12 := by rw [hwE]; exact ((Below.refl _ w11).alloc (Nat.le_refl _) _)
    obtain ⟨px, hpx⟩ : ∃ p, p = w11.heap.size := ⟨_, rfl⟩
    have hbx : Box3 w12 px (Value.bool xB) (Value.slice xxO xxL xxC) (Value.slice xyO xyL xyC) := by rw [hwE, hpx]; exact ⟨by go_simp, by go_simp, by go_simp, by go_simp, by go_simp, by go_simp⟩
    replace HP : Hid (w.heap.size ≤ pg ∧ pg < pr ∧ pr < ps ∧ ps < px) := Lib.hid (by have h1 := HP.out; have h9 := hbf.size; have h2s := hbs.lt; omega)
    have HW := Lib.hid hwE; clear hwE
    go_upto_region 20 with fail
    rw [← HW.out, ← hpx]
    clear hpx HW
    replace hbg := hbg.kept hb
    replace hbr := hbr.kept hb
    replace hbs := hbs.kept hb
    replace hvx := hvx.below hb
    replace hvy := hvy.below hb
    replace hv := hv.below hb
    replace htx := htx.below hb
    replace hty := hty.below hb
    replace ht := ht.below hb
    replace hxx := hxx.below hb
    replace hxy := hxy.below hb
    replace hx := hx.below hb
    replace hbf := hbf.trans (hb.mono hbf.size)
    clear hb
    by_cases hk0 : kx = 0
    case neg =>
      have hkb : (kx == 0) = false := by rw [beq_eq_false_iff_ne]; exact hk0
      have hkb2 : (kx != 0) = true := by rw [bne, hkb]; rfl
      go_wp2_with fail
      go_ret
      exact ⟨rfl, hbf⟩
    subst hk0
    obtain ⟨n, hu⟩ := under_exists (E := E) (F := F) (r := qabs qx) (by omega) (qabs_nonneg qx)
    obtain ⟨d, is, HBE⟩ : ∃ (a : Nat) (x : Bool), Hid ((a, x) = fbelow E F qx n) := ⟨(fbelow E F qx n).1, (fbelow E F qx n).2, Lib.hid rfl⟩
    have eg0 := hbg.c0
    have eg1 := hbg.c1
    have ex0 := hbx.c0
    have ex1 := hbx.c1
    have ex2 := hbx.c2
    go_wp2_with fail
    refine (below_any E F n 61 _ qx _ d is HBE hE2 hE hF1 hF hx hqx (by decide) hu).mono ?_
    rintro e w13 ⟨rfl, hb⟩
    clear eg0 eg1 ex0 ex1 ex2
    replace hbg := hbg.kept hb
    replace hbr := hbr.kept hb
    replace hbs := hbs.kept hb
    replace hbx := hbx.kept hb
    replace hvx := hvx.below hb
    replace hvy := hvy.below hb
    replace hv := hv.below hb
    replace htx := htx.below hb
    replace hty := hty.below hb
    replace ht := ht.below hb
    replace hxx := hxx.below hb
    replace hxy := hxy.below hb
    replace hx := hx.below hb
    replace hbf := hbf.trans (hb.mono hbf.size)
    clear hb
    cases is
    case false =>
      go_wp2_with fail
      go_ret
      exact ⟨rfl, hbf⟩
    case true =>
      obtain ⟨c, on, HN2⟩ : ∃ (a : Nat) (x : Bool), Hid ((a, x) = fnext E F d) := ⟨(fnext E F d).1, (fnext E F d).2, Lib.hid rfl⟩
      obtain ⟨hd64, hc64, hle, hgt⟩ := below_seen hE2 hE hF1 hF hu HBE.out HN2.out
      have HGT := Lib.hid hgt
      obtain ⟨z1, hz1⟩ : ∃ z, qcmp (dval' E F d) qx = z := ⟨_, rfl⟩
      have HZ1 := Lib.hid hz1
      have hz0 : decide (z1 ≤ 0) = true := decide_eq_true (by rw [← hz1]; exact hle)
      clear hgt hz1 hle
      have hqd := dval_qb (E := E) (F := F) (p := d) hE hF
      have hqc := dval_qb (E := E) (F := F) (p := c) hE hF
      have eg0 := hbg.c0
      have eg1 := hbg.c1
      go_wp2_with fail
      refine (decode_any E F d _ hE2 hE hF1 hF hd64).mono ?_
      rintro e w14 hq9
      obtain ⟨yB, yxO, yxL, yxC, yyO, yyL, yyC, rfl, hS, hyx, hyy, hy, hb⟩ := hq9.out
      have HyS := Lib.hid hS; clear hS
      clear eg0 eg1
      replace hbg := hbg.kept hb
      replace hbr := hbr.kept hb
      replace hbs := hbs.kept hb
      replace hbx := hbx.kept hb
      replace hvx := hvx.below hb
      replace hvy := hvy.below hb
      replace hv := hv.below hb
      replace htx := htx.below hb
      replace hty := hty.below hb
      replace ht := ht.below hb
      replace hxx := hxx.below hb
      replace hxy := hxy.below hb
      replace hx := hx.below hb
      replace hbf := hbf.trans (hb.mono hbf.size)
      clear hb
      obtain ⟨w15, hwE⟩ : ∃ W, W = (w14.alloc (.cells #[.bool yB, .slice yxO yxL yxC, .slice yyO yyL yyC] 31)) := ⟨_, rfl⟩
      have hb : Below w14.heap.size w14 w15 := by rw [hwE]; exact ((Below.refl _ w14).alloc (Nat.le_refl _) _)
      obtain ⟨py, hpy⟩ : ∃ p, p = w14.heap.size := ⟨_, rfl⟩
      have hby : Box3 w15 py (Value.bool yB) (Value.slice yxO yxL yxC) (Value.slice yyO yyL yyC) := by rw [hwE, hpy]; exact ⟨by go_simp, by go_simp, by go_simp, by go_simp, by go_simp, by go_simp⟩
      replace HP : Hid (w.heap.size ≤ pg ∧ pg < pr ∧ pr < ps ∧ ps < px ∧ px < py) := Lib.hid (by have h1 := HP.out; have h9 := hbf.size; have h2x := hbx.lt; omega)
      have HW := Lib.hid hwE; clear hwE
      go_upto_region 26 with fail
      rw [← HW.out, ← hpy]
      clear hpy HW
      replace hbg := hbg.kept hb
      replace hbr := hbr.kept hb
      replace hbs := hbs.kept hb
      replace hbx := hbx.kept hb
      replace hvx := hvx.below hb
      replace hvy := hvy.below hb
      replace hv := hv.below hb
      replace htx := htx.below hb
      replace hty := hty.below hb
      replace ht := ht.below hb
      replace hxx := hxx.below hb
      replace hxy := hxy.below hb
      replace hx := hx.below hb
      replace hyx := hyx.below hb
      replace hyy := hyy.below hb
      replace hy := hy.below hb
      replace hbf := hbf.trans (hb.mono hbf.size)
      clear hb
      have eg0 := hbg.c0
      have eg1 := hbg.c1
      go_wp2_with fail
      refine (next_any E F d _ c on HN2 hE2 hE hF1 hF hd64).mono ?_
      rintro e w16 ⟨rfl, hb⟩
      clear eg0 eg1
      replace hbg := hbg.kept hb
      replace hbr := hbr.kept hb
      replace hbs := hbs.kept hb
      replace hbx := hbx.kept hb
      replace hby := hby.kept hb
      replace hvx := hvx.below hb
      replace hvy := hvy.below hb
      replace hv := hv.below hb
      replace htx := htx.below hb
      replace hty := hty.below hb
      replace ht := ht.below hb
      replace hxx := hxx.below hb
      replace hxy := hxy.below hb
      replace hx := hx.below hb
      replace hyx := hyx.below hb
      replace hyy := hyy.below hb
      replace hy := hy.below hb
      replace hbf := hbf.trans (hb.mono hbf.size)
      clear hb
      have eg0 := hbg.c0
      have eg1 := hbg.c1
      go_wp2_with fail
      refine (decode_any E F c _ hE2 hE hF1 hF hc64).mono ?_
      rintro e w17 hq9
      obtain ⟨zB, zxO, zxL, zxC, zyO, zyL, zyC, rfl, hS, hzx, hzy, hz, hb⟩ := hq9.out
      have HzS := Lib.hid hS; clear hS
      clear eg0 eg1
      replace hbg := hbg.kept hb
      replace hbr := hbr.kept hb
      replace hbs := hbs.kept hb
      replace hbx := hbx.kept hb
      replace hby := hby.kept hb
      replace hvx := hvx.below hb
      replace hvy := hvy.below hb
      replace hv := hv.below hb
      replace htx := htx.below hb
      replace hty := hty.below hb
      replace ht := ht.below hb
      replace hxx := hxx.below hb
      replace hxy := hxy.below hb
      replace hx := hx.below hb
      replace hyx := hyx.below hb
      replace hyy := hyy.below hb
      replace hy := hy.below hb
      replace hbf := hbf.trans (hb.mono hbf.size)
      clear hb
      obtain ⟨w18, hwE⟩ : ∃ W, W = (w17.alloc (.cells #[.bool zB, .slice zxO zxL zxC, .slice zyO zyL zyC] 31)) := ⟨_, rfl⟩
      have hb : Below w17.heap.size w17 w18 := by rw [hwE]; exact ((Below.refl _ w17).alloc (Nat.le_refl _) _)
      obtain ⟨pz, hpz⟩ : ∃ p, p = w17.heap.size := ⟨_, rfl⟩
      have hbz : Box3 w18 pz (Value.bool zB) (Value.slice zxO zxL zxC) (Value.slice zyO zyL zyC) := by rw [hwE, hpz]; exact ⟨by go_simp, by go_simp, by go_simp, by go_simp, by go_simp, by go_simp⟩
      replace HP : Hid (w.heap.size ≤ pg ∧ pg < pr ∧ pr < ps ∧ ps < px ∧ px < py ∧ py < pz) := Lib.hid (by have h1 := HP.out; have h9 := hbf.size; have h2y := hby.lt; omega)
      have HW := Lib.hid hwE; clear hwE
      go_upto_region 28 with fail
      rw [← HW.out, ← hpz]
      clear hpz HW
      replace hbg := hbg.kept hb
      replace hbr := hbr.kept hb
      replace hbs := hbs.kept hb
      replace hbx := hbx.kept hb
      replace hby := hby.kept hb
      replace hvx := hvx.below hb
      replace hvy := hvy.below hb
      replace hv := hv.below hb
      replace htx := htx.below hb
      replace hty := hty.below hb
      replace ht := ht.below hb
      replace hxx := hxx.below hb
      replace hxy := hxy.below hb
      replace hx := hx.below hb
      replace hyx := hyx.below hb
      replace hyy := hyy.below hb
      replace hy := hy.below hb
      replace hzx := hzx.below hb
      replace hzy := hzy.below hb
      replace hz := hz.below hb
      replace hbf := hbf.trans (hb.mono hbf.size)
      clear hb
      have ey0 := hby.c0
      have ey1 := hby.c1
      have ey2 := hby.c2
      have ex0 := hbx.c0
      have ex1 := hbx.c1
      have ex2 := hbx.c2
      go_wp2_with fail
      refine (qcmp_c _ _ (dval' E F d) qx z1 66 61 _ hy hx hqd hqx (by decide) HZ1).mono ?_
      rintro e w19 ⟨rfl, hb⟩
      clear ey0 ey1 ey2 ex0 ex1 ex2
      replace hbg := hbg.kept hb
      replace hbr := hbr.kept hb
      replace hbs := hbs.kept hb
      replace hbx := hbx.kept hb
      replace hby := hby.kept hb
      replace hbz := hbz.kept hb
      replace hvx := hvx.below hb
      replace hvy := hvy.below hb
      replace hv := hv.below hb
      replace htx := htx.below hb
      replace hty := hty.below hb
      replace ht := ht.below hb
      replace hxx := hxx.below hb
      replace hxy := hxy.below hb
      replace hx := hx.below hb
      replace hyx := hyx.below hb
      replace hyy := hyy.below hb
      replace hy := hy.below hb
      replace hzx := hzx.below hb
      replace hzy := hzy.below hb
      replace hz := hz.below hb
      replace hbf := hbf.trans (hb.mono hbf.size)
      clear hb
      cases on
      case false =>
        go_wp2_with fail
        go_ret
        exact ⟨rfl, hbf⟩
      case true =>
        have ez0 := hbz.c0
        have ez1 := hbz.c1
        have ez2 := hbz.c2
        have ex0 := hbx.c0
        have ex1 := hbx.c1
        have ex2 := hbx.c2
        go_wp2_with fail
        refine (qcmp_c _ _ (dval' E F c) qx 1 66 61 _ hz hx hqc hqx (by decide) (Lib.hid (HGT.out (by trivial)))).mono ?_
        rintro e w20 ⟨rfl, hb⟩
        clear ez0 ez1 ez2 ex0 ex1 ex2
        replace hbg := hbg.kept hb
        replace hbr := hbr.kept hb
        replace hbs := hbs.kept hb
        replace hbx := hbx.kept hb
        replace hby := hby.kept hb
        replace hbz := hbz.kept hb
        replace hvx := hvx.below hb
        replace hvy := hvy.below hb
        replace hv := hv.below hb
        replace htx := htx.below hb
        replace hty := hty.below hb
        replace ht := ht.below hb
        replace hxx := hxx.below hb
        replace hxy := hxy.below hb
        replace hx := hx.below hb
        replace hyx := hyx.below hb
        replace hyy := hyy.below hb
        replace hy := hy.below hb
        replace hzx := hzx.below hb
        replace hzy := hzy.below hb
        replace hz := hz.below hb
        replace hbf := hbf.trans (hb.mono hbf.size)
        clear hb
        go_wp2_with fail
        go_ret
        exact ⟨rfl, hbf⟩
  case true =>
    obtain ⟨qr, qs, m, u, e1, e2, e3, hp64, hu2, e4, e5, e6, hu64, e7⟩ := next_seen hE2 hE hF1 hF HK.out HNX.out
    rw [e1] at hv hqb
    have hqs := dval_qb (E := E) (F := F) (p := p) hE hF
    rw [e3] at hqs
    have HP1 := Lib.hid e2
    have HP2 := Lib.hid e3
    have HU1 := Lib.hid e4
    have HU2 := Lib.hid e5
    have HU3 := Lib.hid e6
    have HC1 := Lib.hid e7
    clear e1 e2 e3 e4 e5 e6 e7
    have eg0 := hbg.c0
    have eg1 := hbg.c1
    go_wp2_with fail
    refine (decode_k E F p 1 qs _ HP1 HP2 hE2 hE hF1 hF hp64).mono ?_
    rintro e w11 hq9
    obtain ⟨aB, axO, axL, axC, ayO, ayL, ayC, rfl, hS, hax, hay, ha, hb⟩ := hq9.out
    have HaS := Lib.hid hS; clear hS
    clear eg0 eg1
    replace hbg := hbg.kept hb
    replace hbr := hbr.kept hb
    replace hbs := hbs.kept hb
    replace hvx := hvx.below hb
    replace hvy := hvy.below hb
    replace hv := hv.below hb
    replace htx := htx.below hb
    replace hty := hty.below hb
    replace ht := ht.below hb
    replace hbf := hbf.trans (hb.mono hbf.size)
    clear hb
    obtain ⟨w12, hwE⟩ : ∃ W, W = (w11.alloc (.cells #[.bool aB, .slice axO axL axC, .slice ayO ayL ayC] 31)) := ⟨_, rfl⟩
    have hb : Below w11.heap.size w11 w12 := by rw [hwE]; exact ((Below.refl _ w11).alloc (Nat.le_refl _) _)
    obtain ⟨pa, hpa⟩ : ∃ p, p = w11.heap.size := ⟨_, rfl⟩
    have hba : Box3 w12 pa (Value.bool aB) (Value.slice axO axL axC) (Value.slice ayO ayL ayC) := by rw [hwE, hpa]; exact ⟨by go_simp, by go_simp, by go_simp, by go_simp, by go_simp, by go_simp⟩
    replace HP : Hid (w.heap.size ≤ pg ∧ pg < pr ∧ pr < ps ∧ ps < pa) := Lib.hid (by have h1 := HP.out; have h9 := hbf.size; have h2s := hbs.lt; omega)
    have HW := Lib.hid hwE; clear hwE
    go_upto_region 14 with fail
    rw [← HW.out, ← hpa]
    clear hpa HW
    replace hbg := hbg.kept hb
    replace hbr := hbr.kept hb
    replace hbs := hbs.kept hb
    replace hvx := hvx.below hb
    replace hvy := hvy.below hb
    replace hv := hv.below hb
    replace htx := htx.below hb
    replace hty := hty.below hb
    replace ht := ht.below hb
    replace hax := hax.below hb
    replace hay := hay.below hb
    replace ha := ha.below hb
    replace hbf := hbf.trans (hb.mono hbf.size)
    clear hb
    have er0 := hbr.c0
    have er1 := hbr.c1
    have er2 := hbr.c2
    have ea0 := hba.c0
    have ea1 := hba.c1
    have ea2 := hba.c2
    go_wp2_with fail
    refine (qadd_any _ _ qr qs 66 66 _ hv ha hqb hqs (by decide)).mono ?_
    rintro e w13 hq9
    obtain ⟨jB, jxO, jxL, jxC, jyO, jyL, jyC, rfl, hS, hjx, hjy, hj, hb⟩ := hq9.out
    have HjS := Lib.hid hS; clear hS
    clear er0 er1 er2 ea0 ea1 ea2
    replace hbg := hbg.kept hb
    replace hbr := hbr.kept hb
    replace hbs := hbs.kept hb
    replace hba := hba.kept hb
    replace hvx := hvx.below hb
    replace hvy := hvy.below hb
    replace hv := hv.below hb
    replace htx := htx.below hb
    replace hty := hty.below hb
    replace ht := ht.below hb
    replace hax := hax.below hb
    replace hay := hay.below hb
    replace ha := ha.below hb
    replace hbf := hbf.trans (hb.mono hbf.size)
    clear hb
    go_wp2_with fail
    refine (of_q 2 _ (by decide) (by decide)).mono ?_
    rintro e w14 hq9
    obtain ⟨cB, cxO, cxL, cxC, cyO, cyL, cyC, rfl, hS, hcx, hcy, hc, hb⟩ := hq9.out
    have HcS := Lib.hid hS; clear hS
    replace hbg := hbg.kept hb
    replace hbr := hbr.kept hb
    replace hbs := hbs.kept hb
    replace hba := hba.kept hb
    replace hvx := hvx.below hb
    replace hvy := hvy.below hb
    replace hv := hv.below hb
    replace htx := htx.below hb
    replace hty := hty.below hb
    replace ht := ht.below hb
    replace hax := hax.below hb
    replace hay := hay.below hb
    replace ha := ha.below hb
    replace hjx := hjx.below hb
    replace hjy := hjy.below hb
    replace hj := hj.below hb
    replace hbf := hbf.trans (hb.mono hbf.size)
    clear hb
    have hsq := hqb.add hqs
    have h2q : QB ((2 : Int) : Rat) 2 := by rw [q_two]; exact q_two_b
    have hhq := hsq.div h2q (by decide)
    go_wp2_with fail
    refine (qdiv_ok _ _ (qr + qs) ((2 : Int) : Rat) 133 2 _ hj hc hsq h2q (by decide) (by decide)).mono ?_
    rintro e w15 hq9
    obtain ⟨eB, exO, exL, exC, eyO, eyL, eyC, rfl, hS, hex, hey, he, hb⟩ := hq9.out
    have HeS := Lib.hid hS; clear hS
    replace hbg := hbg.kept hb
    replace hbr := hbr.kept hb
    replace hbs := hbs.kept hb
    replace hba := hba.kept hb
    replace hvx := hvx.below hb
    replace hvy := hvy.below hb
    replace hv := hv.below hb
    replace htx := htx.below hb
    replace hty := hty.below hb
    replace ht := ht.below hb
    replace hax := hax.below hb
    replace hay := hay.below hb
    replace ha := ha.below hb
    replace hjx := hjx.below hb
    replace hjy := hjy.below hb
    replace hj := hj.below hb
    replace hcx := hcx.below hb
    replace hcy := hcy.below hb
    replace hc := hc.below hb
    replace hbf := hbf.trans (hb.mono hbf.size)
    clear hb
    rw [q_two] at he hhq
    obtain ⟨w16, hwE⟩ : ∃ W, W = (w15.alloc (.cells #[.bool eB, .slice exO exL exC, .slice eyO eyL eyC] 31)) := ⟨_, rfl⟩
    have hb : Below w15.heap.size w15 w16 := by rw [hwE]; exact ((Below.refl _ w15).alloc (Nat.le_refl _) _)
    obtain ⟨ph, hph⟩ : ∃ p, p = w15.heap.size := ⟨_, rfl⟩
    have hbh : Box3 w16 ph (Value.bool eB) (Value.slice exO exL exC) (Value.slice eyO eyL eyC) := by rw [hwE, hph]; exact ⟨by go_simp, by go_simp, by go_simp, by go_simp, by go_simp, by go_simp⟩
    replace HP : Hid (w.heap.size ≤ pg ∧ pg < pr ∧ pr < ps ∧ ps < pa ∧ pa < ph) := Lib.hid (by have h1 := HP.out; have h9 := hbf.size; have h2a := hba.lt; omega)
    have HW := Lib.hid hwE; clear hwE
    go_upto_region 15 with fail
    rw [← HW.out, ← hph]
    clear hph HW
    replace hbg := hbg.kept hb
    replace hbr := hbr.kept hb
    replace hbs := hbs.kept hb
    replace hba := hba.kept hb
    replace hvx := hvx.below hb
    replace hvy := hvy.below hb
    replace hv := hv.below hb
    replace htx := htx.below hb
    replace hty := hty.below hb
    replace ht := ht.below hb
    replace hax := hax.below hb
    replace hay := hay.below hb
    replace ha := ha.below hb
    replace hjx := hjx.below hb
    replace hjy := hjy.below hb
    replace hj := hj.below hb
    replace hcx := hcx.below hb
    replace hcy := hcy.below hb
    replace hc := hc.below hb
    replace hex := hex.below hb
    replace hey := hey.below hb
    replace he := he.below hb
    replace hbf := hbf.trans (hb.mono hbf.size)
    clear hb
    have eg0 := hbg.c0
    have eg1 := hbg.c1
    have eh0 := hbh.c0
    have eh1 := hbh.c1
    have eh2 := hbh.c2
    go_wp2_with fail
    refine (below_any E F m 135 _ ((qr + qs) / 2) _ u true HU1 hE2 hE hF1 hF he hhq (by decide) hu2).mono ?_
    rintro e w17 ⟨rfl, hb⟩
    clear eg0 eg1 eh0 eh1 eh2
    replace hbg := hbg.kept hb
    replace hbr := hbr.kept hb
    replace hbs := hbs.kept hb
    replace hba := hba.kept hb
    replace hbh := hbh.kept hb
    replace hvx := hvx.below hb
    replace hvy := hvy.below hb
    replace hv := hv.below hb
    replace htx := htx.below hb
    replace hty := hty.below hb
    replace ht := ht.below hb
    replace hax := hax.below hb
    replace hay := hay.below hb
    replace ha := ha.below hb
    replace hjx := hjx.below hb
    replace hjy := hjy.below hb
    replace hj := hj.below hb
    replace hcx := hcx.below hb
    replace hcy := hcy.below hb
    replace hc := hc.below hb
    replace hex := hex.below hb
    replace hey := hey.below hb
    replace he := he.below hb
    replace hbf := hbf.trans (hb.mono hbf.size)
    clear hb
    have eg0 := hbg.c0
    have eg1 := hbg.c1
    go_wp2_with fail
    refine (decode_k E F u 1 qr _ HU2 HU3 hE2 hE hF1 hF hu64).mono ?_
    rintro e w18 hq9
    obtain ⟨iB, ixO, ixL, ixC, iyO, iyL, iyC, rfl, hS, hix, hiy, hi, hb⟩ := hq9.out
    have HiS := Lib.hid hS; clear hS
    clear eg0 eg1
    replace hbg := hbg.kept hb
    replace hbr := hbr.kept hb
    replace hbs := hbs.kept hb
    replace hba := hba.kept hb
    replace hbh := hbh.kept hb
    replace hvx := hvx.below hb
    replace hvy := hvy.below hb
    replace hv := hv.below hb
    replace htx := htx.below hb
    replace hty := hty.below hb
    replace ht := ht.below hb
    replace hax := hax.below hb
    replace hay := hay.below hb
    replace ha := ha.below hb
    replace hjx := hjx.below hb
    replace hjy := hjy.below hb
    replace hj := hj.below hb
    replace hcx := hcx.below hb
    replace hcy := hcy.below hb
    replace hc := hc.below hb
    replace hex := hex.below hb
    replace hey := hey.below hb
    replace he := he.below hb
    replace hbf := hbf.trans (hb.mono hbf.size)
    clear hb
    obtain ⟨w19, hwE⟩ : ∃ W, W = (w18.alloc (.cells #[.bool iB, .slice ixO ixL ixC, .slice iyO iyL iyC] 31)) := ⟨_, rfl⟩
    have hb : Below w18.heap.size w18 w19 := by rw [hwE]; exact ((Below.refl _ w18).alloc (Nat.le_refl _) _)
    obtain ⟨pi, hpi⟩ : ∃ p, p = w18.heap.size := ⟨_, rfl⟩
    have hbi : Box3 w19 pi (Value.bool iB) (Value.slice ixO ixL ixC) (Value.slice iyO iyL iyC) := by rw [hwE, hpi]; exact ⟨by go_simp, by go_simp, by go_simp, by go_simp, by go_simp, by go_simp⟩
    replace HP : Hid (w.heap.size ≤ pg ∧ pg < pr ∧ pr < ps ∧ ps < pa ∧ pa < ph ∧ ph < pi) := Lib.hid (by have h1 := HP.out; have h9 := hbf.size; have h2h := hbh.lt; omega)
    have HW := Lib.hid hwE; clear hwE
    go_upto_region 17 with fail
    rw [← HW.out, ← hpi]
    clear hpi HW
    replace hbg := hbg.kept hb
    replace hbr := hbr.kept hb
    replace hbs := hbs.kept hb
    replace hba := hba.kept hb
    replace hbh := hbh.kept hb
    replace hvx := hvx.below hb
    replace hvy := hvy.below hb
    replace hv := hv.below hb
    replace htx := htx.below hb
    replace hty := hty.below hb
    replace ht := ht.below hb
    replace hax := hax.below hb
    replace hay := hay.below hb
    replace ha := ha.below hb
    replace hjx := hjx.below hb
    replace hjy := hjy.below hb
    replace hj := hj.below hb
    replace hcx := hcx.below hb
    replace hcy := hcy.below hb
    replace hc := hc.below hb
    replace hex := hex.below hb
    replace hey := hey.below hb
    replace he := he.below hb
    replace hix := hix.below hb
    replace hiy := hiy.below hb
    replace hi := hi.below hb
    replace hbf := hbf.trans (hb.mono hbf.size)
    clear hb
    have ea0 := hba.c0
    have ea1 := hba.c1
    have ea2 := hba.c2
    have er0 := hbr.c0
    have er1 := hbr.c1
    have er2 := hbr.c2
    go_wp2_with fail
    refine (qcmp_c _ _ qs qr 1 66 66 _ ha hv hqs hqb (by decide) HC1).mono ?_
    rintro e w20 ⟨rfl, hb⟩
    clear ea0 ea1 ea2 er0 er1 er2
    replace hbg := hbg.kept hb
    replace hbr := hbr.kept hb
    replace hbs := hbs.kept hb
    replace hba := hba.kept hb
    replace hbh := hbh.kept hb
    replace hbi := hbi.kept hb
    replace hvx := hvx.below hb
    replace hvy := hvy.below hb
    replace hv := hv.below hb
    replace htx := htx.below hb
    replace hty := hty.below hb
    replace ht := ht.below hb
    replace hax := hax.below hb
    replace hay := hay.below hb
    replace ha := ha.below hb
    replace hjx := hjx.below hb
    replace hjy := hjy.below hb
    replace hj := hj.below hb
    replace hcx := hcx.below hb
    replace hcy := hcy.below hb
    replace hc := hc.below hb
    replace hex := hex.below hb
    replace hey := hey.below hb
    replace he := he.below hb
    replace hix := hix.below hb
    replace hiy := hiy.below hb
    replace hi := hi.below hb
    replace hbf := hbf.trans (hb.mono hbf.size)
    clear hb
    have ei0 := hbi.c0
    have ei1 := hbi.c1
    have ei2 := hbi.c2
    have er0 := hbr.c0
    have er1 := hbr.c1
    have er2 := hbr.c2
    go_wp2_with fail
    refine (same_s _ _ qr qr true 66 66 _ hi hv hqb hqb (by decide) (Lib.hid (decide_eq_true rfl))).mono ?_
    rintro e w21 ⟨rfl, hb⟩
    clear ei0 ei1 ei2 er0 er1 er2
    replace hbg := hbg.kept hb
    replace hbr := hbr.kept hb
    replace hbs := hbs.kept hb
    replace hba := hba.kept hb
    replace hbh := hbh.kept hb
    replace hbi := hbi.kept hb
    replace hvx := hvx.below hb
    replace hvy := hvy.below hb
    replace hv := hv.below hb
    replace htx := htx.below hb
    replace hty := hty.below hb
    replace ht := ht.below hb
    replace hax := hax.below hb
    replace hay := hay.below hb
    replace ha := ha.below hb
    replace hjx := hjx.below hb
    replace hjy := hjy.below hb
    replace hj := hj.below hb
    replace hcx := hcx.below hb
    replace hcy := hcy.below hb
    replace hc := hc.below hb
    replace hex := hex.below hb
    replace hey := hey.below hb
    replace he := he.below hb
    replace hix := hix.below hb
    replace hiy := hiy.below hb
    replace hi := hi.below hb
    replace hbf := hbf.trans (hb.mono hbf.size)
    clear hb
    go_wp2_with fail
    refine (qparse_main l _ qx kx HxE HxC (by omega)).mono ?_
    rintro e w22 hq9
    obtain ⟨xB, xxO, xxL, xxC, xyO, xyL, xyC, rfl, hS, hxx, hxy, hx, hb⟩ := hq9.out
    have HxS := Lib.hid hS; clear hS
    replace hbg := hbg.kept hb
    replace hbr := hbr.kept hb
    replace hbs := hbs.kept hb
    replace hba := hba.kept hb
    replace hbh := hbh.kept hb
    replace hbi := hbi.kept hb
    replace hvx := hvx.below hb
    replace hvy := hvy.below hb
    replace hv := hv.below hb
    replace htx := htx.below hb
    replace hty := hty.below hb
    replace ht := ht.below hb
    replace hax := hax.below hb
    replace hay := hay.below hb
    replace ha := ha.below hb
    replace hjx := hjx.below hb
    replace hjy := hjy.below hb
    replace hj := hj.below hb
    replace hcx := hcx.below hb
    replace hcy := hcy.below hb
    replace hc := hc.below hb
    replace hex := hex.below hb
    replace hey := hey.below hb
    replace he := he.below hb
    replace hix := hix.below hb
    replace hiy := hiy.below hb
    replace hi := hi.below hb
    replace hbf := hbf.trans (hb.mono hbf.size)
    clear hb
    obtain ⟨w23, hwE⟩ : ∃ W, W = (w22.alloc (.cells #[.bool xB, .slice xxO xxL xxC, .slice xyO xyL xyC] 31)) := ⟨_, rfl⟩
    have hb : Below w22.heap.size w22 w23 := by rw [hwE]; exact ((Below.refl _ w22).alloc (Nat.le_refl _) _)
    obtain ⟨px, hpx⟩ : ∃ p, p = w22.heap.size := ⟨_, rfl⟩
    have hbx : Box3 w23 px (Value.bool xB) (Value.slice xxO xxL xxC) (Value.slice xyO xyL xyC) := by rw [hwE, hpx]; exact ⟨by go_simp, by go_simp, by go_simp, by go_simp, by go_simp, by go_simp⟩
    replace HP : Hid (w.heap.size ≤ pg ∧ pg < pr ∧ pr < ps ∧ ps < pa ∧ pa < ph ∧ ph < pi ∧ pi < px) := Lib.hid (by have h1 := HP.out; have h9 := hbf.size; have h2i := hbi.lt; omega)
    have HW := Lib.hid hwE; clear hwE
    go_upto_region 20 with fail
    rw [← HW.out, ← hpx]
    clear hpx HW
    replace hbg := hbg.kept hb
    replace hbr := hbr.kept hb
    replace hbs := hbs.kept hb
    replace hba := hba.kept hb
    replace hbh := hbh.kept hb
    replace hbi := hbi.kept hb
    replace hvx := hvx.below hb
    replace hvy := hvy.below hb
    replace hv := hv.below hb
    replace htx := htx.below hb
    replace hty := hty.below hb
    replace ht := ht.below hb
    replace hax := hax.below hb
    replace hay := hay.below hb
    replace ha := ha.below hb
    replace hjx := hjx.below hb
    replace hjy := hjy.below hb
    replace hj := hj.below hb
    replace hcx := hcx.below hb
    replace hcy := hcy.below hb
    replace hc := hc.below hb
    replace hex := hex.below hb
    replace hey := hey.below hb
    replace he := he.below hb
    replace hix := hix.below hb
    replace hiy := hiy.below hb
    replace hi := hi.below hb
    replace hxx := hxx.below hb
    replace hxy := hxy.below hb
    replace hx := hx.below hb
    replace hbf := hbf.trans (hb.mono hbf.size)
    clear hb
    by_cases hk0 : kx = 0
    case neg =>
      have hkb : (kx == 0) = false := by rw [beq_eq_false_iff_ne]; exact hk0
      have hkb2 : (kx != 0) = true := by rw [bne, hkb]; rfl
      go_wp2_with fail
      go_ret
      exact ⟨rfl, hbf⟩
    subst hk0
    obtain ⟨n, hu⟩ := under_exists (E := E) (F := F) (r := qabs qx) (by omega) (qabs_nonneg qx)
    obtain ⟨d, is, HBE⟩ : ∃ (a : Nat) (x : Bool), Hid ((a, x) = fbelow E F qx n) := ⟨(fbelow E F qx n).1, (fbelow E F qx n).2, Lib.hid rfl⟩
    have eg0 := hbg.c0
    have eg1 := hbg.c1
    have ex0 := hbx.c0
    have ex1 := hbx.c1
    have ex2 := hbx.c2
    go_wp2_with fail
    refine (below_any E F n 61 _ qx _ d is HBE hE2 hE hF1 hF hx hqx (by decide) hu).mono ?_
    rintro e w24 ⟨rfl, hb⟩
    clear eg0 eg1 ex0 ex1 ex2
    replace hbg := hbg.kept hb
    replace hbr := hbr.kept hb
    replace hbs := hbs.kept hb
    replace hba := hba.kept hb
    replace hbh := hbh.kept hb
    replace hbi := hbi.kept hb
    replace hbx := hbx.kept hb
    replace hvx := hvx.below hb
    replace hvy := hvy.below hb
    replace hv := hv.below hb
    replace htx := htx.below hb
    replace hty := hty.below hb
    replace ht := ht.below hb
    replace hax := hax.below hb
    replace hay := hay.below hb
    replace ha := ha.below hb
    replace hjx := hjx.below hb
    replace hjy := hjy.below hb
    replace hj := hj.below hb
    replace hcx := hcx.below hb
    replace hcy := hcy.below hb
    replace hc := hc.below hb
    replace hex := hex.below hb
    replace hey := hey.below hb
    replace he := he.below hb
    replace hix := hix.below hb
    replace hiy := hiy.below hb
    replace hi := hi.below hb
    replace hxx := hxx.below hb
    replace hxy := hxy.below hb
    replace hx := hx.below hb
    replace hbf := hbf.trans (hb.mono hbf.size)
    clear hb
    cases is
    case false =>
      go_wp2_with fail
      go_ret
      exact ⟨rfl, hbf⟩
    case true =>
      obtain ⟨c, on, HN2⟩ : ∃ (a : Nat) (x : Bool), Hid ((a, x) = fnext E F d) := ⟨(fnext E F d).1, (fnext E F d).2, Lib.hid rfl⟩
      obtain ⟨hd64, hc64, hle, hgt⟩ := below_seen hE2 hE hF1 hF hu HBE.out HN2.out
      have HGT := Lib.hid hgt
      obtain ⟨z1, hz1⟩ : ∃ z, qcmp (dval' E F d) qx = z := ⟨_, rfl⟩
      have HZ1 := Lib.hid hz1
      have hz0 : decide (z1 ≤ 0) = true := decide_eq_true (by rw [← hz1]; exact hle)
      clear hgt hz1 hle
      have hqd := dval_qb (E := E) (F := F) (p := d) hE hF
      have hqc := dval_qb (E := E) (F := F) (p := c) hE hF
      have eg0 := hbg.c0
      have eg1 := hbg.c1
      go_wp2_with fail
      refine (decode_any E F d _ hE2 hE hF1 hF hd64).mono ?_
      rintro e w25 hq9
      obtain ⟨yB, yxO, yxL, yxC, yyO, yyL, yyC, rfl, hS, hyx, hyy, hy, hb⟩ := hq9.out
      have HyS := Lib.hid hS; clear hS
      clear eg0 eg1
      replace hbg := hbg.kept hb
      replace hbr := hbr.kept hb
      replace hbs := hbs.kept hb
      replace hba := hba.kept hb
      replace hbh := hbh.kept hb
      replace hbi := hbi.kept hb
      replace hbx := hbx.kept hb
      replace hvx := hvx.below hb
      replace hvy := hvy.below hb
      replace hv := hv.below hb
      replace htx := htx.below hb
      replace hty := hty.below hb
      replace ht := ht.below hb
      replace hax := hax.below hb
      replace hay := hay.below hb
      replace ha := ha.below hb
      replace hjx := hjx.below hb
      replace hjy := hjy.below hb
      replace hj := hj.below hb
      replace hcx := hcx.below hb
      replace hcy := hcy.below hb
      replace hc := hc.below hb
      replace hex := hex.below hb
      replace hey := hey.below hb
      replace he := he.below hb
      replace hix := hix.below hb
      replace hiy := hiy.below hb
      replace hi := hi.below hb
      replace hxx := hxx.below hb
      replace hxy := hxy.below hb
      replace hx := hx.below hb
      replace hbf := hbf.trans (hb.mono hbf.size)
      clear hb
      obtain ⟨w26, hwE⟩ : ∃ W, W = (w25.alloc (.cells #[.bool yB, .slice yxO yxL yxC, .slice yyO yyL yyC] 31)) := ⟨_, rfl⟩
      have hb : Below w25.heap.size w25 w26 := by rw [hwE]; exact ((Below.refl _ w25).alloc (Nat.le_refl _) _)
      obtain ⟨py, hpy⟩ : ∃ p, p = w25.heap.size := ⟨_, rfl⟩
      have hby : Box3 w26 py (Value.bool yB) (Value.slice yxO yxL yxC) (Value.slice yyO yyL yyC) := by rw [hwE, hpy]; exact ⟨by go_simp, by go_simp, by go_simp, by go_simp, by go_simp, by go_simp⟩
      replace HP : Hid (w.heap.size ≤ pg ∧ pg < pr ∧ pr < ps ∧ ps < pa ∧ pa < ph ∧ ph < pi ∧ pi < px ∧ px < py) := Lib.hid (by have h1 := HP.out; have h9 := hbf.size; have h2x := hbx.lt; omega)
      have HW := Lib.hid hwE; clear hwE
      go_upto_region 26 with fail
      rw [← HW.out, ← hpy]
      clear hpy HW
      replace hbg := hbg.kept hb
      replace hbr := hbr.kept hb
      replace hbs := hbs.kept hb
      replace hba := hba.kept hb
      replace hbh := hbh.kept hb
      replace hbi := hbi.kept hb
      replace hbx := hbx.kept hb
      replace hvx := hvx.below hb
      replace hvy := hvy.below hb
      replace hv := hv.below hb
      replace htx := htx.below hb
      replace hty := hty.below hb
      replace ht := ht.below hb
      replace hax := hax.below hb
      replace hay := hay.below hb
      replace ha := ha.below hb
      replace hjx := hjx.below hb
      replace hjy := hjy.below hb
      replace hj := hj.below hb
      replace hcx := hcx.below hb
      replace hcy := hcy.below hb
      replace hc := hc.below hb
      replace hex := hex.below hb
      replace hey := hey.below hb
      replace he := he.below hb
      replace hix := hix.below hb
      replace hiy := hiy.below hb
      replace hi := hi.below hb
      replace hxx := hxx.below hb
      replace hxy := hxy.below hb
      replace hx := hx.below hb
      replace hyx := hyx.below hb
      replace hyy := hyy.below hb
      replace hy := hy.below hb
      replace hbf := hbf.trans (hb.mono hbf.size)
      clear hb
      have eg0 := hbg.c0
      have eg1 := hbg.c1
      go_wp2_with fail
      refine (next_any E F d _ c on HN2 hE2 hE hF1 hF hd64).mono ?_
      rintro e w27 ⟨rfl, hb⟩
      clear eg0 eg1
      replace hbg := hbg.kept hb
      replace hbr := hbr.kept hb
      replace hbs := hbs.kept hb
      replace hba := hba.kept hb
      replace hbh := hbh.kept hb
      replace hbi := hbi.kept hb
      replace hbx := hbx.kept hb
      replace hby := hby.kept hb
      replace hvx := hvx.below hb
      replace hvy := hvy.below hb
      replace hv := hv.below hb
      replace htx := htx.below hb
      replace hty := hty.below hb
      replace ht := ht.below hb
      replace hax := hax.below hb
      replace hay := hay.below hb
      replace ha := ha.below hb
      replace hjx := hjx.below hb
      replace hjy := hjy.below hb
      replace hj := hj.below hb
      replace hcx := hcx.below hb
      replace hcy := hcy.below hb
      replace hc := hc.below hb
      replace hex := hex.below hb
      replace hey := hey.below hb
      replace he := he.below hb
      replace hix := hix.below hb
      replace hiy := hiy.below hb
      replace hi := hi.below hb
      replace hxx := hxx.below hb
      replace hxy := hxy.below hb
      replace hx := hx.below hb
      replace hyx := hyx.below hb
      replace hyy := hyy.below hb
      replace hy := hy.below hb
      replace hbf := hbf.trans (hb.mono hbf.size)
      clear hb
      have eg0 := hbg.c0
      have eg1 := hbg.c1
      go_wp2_with fail
      refine (decode_any E F c _ hE2 hE hF1 hF hc64).mono ?_
      rintro e w28 hq9
      obtain ⟨zB, zxO, zxL, zxC, zyO, zyL, zyC, rfl, hS, hzx, hzy, hz, hb⟩ := hq9.out
      have HzS := Lib.hid hS; clear hS
      clear eg0 eg1
      replace hbg := hbg.kept hb
      replace hbr := hbr.kept hb
      replace hbs := hbs.kept hb
      replace hba := hba.kept hb
      replace hbh := hbh.kept hb
      replace hbi := hbi.kept hb
      replace hbx := hbx.kept hb
      replace hby := hby.kept hb
      replace hvx := hvx.below hb
      replace hvy := hvy.below hb
      replace hv := hv.below hb
      replace htx := htx.below hb
      replace hty := hty.below hb
      replace ht := ht.below hb
      replace hax := hax.below hb
      replace hay := hay.below hb
      replace ha := ha.below hb
      replace hjx := hjx.below hb
      replace hjy := hjy.below hb
      replace hj := hj.below hb
      replace hcx := hcx.below hb
      replace hcy := hcy.below hb
      replace hc := hc.below hb
      replace hex := hex.below hb
      replace hey := hey.below hb
      replace he := he.below hb
      replace hix := hix.below hb
      replace hiy := hiy.below hb
      replace hi := hi.below hb
      replace hxx := hxx.below hb
      replace hxy := hxy.below hb
      replace hx := hx.below hb
      replace hyx := hyx.below hb
      replace hyy := hyy.below hb
      replace hy := hy.below hb
      replace hbf := hbf.trans (hb.mono hbf.size)
      clear hb
      obtain ⟨w29, hwE⟩ : ∃ W, W = (w28.alloc (.cells #[.bool zB, .slice zxO zxL zxC, .slice zyO zyL zyC] 31)) := ⟨_, rfl⟩
      have hb : Below w28.heap.size w28 w29 := by rw [hwE]; exact ((Below.refl _ w28).alloc (Nat.le_refl _) _)
      obtain ⟨pz, hpz⟩ : ∃ p, p = w28.heap.size := ⟨_, rfl⟩
      have hbz : Box3 w29 pz (Value.bool zB) (Value.slice zxO zxL zxC) (Value.slice zyO zyL zyC) := by rw [hwE, hpz]; exact ⟨by go_simp, by go_simp, by go_simp, by go_simp, by go_simp, by go_simp⟩
      replace HP : Hid (w.heap.size ≤ pg ∧ pg < pr ∧ pr < ps ∧ ps < pa ∧ pa < ph ∧ ph < pi ∧ pi < px ∧ px < py ∧ py < pz) := Lib.hid (by have h1 := HP.out; have h9 := hbf.size; have h2y := hby.lt; omega)
      have HW := Lib.hid hwE; clear hwE
      go_upto_region 28 with fail
      rw [← HW.out, ← hpz]
      clear hpz HW
      replace hbg := hbg.kept hb
      replace hbr := hbr.kept hb
      replace hbs := hbs.kept hb
      replace hba := hba.kept hb
      replace hbh := hbh.kept hb
      replace hbi := hbi.kept hb
      replace hbx := hbx.kept hb
      replace hby := hby.kept hb
      replace hvx := hvx.below hb
      replace hvy := hvy.below hb
      replace hv := hv.below hb
      replace htx := htx.below hb
      replace hty := hty.below hb
      replace ht := ht.below hb
      replace hax := hax.below hb
      replace hay := hay.below hb
      replace ha := ha.below hb
      replace hjx := hjx.below hb
      replace hjy := hjy.below hb
      replace hj := hj.below hb
      replace hcx := hcx.below hb
      replace hcy := hcy.below hb
      replace hc := hc.below hb
      replace hex := hex.below hb
      replace hey := hey.below hb
      replace he := he.below hb
      replace hix := hix.below hb
      replace hiy := hiy.below hb
      replace hi := hi.below hb
      replace hxx := hxx.below hb
      replace hxy := hxy.below hb
      replace hx := hx.below hb
      replace hyx := hyx.below hb
      replace hyy := hyy.below hb
      replace hy := hy.below hb
      replace hzx := hzx.below hb
      replace hzy := hzy.below hb
      replace hz := hz.below hb
      replace hbf := hbf.trans (hb.mono hbf.size)
      clear hb
      have ey0 := hby.c0
      have ey1 := hby.c1
      have ey2 := hby.c2
      have ex0 := hbx.c0
      have ex1 := hbx.c1
      have ex2 := hbx.c2
      go_wp2_with fail
      refine (qcmp_c _ _ (dval' E F d) qx z1 66 61 _ hy hx hqd hqx (by decide) HZ1).mono ?_
      rintro e w30 ⟨rfl, hb⟩
      clear ey0 ey1 ey2 ex0 ex1 ex2
      replace hbg := hbg.kept hb
      replace hbr := hbr.kept hb
      replace hbs := hbs.kept hb
      replace hba := hba.kept hb
      replace hbh := hbh.kept hb
      replace hbi := hbi.kept hb
      replace hbx := hbx.kept hb
      replace hby := hby.kept hb
      replace hbz := hbz.kept hb
      replace hvx := hvx.below hb
      replace hvy := hvy.below hb
      replace hv := hv.below hb
      replace htx := htx.below hb
      replace hty := hty.below hb
      replace ht := ht.below hb
      replace hax := hax.below hb
      replace hay := hay.below hb
      replace ha := ha.below hb
      replace hjx := hjx.below hb
      replace hjy := hjy.below hb
      replace hj := hj.below hb
      replace hcx := hcx.below hb
      replace hcy := hcy.below hb
      replace hc := hc.below hb
      replace hex := hex.below hb
      replace hey := hey.below hb
      replace he := he.below hb
      replace hix := hix.below hb
      replace hiy := hiy.below hb
      replace hi := hi.below hb
      replace hxx := hxx.below hb
      replace hxy := hxy.below hb
      replace hx := hx.below hb
      replace hyx := hyx.below hb
      replace hyy := hyy.below hb
      replace hy := hy.below hb
      replace hzx := hzx.below hb
      replace hzy := hzy.below hb
      replace hz := hz.below hb
      replace hbf := hbf.trans (hb.mono hbf.size)
      clear hb
      cases on
      case false =>
        go_wp2_with fail
        go_ret
        exact ⟨rfl, hbf⟩
      case true =>
        have ez0 := hbz.c0
        have ez1 := hbz.c1
        have ez2 := hbz.c2
        have ex0 := hbx.c0
        have ex1 := hbx.c1
        have ex2 := hbx.c2
        go_wp2_with fail
        refine (qcmp_c _ _ (dval' E F c) qx 1 66 61 _ hz hx hqc hqx (by decide) (Lib.hid (HGT.out (by trivial)))).mono ?_
        rintro e w31 ⟨rfl, hb⟩
        clear ez0 ez1 ez2 ex0 ex1 ex2
        replace hbg := hbg.kept hb
        replace hbr := hbr.kept hb
        replace hbs := hbs.kept hb
        replace hba := hba.kept hb
        replace hbh := hbh.kept hb
        replace hbi := hbi.kept hb
        replace hbx := hbx.kept hb
        replace hby := hby.kept hb
        replace hbz := hbz.kept hb
        replace hvx := hvx.below hb
        replace hvy := hvy.below hb
        replace hv := hv.below hb
        replace htx := htx.below hb
        replace hty := hty.below hb
        replace ht := ht.below hb
        replace hax := hax.below hb
        replace hay := hay.below hb
        replace ha := ha.below hb
        replace hjx := hjx.below hb
        replace hjy := hjy.below hb
        replace hj := hj.below hb
        replace hcx := hcx.below hb
        replace hcy := hcy.below hb
        replace hc := hc.below hb
        replace hex := hex.below hb
        replace hey := hey.below hb
        replace he := he.below hb
        replace hix := hix.below hb
        replace hiy := hiy.below hb
        replace hi := hi.below hb
        replace hxx := hxx.below hb
        replace hxy := hxy.below hb
        replace hx := hx.below hb
        replace hyx := hyx.below hb
        replace hyy := hyy.below hb
        replace hy := hy.below hb
        replace hzx := hzx.below hb
        replace hzy := hzy.below hb
        replace hz := hz.below hb
        replace hbf := hbf.trans (hb.mono hbf.size)
        clear hb
        go_wp2_with fail
        go_ret
        exact ⟨rfl, hbf⟩

theorem ieeeNext_walk (a0 a1 : Int) (a2 : ByteArray) (w0 : (Lit.int .i64 a0).wf = true) (w1 : (Lit.int .u64 a1).wf = true) (w2 : a2.size ≤ maxLen) (w : World) :
    Calls Tryd.prog 6 #[.int .i64 a0, .int .u64 a1, .string a2] w fun e w' => e = .returned (.bool true) ∧ Below w.heap.size w w' := by
  obtain ⟨l, rfl, _⟩ := bytes_of a2
  obtain ⟨E, F, hL⟩ := looked a0
  have h1 := wf_u64 w1
  rw [← Int.toNat_of_nonneg h1.1]
  by_cases h : l.length ≤ 60
  · exact ieeeNext_main a0 a1.toNat l E F w (Lib.hid hL) (by omega) h
  · exact ieeeNext_early a0 a1.toNat E F (Lib.hid hL) l w (by omega)
end Go.Proofs.YtanicapbdigjaaaDoor
