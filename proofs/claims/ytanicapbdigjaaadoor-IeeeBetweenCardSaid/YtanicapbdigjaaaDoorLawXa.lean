/-
  IeeeBetween: the walk.
-/
import Derived.Test.YtanicapbdigjaaaDoorIeeeF
namespace Go.Proofs.YtanicapbdigjaaaDoor
open Go.RowKit
set_option linter.unusedVariables false
set_option linter.unusedSimpArgs false
attribute [local go_sem] field_nat

set_option maxRecDepth 100000 in
set_option maxHeartbeats 1000000 in
theorem ieeeBetween_early (how : Int) (l : List UInt8) (w : World) (h1 : (60 : Int) < ((l.length : Nat) : Int)) :
    Calls Tryd.prog 7 #[.int .i64 how, .string ⟨l.toArray⟩] w fun e w' => e = .returned (.bool true) ∧ Below w.heap.size w w' := by
  go_enter Tryd.func7, Tryd.ntmps7
  go_wp2_with fail
  refine (alive4_any _).mono ?_
  rintro e w1 ⟨rfl, hb⟩
  have hbf := hb
  clear hb
  go_wp2_with fail
  go_ret
  exact ⟨rfl, hbf⟩

set_option maxRecDepth 100000 in
set_option maxHeartbeats 1000000 in
/-- IeeeBetween. -/
theorem ieeeBetween_main (how : Int) (l : List UInt8) (E F : Nat) (w : World) (HL : Hid (Looked (bits .and .i64 how 2) E F)) (hl : l.length ≤ 60) :
    Calls Tryd.prog 7 #[.int .i64 how, .string ⟨l.toArray⟩] w fun e w' => e = .returned (.bool true) ∧ Below w.heap.size w w' := by
  have hE2 := HL.out.ok.1
  have hE : E ≤ 11 := by have := HL.out.ok.2.1; omega
  have hF1 := HL.out.ok.2.2.1
  have hF : F ≤ 52 := by have := HL.out.ok.2.2.2; omega
  have k1 : ¬ (60 : Int) < ((l.length : Nat) : Int) := by omega
  have hqr := QB.val (l := l) (K := 61) (by omega)
  obtain ⟨qr, hre⟩ : ∃ a, a = qval l := ⟨_, rfl⟩
  obtain ⟨kr, hrc⟩ : ∃ c, c = qcode l := ⟨_, rfl⟩
  rw [← hre] at hqr
  have HrE := Lib.hid hre
  have HrC := Lib.hid hrc
  clear hre hrc
  obtain ⟨n, hu⟩ := under_exists (E := E) (F := F) (r := qabs qr) (by omega) (qabs_nonneg qr)
  obtain ⟨a, x, HBE⟩ : ∃ (a : Nat) (x : Bool), Hid ((a, x) = fbelow E F qr n) := ⟨(fbelow E F qr n).1, (fbelow E F qr n).2, Lib.hid rfl⟩
  obtain ⟨b, y, HAB⟩ : ∃ (a : Nat) (x : Bool), Hid ((a, x) = fabove E F qr n) := ⟨(fabove E F qr n).1, (fabove E F qr n).2, Lib.hid rfl⟩
  obtain ⟨p, ok, HEX⟩ : ∃ (a : Nat) (x : Bool), Hid ((a, x) = fexact E F qr n) := ⟨(fexact E F qr n).1, (fexact E F qr n).2, Lib.hid rfl⟩
  obtain ⟨m, HNE⟩ : ∃ m, Hid (m = fnear E F qr n) := ⟨_, Lib.hid rfl⟩
  have ha64 : a < 18446744073709551616 := by have h := below_lt (r := qr) hE hF hu.lt; rw [← HBE.out] at h; exact h
  go_enter Tryd.func7, Tryd.ntmps7
  go_wp2_with fail
  refine (alive4_any _).mono ?_
  rintro e w1 ⟨rfl, hb⟩
  have hbf := hb
  clear hb
  go_wp2_with fail
  refine (form_fix _ E F _ HL).mono ?_
  rintro e w2 ⟨rfl, hb⟩
  replace hbf := hbf.trans (hb.mono hbf.size)
  clear hb
  obtain ⟨w3, hwE⟩ : ∃ W, W = (w2.alloc (.cells #[.int .i64 (E : Int), .int .i64 (F : Int)] 25)) := ⟨_, rfl⟩
  have hb : Below w2.heap.size w2 w3 := by rw [hwE]; exact ((Below.refl _ w2).alloc (Nat.le_refl _) _)
  obtain ⟨pg, hpg⟩ : ∃ p, p = w2.heap.size := ⟨_, rfl⟩
  have hbg : Box2 w3 pg (Value.int .i64 (E : Int)) (Value.int .i64 (F : Int)) := by rw [hwE, hpg]; exact ⟨by go_simp, by go_simp, by go_simp, by go_simp⟩
  have HP : Hid (w.heap.size ≤ pg) := Lib.hid (by have h9 := hbf.size; omega)
  have HW := Lib.hid hwE; clear hwE
  go_upto_region 4 with fail
  rw [← HW.out, ← hpg]
  clear hpg HW
  replace hbf := hbf.trans (hb.mono hbf.size)
  clear hb
  go_wp2_with fail
  refine (qparse_main l _ qr kr HrE HrC (by omega)).mono ?_
  rintro e w4 hq9
  obtain ⟨xB, xxO, xxL, xxC, xyO, xyL, xyC, rfl, hS, hxx, hxy, hx, hb⟩ := hq9.out
  have HxS := Lib.hid hS; clear hS
  replace hbg := hbg.kept hb
  replace hbf := hbf.trans (hb.mono hbf.size)
  clear hb
  obtain ⟨w5, hwE⟩ : ∃ W, W = (w4.alloc (.cells #[.bool xB, .slice xxO xxL xxC, .slice xyO xyL xyC] 31)) := ⟨_, rfl⟩
  have hb : Below w4.heap.size w4 w5 := by rw [hwE]; exact ((Below.refl _ w4).alloc (Nat.le_refl _) _)
  obtain ⟨pr, hpr⟩ : ∃ p, p = w4.heap.size := ⟨_, rfl⟩
  have hbr : Box3 w5 pr (Value.bool xB) (Value.slice xxO xxL xxC) (Value.slice xyO xyL xyC) := by rw [hwE, hpr]; exact ⟨by go_simp, by go_simp, by go_simp, by go_simp, by go_simp, by go_simp⟩
  replace HP : Hid (w.heap.size ≤ pg ∧ pg < pr) := Lib.hid (by have h1 := HP.out; have h9 := hbf.size; have h2g := hbg.lt; omega)
  have HW := Lib.hid hwE; clear hwE
  go_upto_region 5 with fail
  rw [← HW.out, ← hpr]
  clear hpr HW
  replace hbg := hbg.kept hb
  replace hxx := hxx.below hb
  replace hxy := hxy.below hb
  replace hx := hx.below hb
  replace hbf := hbf.trans (hb.mono hbf.size)
  clear hb
  by_cases hk0 : kr = 0
  case neg =>
    have hkb : (kr == 0) = false := by rw [beq_eq_false_iff_ne]; exact hk0
    have hkb2 : (kr != 0) = true := by rw [bne, hkb]; rfl
    go_wp2_with fail
    go_ret
    exact ⟨rfl, hbf⟩
  subst hk0
  have eg0 := hbg.c0
  have eg1 := hbg.c1
  have er0 := hbr.c0
  have er1 := hbr.c1
  have er2 := hbr.c2
  go_wp2_with fail
  refine (below_any E F n 61 _ qr _ a x HBE hE2 hE hF1 hF hx hqr (by decide) hu).mono ?_
  rintro e w6 ⟨rfl, hb⟩
  clear eg0 eg1 er0 er1 er2
  replace hbg := hbg.kept hb
  replace hbr := hbr.kept hb
  replace hxx := hxx.below hb
  replace hxy := hxy.below hb
  replace hx := hx.below hb
  replace hbf := hbf.trans (hb.mono hbf.size)
  clear hb
  have eg0 := hbg.c0
  have eg1 := hbg.c1
  have er0 := hbr.c0
  have er1 := hbr.c1
  have er2 := hbr.c2
  go_wp2_with fail
  refine (above_any E F n 61 _ qr _ b y HAB hE2 hE hF1 hF hx hqr (by decide) hu).mono ?_
  rintro e w7 ⟨rfl, hb⟩
  clear eg0 eg1 er0 er1 er2
  replace hbg := hbg.kept hb
  replace hbr := hbr.kept hb
  replace hxx := hxx.below hb
  replace hxy := hxy.below hb
  replace hx := hx.below hb
  replace hbf := hbf.trans (hb.mono hbf.size)
  clear hb
  have eg0 := hbg.c0
  have eg1 := hbg.c1
  have er0 := hbr.c0
  have er1 := hbr.c1
  have er2 := hbr.c2
  go_wp2_with fail
  refine (nearest_any E F n 61 _ qr _ m HNE hE2 hE hF1 hF hx hqr (by decide) hu).mono ?_
  rintro e w8 ⟨rfl, hb⟩
  clear eg0 eg1 er0 er1 er2
  replace hbg := hbg.kept hb
  replace hbr := hbr.kept hb
  replace hxx := hxx.below hb
  replace hxy := hxy.below hb
  replace hx := hx.below hb
  replace hbf := hbf.trans (hb.mono hbf.size)
  clear hb
  have eg0 := hbg.c0
  have eg1 := hbg.c1
  have er0 := hbr.c0
  have er1 := hbr.c1
  have er2 := hbr.c2
  go_wp2_with fail
  refine (exact_any E F n 61 _ qr _ p ok HEX hE2 hE hF1 hF hx hqr (by decide) hu).mono ?_
  rintro e w9 ⟨rfl, hb⟩
  clear eg0 eg1 er0 er1 er2
  replace hbg := hbg.kept hb
  replace hbr := hbr.kept hb
  replace hxx := hxx.below hb
  replace hxy := hxy.below hb
  replace hx := hx.below hb
  replace hbf := hbf.trans (hb.mono hbf.size)
  clear hb
  cases ok
  case false =>
    cases x
    case false =>
      go_wp2_with fail
      go_ret
      exact ⟨rfl, hbf⟩
    case true =>
      cases y
      case false =>
        go_wp2_with fail
        go_ret
        exact ⟨rfl, hbf⟩
      case true =>
        obtain ⟨h1, h2⟩ := between_off (by omega) hu HBE.out HAB.out HNE.out HEX.out
        have HN := Lib.hid h1
        clear h1
        have eg0 := hbg.c0
        have eg1 := hbg.c1
        go_wp2_with fail
        refine (next_any E F a _ b true HN hE2 hE hF1 hF ha64).mono ?_
        rintro e w10 ⟨rfl, hb⟩
        clear eg0 eg1
        replace hbg := hbg.kept hb
        replace hbr := hbr.kept hb
        replace hxx := hxx.below hb
        replace hxy := hxy.below hb
        replace hx := hx.below hb
        replace hbf := hbf.trans (hb.mono hbf.size)
        clear hb
        have hcb : ((b : Int) == (b : Int)) = true := beq_self_eq_true _
        by_cases h3 : m = a
        case pos =>
          subst h3
          have hma : ((m : Int) == (m : Int)) = true := beq_self_eq_true _
          go_wp2_with fail
          go_ret
          exact ⟨rfl, hbf⟩
        case neg =>
          obtain rfl : m = b := h2.resolve_left h3
          have hma : ((m : Int) == (a : Int)) = false := by rw [beq_eq_false_iff_ne, ne_eq]; omega
          go_wp2_with fail
          go_ret
          exact ⟨rfl, hbf⟩
  case true =>
    obtain ⟨rfl, rfl, rfl, rfl, rfl⟩ := between_exact (by omega) hu HBE.out HAB.out HNE.out HEX.out
    have hcb : ((m : Int) == (m : Int)) = true := beq_self_eq_true _
    go_wp2_with fail
    go_ret
    exact ⟨rfl, hbf⟩

theorem ieeeBetween_walk (a0 : Int) (a1 : ByteArray) (w0 : (Lit.int .i64 a0).wf = true) (w1 : a1.size ≤ maxLen) (w : World) :
    Calls Tryd.prog 7 #[.int .i64 a0, .string a1] w fun e w' => e = .returned (.bool true) ∧ Below w.heap.size w w' := by
  obtain ⟨l, rfl, _⟩ := bytes_of a1
  obtain ⟨E, F, hL⟩ := looked a0
  by_cases h : l.length ≤ 60
  · exact ieeeBetween_main a0 l E F w (Lib.hid hL) h
  · exact ieeeBetween_early a0 l w (by omega)
end Go.Proofs.YtanicapbdigjaaaDoor
