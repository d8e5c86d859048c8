/-
  Pc20: RunP (what is needed of them).
-/
import Derived.Test.YtieffhkfefimeaaGreatDoorPc01
import Derived.Test.YtieffhkfefimeaaGreatDoorPc07
import Derived.Test.YtieffhkfefimeaaGreatDoorPc08
import Derived.Test.YtieffhkfefimeaaGreatDoorPc17
import Derived.Test.YtieffhkfefimeaaGreatDoorPc18
import Derived.Test.YtieffhkfefimeaaGreatDoorPc19
set_option maxRecDepth 100000
set_option linter.unusedVariables false
set_option linter.unusedSimpArgs false

namespace Go.Proofs.YtieffhkfefimeaaGreatDoor

def rk (k : Int) : Int := if k = 3 then -1 else if k = 2 then 1 else 0
theorem rk_lo (k : Int) : -1 ≤ rk k ∧ rk k ≤ 1 := by unfold rk; split; · decide
                                                     split <;> decide
def pcmp (k m : Int) (p q : Rat) : Int := if rk k - rk m = 0 then qcmp p q else rk k - rk m
def modeP (mode c : Int) : Bool :=
 if mode = 1 then decide (c ≤ 0) else if mode = 2 then decide (c < 0) else if mode = 3 then decide (0 ≤ c) else if mode = 4 then decide (0 < c) else if mode = 5 then decide (c = 0) else if mode = 6 then decide (¬ c = 0) else false
def takesK (mode k m : Int) (p q : Rat) (tracks : Bool) : Bool := if k = 4 then tracks else if m = 4 then false else modeP mode (pcmp k m p q)
def takesP (mode : Int) (v : Nat) (tracks : Bool) (x : Nat) : Bool := takesK mode (dkind 8 23 x) (dkind 8 23 v) (dval' 8 23 x) (dval' 8 23 v) tracks
end Go.Proofs.YtieffhkfefimeaaGreatDoor
namespace Go.Proofs.YtieffhkfefimeaaGreatDoor

theorem upK_spec (k : Nat) : ∀ (l : List Nat) (up up' : List Int), upK k l up = some up' → (∀ a ∈ l, up'[a]? = some (k : Int)) ∧ (∀ j : Nat, up[j]?.getD 0 ≠ -1 → up'[j]? = up[j]?) ∧ up'.length = up.length := by
 intro l
 induction l with
 | nil => intro up up' h; cases h; exact ⟨fun a h => (by cases h), fun _ _ => rfl, rfl⟩
 | cons a r ih =>
  intro up up' h
  rw [upK] at h
  split at h
  ·cases h
  ·rename_i h0
   have h0 : up[a]?.getD 0 = -1 := Classical.byContradiction fun h => h0 h
   obtain ⟨h1, h2, hlen⟩ := ih _ _ h
   have hal : a < up.length := by
    rcases Nat.lt_or_ge a up.length with h | h
    ·exact h
    ·rw [List.getElem?_eq_none h] at h0; cases h0
   have hset : (up.set a (k : Int))[a]? = some (k : Int) := by rw [List.getElem?_set_self hal]
   refine ⟨fun b hb => ?_, fun j hj => ?_, by rw [hlen, List.length_set]⟩
   ·rcases List.mem_cons.1 hb with rfl | hb
    ·rw [h2 b (by rw [hset]; show (k : Int) ≠ -1; omega), hset]
    ·exact h1 b hb
   ·have hja : j ≠ a := fun e => hj (by rw [e]; exact h0)
    have hs : (up.set a (k : Int))[j]? = up[j]? := by rw [List.getElem?_set_ne (Ne.symm hja)]
    rw [h2 j (by rw [hs]; exact hj), hs]
theorem upL_spec (ns : List EN) : ∀ (l : List Nat) (up up' : List Int), upL ns l up = some up' → (∀ k ∈ l, ∀ a ∈ kidsE ns ns[k]!, up'[a]? = some (k : Int)) ∧ (∀ j : Nat, up[j]?.getD 0 ≠ -1 → up'[j]? = up[j]?) ∧ up'.length = up.length := by
 intro l
 induction l with
 | nil => intro up up' h; cases h; exact ⟨fun a h => (by cases h), fun _ _ => rfl, rfl⟩
 | cons k r ih =>
  intro up up' h
  rw [upL] at h
  cases hk : upK k (kidsE ns ns[k]!) up with
  | none => rw [hk] at h; cases h
  | some u =>
   rw [hk] at h
   obtain ⟨h1, h2, hl1⟩ := ih u up' h
   obtain ⟨h3, h4, hl2⟩ := upK_spec k _ _ _ hk
   refine ⟨fun b hb a ha => ?_, fun j hj => ?_, hl1.trans hl2⟩
   ·rcases List.mem_cons.1 hb with rfl | hb
    ·rw [h2 a (by rw [h3 a ha]; show (b : Int) ≠ -1; omega), h3 a ha]
    ·exact h1 b hb a ha
   ·rw [h2 j (by rw [h4 j hj]; exact hj), h4 j hj]
def hU (up : List Int) : Nat → Int → Nat
 | 0, _ => 0
 | f + 1, x => if x = -1 then 0 else hU up f (up[x.toNat]?.getD (-1)) + 1
theorem hU_succ (up : List Int) (f : Nat) (x : Int) : hU up (f + 1) x = if x = -1 then 0 else hU up f (up[x.toNat]?.getD (-1)) + 1 := rfl
theorem hU_le (up : List Int) : ∀ (f : Nat) (x : Int), hU up f x ≤ f := by
 intro f
 induction f with
 | zero => intro x; exact Nat.le_refl _
 | succ f ih => intro x; rw [hU_succ]; split; exact Nat.zero_le _; have := ih (up[x.toNat]?.getD (-1)); omega
theorem hU_ok (up : List Int) : ∀ (f : Nat) (x : Int), okE up f x = true → hU up (f + 1) x = hU up f x := by
 intro f
 induction f with
 | zero =>
  intro x h
  have h0 : x = -1 := by simpa [okE] using h
  rw [hU_succ, if_pos h0]; rfl
 | succ f ih =>
  intro x h
  rw [okE] at h
  rw [hU_succ up (f + 1) x, hU_succ up f x]
  by_cases hx : x = -1
  ·rw [if_pos hx, if_pos hx]
  ·rw [if_neg hx, if_neg hx]
   have h2 : okE up f (up[x.toNat]?.getD (-1)) = true := by simpa [hx] using h
   rw [ih _ h2]
def nextE (ns : List EN) (row : List Nat) (at' : Nat) : Nat :=
 (findE ns ns[at']!.tree (if takesP ns[at']!.mode ns[at']!.val ns[at']!.trk (row[ns[at']!.feat.toNat]?.getD 0) then ns[at']!.tru else ns[at']!.fls)).getD 0
def walkE (ns : List EN) (row : List Nat) : Nat → Nat → Nat
 | 0, at' => at'
 | g + 1, at' => if ns[at']!.mode = 7 then at' else walkE ns row g (nextE ns row at')
def leftE (ns : List EN) (at' : Nat) : Nat := match upE ns with | none => 0 | some up => 39 - hU up 39 (up[at']?.getD 0)
def placeE (ns : List EN) (row : List Nat) (at' : Nat) : Nat := walkE ns row (leftE ns at') at'
theorem every_at {ns : List EN} {all : Bool} {p : EN → Bool} (h : everyE ns all p = true) {k : Nat} (hk : k < ns.length) (h1 : (all || decide (ns[k]!.mode ≠ 7)) = true) : p ns[k]! = true := by
 cases hp : p ns[k]! with
 | true => rfl
 | false =>
  have hm : ns[k]! ∈ ns := by rw [getElem!_pos ns k hk]; exact List.getElem_mem hk
  have := everyE_bad hm h1 hp
  rw [h] at this; cases this
structure StepE (e : EE) (row : List Nat) (at' : Nat) : Prop where
 lo : 0 ≤ e.nodes[at']!.feat
 hi : e.nodes[at']!.feat < e.feats
 tru : (findE e.nodes e.nodes[at']!.tree e.nodes[at']!.tru).isSome = true
 fls : (findE e.nodes e.nodes[at']!.tree e.nodes[at']!.fls).isSome = true
 next : nextE e.nodes row at' < e.nodes.length
 left : leftE e.nodes at' = leftE e.nodes (nextE e.nodes row at') + 1
theorem step_ok {e : EE} (h : checkE e = 0) (row : List Nat) {at' : Nat} (ha : at' < e.nodes.length) (hm : e.nodes[at']!.mode ≠ 7) : StepE e row at' := by
 have ho := check_ok h
 have hf := every_at ho.feat ha (by rw [Bool.false_or]; exact decide_eq_true hm)
 have hk := every_at (p := fun n => (findE e.nodes n.tree n.tru).isSome && ((findE e.nodes n.tree n.fls).isSome && decide (n.tru ≠ n.fls))) ho.kid ha (by rw [Bool.false_or]; exact decide_eq_true hm)
 simp only [decide_eq_true_eq, Bool.and_eq_true] at hf hk
 obtain ⟨hk1, hk2, hk3⟩ := hk
 have hkid : nextE e.nodes row at' ∈ kidsE e.nodes e.nodes[at']! := by
  unfold kidsE nextE
  rw [if_neg hm]
  obtain ⟨a, hA⟩ := Option.isSome_iff_exists.1 hk1
  obtain ⟨b, hB⟩ := Option.isSome_iff_exists.1 hk2
  split
  ·rw [hA]; simp
  ·rw [hB]; simp
 have hnl : nextE e.nodes row at' < e.nodes.length := by
  unfold nextE
  obtain ⟨a, hA⟩ := Option.isSome_iff_exists.1 hk1
  obtain ⟨b, hB⟩ := Option.isSome_iff_exists.1 hk2
  split
  ·rw [hA]; exact findE_lt hA
  ·rw [hB]; exact findE_lt hB
 refine ⟨hf.1, hf.2, hk1, hk2, hnl, ?_⟩
 have hF := ho.forest
 unfold forestE at hF
 unfold leftE
 cases hup : upE e.nodes with
 | none => rw [hup] at hF; cases hF
 | some up =>
  rw [hup] at hF
  simp only [Bool.and_eq_true] at hF
  have hall := fun k (hk : k < e.nodes.length) => (List.all_eq_true.1 hF.1) k (List.mem_range.2 hk)
  have hu := (upL_spec e.nodes _ _ _ hup).1 at' (List.mem_range.2 ha) _ hkid
  have h1 := hall _ hnl
  simp only
  rw [hu] at h1 ⊢
  simp only [Option.getD_some] at h1 ⊢
  have hne : ¬ ((at' : Int) = -1) := by omega
  rw [okE] at h1
  have h2 : okE up 38 (up[at']?.getD (-1)) = true := by simpa [hne] using h1
  have h3 := hall _ ha
  have hsame : up[at']?.getD (-1) = up[at']?.getD 0 := by
   cases hq : up[at']? with
   | some x => rfl
   | none =>
    exfalso
    have hl : up.length ≤ at' := List.getElem?_eq_none_iff.1 hq
    have hl2 := (upL_spec e.nodes _ _ _ hup).2.2
    rw [List.length_replicate] at hl2
    omega
  rw [hsame] at h2
  have h4 : hU up 39 (at' : Int) = hU up 38 (up[at']?.getD 0) + 1 := by
   rw [hU_succ up 38, if_neg hne]; show hU up 38 (up[at']?.getD (-1)) + 1 = _; rw [hsame]
  rw [h4, hU_ok up 38 _ h2]
  have h5 := hU_le up 38 (up[at']?.getD 0)
  omega
end Go.Proofs.YtieffhkfefimeaaGreatDoor
namespace Go.Proofs.YtieffhkfefimeaaGreatDoor
open Go.RowKit


theorem dval_qb (E F p : Nat) (hE : E ≤ 11) (hF : F ≤ 52) : QB (dval' E F p) 66 := by
 rcases Nat.lt_trichotomy (fsize E F p) (finf E F) with h1 | h1 | h1
 ·rw [(dk_fin h1).2]
  cases fneg E F p
  ·exact fval_qb hE hF h1
  ·exact (fval_qb hE hF h1).neg
 ·rw [(dk_inf h1).2]; exact QB.zero _ (by decide)
 ·rw [(dk_nan h1).2]; exact QB.zero _ (by decide)
theorem dval_qb_s {p : Nat} {q : Rat} (h : dval' 8 23 p = q) : QB q 66 := h ▸ dval_qb 8 23 p (by decide) (by decide)
theorem rank_any (k : Int) (w : World) : Calls Tryz.prog 89 #[.int .i64 k] w fun e w' => e = .returned (.int .i64 (rk k)) ∧ Below w.heap.size w w' := by
 obtain ⟨r, hr⟩ : ∃ r, rk k = r := ⟨_, rfl⟩
 rw [hr]
 by_cases h3 : k = 3
 ·subst h3
  obtain rfl : r = -1 := hr.symm
  go_enter Tryz.func89, Tryz.ntmps89
  go_wp2_with fail
  go_ret
  exact ⟨rfl, Below.refl _ _⟩
 ·by_cases h2 : k = 2
  ·subst h2
   obtain rfl : r = 1 := hr.symm
   go_enter Tryz.func89, Tryz.ntmps89
   go_wp2_with fail
   go_ret
   exact ⟨rfl, Below.refl _ _⟩
  ·obtain rfl : r = 0 := by rw [← hr]; unfold rk; rw [if_neg h3, if_neg h2]
   have e3 : (k == 3) = false := by simpa using h3
   have e2 : (k == 2) = false := by simpa using h2
   clear h3 h2 hr
   go_enter Tryz.func89, Tryz.ntmps89
   go_wp2_with fail
   go_ret
   exact ⟨rfl, Below.refl _ _⟩
theorem rank_r (k r : Int) (w : World) (hr : Hid (rk k = r)) : Calls Tryz.prog 89 #[.int .i64 k] w fun e w' => e = .returned (.int .i64 r) ∧ Below w.heap.size w w' := by
 have h := rank_any k w
 rwa [hr.out] at h
theorem qcmp_r (va vc : Value) (a c : Rat) (k : Int) (i j : Nat) (w : World) (ha : QIs w va a) (hc : QIs w vc c) (hla : QB a i) (hlc : QB c j) (hij : i + j ≤ 90000) (hk : Hid (qcmp a c = k)) :
  Calls Tryz.prog 90 #[va, vc] w fun e w' => e = .returned (.int .i64 k) ∧ Below w.heap.size w w' := by
 have := qcmp_any va vc a c i j w ha hc hla hlc hij
 rwa [hk.out] at this
set_option maxHeartbeats 1000000 in
theorem compare_any (a b : Nat) (k m c : Int) (p q : Rat) (w : World) (hk : Hid (dkind 8 23 a = k)) (hm : Hid (dkind 8 23 b = m)) (hp : Hid (dval' 8 23 a = p)) (hq : Hid (dval' 8 23 b = q)) (ha64 : a < 18446744073709551616) (hb64 : b < 18446744073709551616) (hc : Hid (pcmp k m p q = c)) :
  Calls Tryz.prog 32 #[.int .u64 (a : Int), .int .u64 (b : Int)] w fun e w' => e = .returned (.int .i64 c) ∧ Below w.heap.size w w' := by
 obtain ⟨r, hr⟩ : ∃ r, rk k = r := ⟨_, rfl⟩
 obtain ⟨s, hs⟩ : ∃ s, rk m = s := ⟨_, rfl⟩
 have hrl := rk_lo k
 have hsl := rk_lo m
 rw [hr] at hrl
 rw [hs] at hsl
 have HR := Lib.hid hr
 have HS := Lib.hid hs
 have hC : c = if r - s = 0 then qcmp p q else r - s := by rw [← hc.out, ← hr, ← hs]; rfl
 have HC := Lib.hid hC
 have hwr : IntKind.i64.wrap (r - s) = r - s := IntWalk.i64_in _ ⟨by omega, by omega⟩
 clear hr hs hC hrl hsl
 obtain ⟨x9, hx9⟩ : ∃ x, x = r - s := ⟨_, rfl⟩
 rw [← hx9] at hwr
 have HX := Lib.hid hx9
 clear hx9
 have HWR := Lib.hid hwr
 clear hwr
 go_enter Tryz.func32, Tryz.ntmps32
 go_wp2_with fail
 refine (single_any _).mono ?_
 rintro e w1 ⟨rfl, hb⟩
 have hbf := hb
 clear hb
 go_wp2_with fail
 refine (decode_s a k p _ hk hp ha64).mono ?_
 rintro e w2 hq9
 obtain ⟨xB, xxO, xxL, xxC, xyO, xyL, xyC, rfl, hS, hxx, hxy, hx, hb⟩ := hq9.out
 have HxS := Lib.hid hS; clear hS
 replace hbf := hbf.trans (hb.mono hbf.size)
 clear hb
 obtain ⟨w3, hwE⟩ : ∃ W, W = (w2.alloc (.cells #[.bool xB, .slice xxO xxL xxC, .slice xyO xyL xyC] 81)) := ⟨_, rfl⟩
 have hb : Below w2.heap.size w2 w3 := by rw [hwE]; exact ((Below.refl _ w2).alloc (Nat.le_refl _) _)
 obtain ⟨pr, hpr⟩ : ∃ p, p = w2.heap.size := ⟨_, rfl⟩
 have hbr : Box3 w3 pr (Value.bool xB) (Value.slice xxO xxL xxC) (Value.slice xyO xyL xyC) := by rw [hwE, hpr]; exact ⟨by go_simp, by go_simp, by go_simp, by go_simp, by go_simp, by go_simp⟩
 have HP : Hid (w.heap.size ≤ pr) := Lib.hid (by have h9 := hbf.size; omega)
 have HW := Lib.hid hwE; clear hwE
 go_upto_region 2 with fail
 rw [← HW.out, ← hpr]
 clear hpr HW
 replace hxx := hxx.below hb
 replace hxy := hxy.below hb
 replace hx := hx.below hb
 replace hbf := hbf.trans (hb.mono hbf.size)
 clear hb
 go_wp2_with fail
 refine (single_any _).mono ?_
 rintro e w4 ⟨rfl, hb⟩
 replace hbr := hbr.kept hb
 replace hxx := hxx.below hb
 replace hxy := hxy.below hb
 replace hx := hx.below hb
 replace hbf := hbf.trans (hb.mono hbf.size)
 clear hb
 go_wp2_with fail
 refine (decode_s b m q _ hm hq hb64).mono ?_
 rintro e w5 hq9
 obtain ⟨yB, yxO, yxL, yxC, yyO, yyL, yyC, rfl, hS, hyx, hyy, hy, hb⟩ := hq9.out
 have HyS := Lib.hid hS; clear hS
 replace hbr := hbr.kept hb
 replace hxx := hxx.below hb
 replace hxy := hxy.below hb
 replace hx := hx.below hb
 replace hbf := hbf.trans (hb.mono hbf.size)
 clear hb
 obtain ⟨w6, hwE⟩ : ∃ W, W = (w5.alloc (.cells #[.bool yB, .slice yxO yxL yxC, .slice yyO yyL yyC] 81)) := ⟨_, rfl⟩
 have hb : Below w5.heap.size w5 w6 := by rw [hwE]; exact ((Below.refl _ w5).alloc (Nat.le_refl _) _)
 obtain ⟨ps, hps⟩ : ∃ p, p = w5.heap.size := ⟨_, rfl⟩
 have hbs : Box3 w6 ps (Value.bool yB) (Value.slice yxO yxL yxC) (Value.slice yyO yyL yyC) := by rw [hwE, hps]; exact ⟨by go_simp, by go_simp, by go_simp, by go_simp, by go_simp, by go_simp⟩
 replace HP : Hid (w.heap.size ≤ pr ∧ pr < ps) := Lib.hid (by have h1 := HP.out; have h9 := hbf.size; have h2r := hbr.lt; omega)
 have HW := Lib.hid hwE; clear hwE
 go_upto_region 3 with fail
 rw [← HW.out, ← hps]
 clear hps HW
 replace hbr := hbr.kept hb
 replace hxx := hxx.below hb
 replace hxy := hxy.below hb
 replace hx := hx.below hb
 replace hyx := hyx.below hb
 replace hyy := hyy.below hb
 replace hy := hy.below hb
 replace hbf := hbf.trans (hb.mono hbf.size)
 clear hb
 go_wp2_with fail
 refine (rank_r k r _ HR).mono ?_
 rintro e w7 ⟨rfl, hb⟩
 replace hbr := hbr.kept hb
 replace hbs := hbs.kept hb
 replace hxx := hxx.below hb
 replace hxy := hxy.below hb
 replace hx := hx.below hb
 replace hyx := hyx.below hb
 replace hyy := hyy.below hb
 replace hy := hy.below hb
 replace hbf := hbf.trans (hb.mono hbf.size)
 clear hb
 go_wp2_with fail
 refine (rank_r m s _ HS).mono ?_
 rintro e w8 ⟨rfl, hb⟩
 replace hbr := hbr.kept hb
 replace hbs := hbs.kept hb
 replace hxx := hxx.below hb
 replace hxy := hxy.below hb
 replace hx := hx.below hb
 replace hyx := hyx.below hb
 replace hyy := hyy.below hb
 replace hy := hy.below hb
 replace hbf := hbf.trans (hb.mono hbf.size)
 clear hb
 have hwr : IntKind.i64.wrap (r - s) = x9 := by have := HWR.out; rw [HX.out] at this ⊢; exact this
 by_cases h0 : x9 = 0
 ·have hc2 : qcmp p q = c := by rw [HC.out, if_pos (HX.out.symm.trans h0)]
  subst h0
  have er0 := hbr.c0
  have er1 := hbr.c1
  have er2 := hbr.c2
  have es0 := hbs.c0
  have es1 := hbs.c1
  have es2 := hbs.c2
  clear er0 er1 er2 es0 es1 es2
  have er0 := hbr.c0
  have er1 := hbr.c1
  have er2 := hbr.c2
  have es0 := hbs.c0
  have es1 := hbs.c1
  have es2 := hbs.c2
  go_wp2_with fail
  refine (qcmp_r _ _ p q c 66 66 _ hx hy (dval_qb_s hp.out) (dval_qb_s hq.out) (by decide) (Lib.hid hc2)).mono ?_
  rintro e w9 ⟨rfl, hb⟩
  clear er0 er1 er2 es0 es1 es2
  replace hbr := hbr.kept hb
  replace hbs := hbs.kept hb
  replace hxx := hxx.below hb
  replace hxy := hxy.below hb
  replace hx := hx.below hb
  replace hyx := hyx.below hb
  replace hyy := hyy.below hb
  replace hy := hy.below hb
  replace hbf := hbf.trans (hb.mono hbf.size)
  clear hb
  go_wp2_with fail
  go_ret
  exact ⟨rfl, hbf⟩
 ·have hc2 : c = x9 := by rw [HC.out, if_neg (fun h => h0 (HX.out.trans h))]; exact HX.out.symm
  have e0 : (x9 == 0) = false := by simpa using h0
  subst hc2
  clear h0
  go_wp2_with fail
  go_ret
  exact ⟨rfl, hbf⟩
set_option maxHeartbeats 1000000 in
theorem takes_any (mode : Int) (v : Nat) (tracks : Bool) (x : Nat) (t : Bool) (w : World) (hv64 : v < 18446744073709551616) (hx64 : x < 18446744073709551616) (ht : Hid (takesP mode v tracks x = t)) :
  Calls Tryz.prog 9 #[.int .i64 mode, .int .u64 (v : Int), .bool tracks, .int .u64 (x : Int)] w fun e w' => e = .returned (.bool t) ∧ Below w.heap.size w w' := by
 obtain ⟨k, hk⟩ : ∃ k, dkind 8 23 x = k := ⟨_, rfl⟩
 obtain ⟨m, hm⟩ : ∃ m, dkind 8 23 v = m := ⟨_, rfl⟩
 obtain ⟨p, hp⟩ : ∃ p, dval' 8 23 x = p := ⟨_, rfl⟩
 obtain ⟨q, hq⟩ : ∃ q, dval' 8 23 v = q := ⟨_, rfl⟩
 obtain ⟨c, hc⟩ : ∃ c, pcmp k m p q = c := ⟨_, rfl⟩
 have hR : t = if k = 4 then tracks else if m = 4 then false else modeP mode c := by rw [← ht.out, ← hc, ← hk, ← hm, ← hp, ← hq]; rfl
 have HR := Lib.hid hR
 have HK := Lib.hid hk
 have HM := Lib.hid hm
 have HPP := Lib.hid hp
 have HQ := Lib.hid hq
 have HC := Lib.hid hc
 clear hk hm hp hq hc hR ht
 go_enter Tryz.func9, Tryz.ntmps9
 go_wp2_with fail
 refine (single_any _).mono ?_
 rintro e w1 ⟨rfl, hb⟩
 have hbf := hb
 clear hb
 go_wp2_with fail
 refine (decode_s x k p _ HK HPP hx64).mono ?_
 rintro e w2 hq9
 obtain ⟨xB, xxO, xxL, xxC, xyO, xyL, xyC, rfl, hS, hxx, hxy, hx, hb⟩ := hq9.out
 have HxS := Lib.hid hS; clear hS
 replace hbf := hbf.trans (hb.mono hbf.size)
 clear hb
 have hb0 : Below w2.heap.size w2 (w2.alloc (.cells #[.bool xB, .slice xxO xxL xxC, .slice xyO xyL xyC] 81)) := (Below.refl _ _).alloc (Nat.le_refl _) _
 by_cases h4 : k = 4
 ·have ht : t = tracks := by rw [HR.out, if_pos h4]
  subst h4 ht
  go_wp2_with fail
  go_ret
  exact ⟨rfl, hbf.trans (hb0.mono hbf.size)⟩
 have e4 : (k == 4) = false := by simpa using h4
 have hR2 : t = if m = 4 then false else modeP mode c := by rw [HR.out, if_neg h4]
 clear h4 HR hb0
 have HR := Lib.hid hR2
 clear hR2
 obtain ⟨w3, hwE⟩ : ∃ W, W = (w2.alloc (.cells #[.bool xB, .slice xxO xxL xxC, .slice xyO xyL xyC] 81)) := ⟨_, rfl⟩
 have hb : Below w2.heap.size w2 w3 := by rw [hwE]; exact ((Below.refl _ w2).alloc (Nat.le_refl _) _)
 obtain ⟨pr, hpr⟩ : ∃ p, p = w2.heap.size := ⟨_, rfl⟩
 have hbr : Box3 w3 pr (Value.bool xB) (Value.slice xxO xxL xxC) (Value.slice xyO xyL xyC) := by rw [hwE, hpr]; exact ⟨by go_simp, by go_simp, by go_simp, by go_simp, by go_simp, by go_simp⟩
 have HP : Hid (w.heap.size ≤ pr) := Lib.hid (by have h9 := hbf.size; omega)
 have HW := Lib.hid hwE; clear hwE
 go_upto_region 4 with fail
 rw [← HW.out, ← hpr]
 clear hpr HW
 replace hxx := hxx.below hb
 replace hxy := hxy.below hb
 replace hx := hx.below hb
 replace hbf := hbf.trans (hb.mono hbf.size)
 clear hb
 clear e4
 go_wp2_with fail
 refine (single_any _).mono ?_
 rintro e w4 ⟨rfl, hb⟩
 replace hbr := hbr.kept hb
 replace hxx := hxx.below hb
 replace hxy := hxy.below hb
 replace hx := hx.below hb
 replace hbf := hbf.trans (hb.mono hbf.size)
 clear hb
 go_wp2_with fail
 refine (decode_s v m q _ HM HQ hv64).mono ?_
 rintro e w5 hq9
 obtain ⟨yB, yxO, yxL, yxC, yyO, yyL, yyC, rfl, hS, hyx, hyy, hy, hb⟩ := hq9.out
 have HyS := Lib.hid hS; clear hS
 replace hbr := hbr.kept hb
 replace hxx := hxx.below hb
 replace hxy := hxy.below hb
 replace hx := hx.below hb
 replace hbf := hbf.trans (hb.mono hbf.size)
 clear hb
 have hb0 : Below w5.heap.size w5 (w5.alloc (.cells #[.bool yB, .slice yxO yxL yxC, .slice yyO yyL yyC] 81)) := (Below.refl _ _).alloc (Nat.le_refl _) _
 by_cases h4 : m = 4
 ·have ht : t = false := by rw [HR.out, if_pos h4]
  subst h4 ht
  go_wp2_with fail
  go_ret
  exact ⟨rfl, hbf.trans (hb0.mono hbf.size)⟩
 have e4 : (m == 4) = false := by simpa using h4
 have hR2 : t = modeP mode c := by rw [HR.out, if_neg h4]
 clear h4 HR hb0
 have HR := Lib.hid hR2
 clear hR2
 obtain ⟨w6, hwE⟩ : ∃ W, W = (w5.alloc (.cells #[.bool yB, .slice yxO yxL yxC, .slice yyO yyL yyC] 81)) := ⟨_, rfl⟩
 have hb : Below w5.heap.size w5 w6 := by rw [hwE]; exact ((Below.refl _ w5).alloc (Nat.le_refl _) _)
 obtain ⟨ps, hps⟩ : ∃ p, p = w5.heap.size := ⟨_, rfl⟩
 have hbs : Box3 w6 ps (Value.bool yB) (Value.slice yxO yxL yxC) (Value.slice yyO yyL yyC) := by rw [hwE, hps]; exact ⟨by go_simp, by go_simp, by go_simp, by go_simp, by go_simp, by go_simp⟩
 replace HP : Hid (w.heap.size ≤ pr ∧ pr < ps) := Lib.hid (by have h1 := HP.out; have h9 := hbf.size; have h2r := hbr.lt; omega)
 have HW := Lib.hid hwE; clear hwE
 go_upto_region 7 with fail
 rw [← HW.out, ← hps]
 clear hps HW
 replace hbr := hbr.kept hb
 replace hxx := hxx.below hb
 replace hxy := hxy.below hb
 replace hx := hx.below hb
 replace hyx := hyx.below hb
 replace hyy := hyy.below hb
 replace hy := hy.below hb
 replace hbf := hbf.trans (hb.mono hbf.size)
 clear hb
 clear e4
 go_wp2_with fail
 refine (compare_any x v k m c p q _ HK HM HPP HQ hx64 hv64 HC).mono ?_
 rintro e w7 ⟨rfl, hb⟩
 replace hbr := hbr.kept hb
 replace hbs := hbs.kept hb
 replace hxx := hxx.below hb
 replace hxy := hxy.below hb
 replace hx := hx.below hb
 replace hyx := hyx.below hb
 replace hyy := hyy.below hb
 replace hy := hy.below hb
 replace hbf := hbf.trans (hb.mono hbf.size)
 clear hb
 by_cases m1 : mode = 1
 ·subst m1
  have ht : t = decide (c ≤ 0) := by rw [HR.out]; rfl
  subst ht
  clear HR
  go_wp2_with fail
  go_ret
  exact ⟨ret_one (congrArg Value.bool (by first | rfl | (simp <;> omega) | (rw [Bool.eq_iff_iff]; simp <;> omega))), hbf⟩
 by_cases m2 : mode = 2
 ·subst m2
  have ht : t = decide (c < 0) := by rw [HR.out]; rfl
  subst ht
  clear HR
  go_wp2_with fail
  go_ret
  exact ⟨ret_one (congrArg Value.bool (by first | rfl | (simp <;> omega) | (rw [Bool.eq_iff_iff]; simp <;> omega))), hbf⟩
 by_cases m3 : mode = 3
 ·subst m3
  have ht : t = decide (0 ≤ c) := by rw [HR.out]; rfl
  subst ht
  clear HR
  go_wp2_with fail
  go_ret
  exact ⟨ret_one (congrArg Value.bool (by first | rfl | (simp <;> omega) | (rw [Bool.eq_iff_iff]; simp <;> omega))), hbf⟩
 by_cases m4 : mode = 4
 ·subst m4
  have ht : t = decide (0 < c) := by rw [HR.out]; rfl
  subst ht
  clear HR
  go_wp2_with fail
  go_ret
  exact ⟨ret_one (congrArg Value.bool (by first | rfl | (simp <;> omega) | (rw [Bool.eq_iff_iff]; simp <;> omega))), hbf⟩
 by_cases m5 : mode = 5
 ·subst m5
  have ht : t = decide (c = 0) := by rw [HR.out]; rfl
  subst ht
  clear HR
  go_wp2_with fail
  go_ret
  exact ⟨ret_one (congrArg Value.bool (by first | rfl | (simp <;> omega) | (rw [Bool.eq_iff_iff]; simp <;> omega))), hbf⟩
 by_cases m6 : mode = 6
 ·subst m6
  have ht : t = decide (¬ c = 0) := by rw [HR.out]; rfl
  subst ht
  clear HR
  go_wp2_with fail
  go_ret
  exact ⟨ret_one (congrArg Value.bool (by first | rfl | (simp <;> omega) | (rw [Bool.eq_iff_iff]; simp <;> omega))), hbf⟩
 have e1 : (mode == 1) = false := by simpa using m1
 have e2 : (mode == 2) = false := by simpa using m2
 have e3 : (mode == 3) = false := by simpa using m3
 have e4 : (mode == 4) = false := by simpa using m4
 have e5 : (mode == 5) = false := by simpa using m5
 have e6 : (mode == 6) = false := by simpa using m6
 have ht : t = false := by rw [HR.out]; unfold modeP; rw [if_neg m1, if_neg m2, if_neg m3, if_neg m4, if_neg m5, if_neg m6]
 subst ht
 clear HR m1 m2 m3 m4 m5 m6
 go_wp2_with fail
 go_ret
 exact ⟨rfl, hbf⟩
end Go.Proofs.YtieffhkfefimeaaGreatDoor
namespace Go.Proofs.YtieffhkfefimeaaGreatDoor
open Go.RowKit


theorem walkE_leaf {ns : List EN} {row : List Nat} {at' : Nat} (h : ns[at']!.mode = 7) : ∀ g, walkE ns row g at' = at' := by
 intro g
 cases g with
 | zero => rfl
 | succ g => rw [walkE, if_pos h]
theorem walkE_step {ns : List EN} {row : List Nat} {at' g : Nat} (h : ns[at']!.mode ≠ 7) : walkE ns row (g + 1) at' = walkE ns row g (nextE ns row at') := by rw [walkE, if_neg h]
theorem place_spec {e : EE} (h : checkE e = 0) (row : List Nat) : ∀ (g at' : Nat), at' < e.nodes.length → leftE e.nodes at' = g → walkE e.nodes row g at' < e.nodes.length ∧ e.nodes[walkE e.nodes row g at']!.mode = 7 := by
 intro g
 induction g with
 | zero =>
  intro at' ha hg
  by_cases hm : e.nodes[at']!.mode = 7
  ·exact ⟨ha, hm⟩
  ·have := (step_ok h row ha hm).left
   omega
 | succ g ih =>
  intro at' ha hg
  by_cases hm : e.nodes[at']!.mode = 7
  ·rw [walkE_leaf hm]; exact ⟨ha, hm⟩
  ·have hs := step_ok h row ha hm
   rw [walkE_step hm]
   exact ih _ hs.next (by have := hs.left; omega)
theorem placeE_ok {e : EE} (h : checkE e = 0) (row : List Nat) {at' : Nat} (ha : at' < e.nodes.length) : placeE e.nodes row at' < e.nodes.length ∧ e.nodes[placeE e.nodes row at']!.mode = 7 := place_spec h row _ at' ha rfl
set_option maxHeartbeats 1000000 in
theorem place_any (v : Value) (e : EE) (bo : Option Addr) (bc : Nat) (no : Option Addr) (nc : Nat) (lo : Option Addr) (lc : Nat) (ro : Option Addr) (rc : Nat) (row : List Nat) (k r : Nat) (w : World) (h : EnsIs w v e bo bc no nc lo lc) (hrl : row.length ≤ rc) (hrx : rc ≤ maxLen) (hrow : Cells .u64 w ro row) (hrm : ∀ x ∈ row, x < 18446744073709551616) (hfe : e.feats ≤ row.length) (hk : k < e.nodes.length) (hc : Hid (checkE e = 0)) (hr : Hid (placeE e.nodes row k = r)) :
  Calls Tryz.prog 42 #[v, .int .i64 (k : Int), .slice ro row.length rc] w fun e_1 w' => e_1 = .returned (.int .i64 (r : Int)) ∧ Below w.heap.size w w' := by
 obtain ⟨rfl, h1, h2, h4, h5, h3, h6, h7, h8, h9⟩ := h
 obtain ⟨w0, hw0, hbf, pe, hpe, hbe⟩ := boxE w e bo bc no nc lo lc
 have HP : Hid (w.heap.size ≤ pe) := Lib.hid (by omega)
 have HW := Lib.hid hw0; clear hw0
 go_enter Tryz.func42, Tryz.ntmps42
 go_upto_region 1 with fail
 rw [← HW.out, ← hpe]
 clear hpe HW
 have hE : EnsIs w0 (ensV e bo bc no nc lo lc) e bo bc no nc lo lc := EnsIs.below ⟨rfl, h1, h2, h4, h5, h3, h6, h7, h8, h9⟩ hbf
 have ee5 := hbe.cell 5 _ rfl
 have h3b := h3
 unfold maxLen at h3b
 go_wp2_with fail
 (try go_step3)
 (try go_wp2_with fail)
 (try go_step3)
 (try go_wp2_with fail)
 obtain ⟨g0, hg0⟩ : ∃ g, g = leftE e.nodes k := ⟨_, rfl⟩
 have hR0 : Hid (g0 = leftE e.nodes k ∧ walkE e.nodes row g0 k = r) := Lib.hid ⟨hg0, by rw [hg0]; exact hr.out⟩
 clear hg0 hr
 go_loopg [7] g0 (fun gg av wr => ∃ (a : Nat), av = .int .i64 (a : Int) ∧ a < e.nodes.length ∧ Hid (gg = leftE e.nodes a ∧ walkE e.nodes row gg a = r) ∧ Below w0.heap.size w0 wr)
 case atStart => exact ⟨k, rfl, hk, hR0, Below.refl _ _⟩
 case round =>
  clear hR0
  obtain ⟨a, rfl, hal, hR, hbr⟩ := hrel
  replace hbe := hbe.kept hbr
  replace hE := hE.below hbr
  clear ee5
  have ee5 := hbe.cell 5 _ rfl
  have hz : (a : Int) < (e.nodes.length : Int) := by omega
  have hz0 : (0 : Int) ≤ (a : Int) := by omega
  obtain ⟨b, off, rfl⟩ := h2.addr hal
  obtain ⟨y, hy⟩ : ∃ y, e.nodes[a] = y := ⟨_, rfl⟩
  obtain ⟨c0, c1, c2, c3, c4, c5, c6, c7⟩ := RowC.c8 h2 (hbf.trans (hbr.mono hbf.size)) hal y hy
  have HY : Hid (e.nodes[a]! = y) := Lib.hid (by rw [getElem!_pos e.nodes a hal, hy])
  have HYW : Hid (ENW y) := Lib.hid (by rw [← hy]; exact h8 _ (List.getElem_mem hal))
  clear hy
  obtain ⟨w2, hwE, hb2, px, hpE, hbx⟩ := boxN wr y
  have HW := Lib.hid hwE; clear hwE
  go_upto_region 3 with fail
  rw [← HW.out, ← hpE]
  have Hpx := Lib.hid (Nat.le_of_eq hpE.symm)
  clear HW hpE
  replace hbr := hbr.trans (hb2.mono hbr.size)
  replace hbe := hbe.kept hb2
  replace hE := hE.below hb2
  have hpl2 := hbx.lt
  clear c0 c1 c2 c3 c4 c5 c6 c7 ee5
  obtain ⟨ex0, ex1, ex2, ex3, ex4, ex5, ex6, ex7⟩ := hbx.c8
  by_cases hm : y.mode = 7
  ·have q7 : (y.mode == 7) = true := by simp [hm]
   have hra : r = a := by rw [← hR.out.2]; exact walkE_leaf (by rw [HY.out]; exact hm) _
   subst hra
   clear hm hR
   go_wp2_with fail
   (try go_step3)
   (try go_wp2_with fail)
   (try go_step3)
   (try go_wp2_with fail)
   rw [Exit.noGoto_ret]
   go_ret
   exact ⟨rfl, hbf.trans (hbr.mono hbf.size)⟩
  ·have q7 : (y.mode == 7) = false := by simpa using hm
   have hm2 : e.nodes[a]!.mode ≠ 7 := by rw [HY.out]; exact hm
   have hs := step_ok hc.out row hal hm2
   have hsn := hs.next
   have hsl := hs.left
   have hf0 := hs.lo
   have hf1 := hs.hi
   rw [HY.out] at hf0 hf1
   have hfr : y.feat < (row.length : Int) := by omega
   have hgk : gk = leftE e.nodes (nextE e.nodes row a) + 1 := hR.out.1.trans hsl
   have hRn : Hid (gk - 1 = leftE e.nodes (nextE e.nodes row a) ∧ walkE e.nodes row (gk - 1) (nextE e.nodes row a) = r) := Lib.hid ⟨by omega, by
    have h9 := hR.out.2
    rw [show gk = (gk - 1) + 1 by omega, walkE_step hm2] at h9
    exact h9⟩
   have hgp : 0 < gk := by omega
   obtain ⟨nx, hnx⟩ : ∃ nx, nx = nextE e.nodes row a := ⟨_, rfl⟩
   rw [← hnx] at hRn hsn
   obtain ⟨xv, hxv⟩ : ∃ x, x = row[y.feat.toNat]?.getD 0 := ⟨_, rfl⟩
   obtain ⟨t, ht⟩ : ∃ t, takesP y.mode y.val y.trk xv = t := ⟨_, rfl⟩
   have hnx2 : (findE e.nodes y.tree (if t then y.tru else y.fls)).getD 0 = nx := by rw [hnx]; unfold nextE; rw [HY.out, ← hxv, ht]
   have Hnx := Lib.hid hnx2
   have Ht := Lib.hid ht
   have hx64 : xv < 18446744073709551616 := by
    rw [hxv, List.getElem?_eq_getElem (by omega)]; exact hrm _ (List.getElem_mem _)
   rcases hrow with hrow | ⟨rb, roff, rfl, hrb, hcr⟩
   ·rw [hrow] at hfr; exact absurd hfr (by simp; omega)
   have hball := hbf.trans (hbr.mono hbf.size)
   have cr : w2.cell? ⟨rb, roff + y.feat.toNat, none⟩ = some (.int .u64 (xv : Int)) := by
    rw [hxv, hball.cell (p := ⟨rb, roff + y.feat.toNat, none⟩) hrb]; exact hcr _ (by omega)
   have hvl := HYW.out.v
   have Hball := Lib.hid hball
   clear hxv ht hnx2 hnx hs hsl hgk hf1 hcr hball hR hm2 hm hrm
   have hT := fun W => takes_any y.mode y.val y.trk xv t W hvl hx64 Ht
   go_upto_region 5 with fail
   go_wp2_with fail
   clear ex0 ex1 ex2 ex3 ex4 ex5 ex6 ex7
   refine wp_region_seq (S := fun w' => BoxL w' px [.int .i64 y.tree, .int .i64 y.node, .int .i64 y.feat, .int .i64 y.mode, .int .u64 (y.val : Int), .int .i64 y.tru, .int .i64 y.fls, .bool y.trk] ∧ w'.cell? ⟨rb, roff + y.feat.toNat, none⟩ = some (.int .u64 (xv : Int))) [(true, 0), (true, 1), (true, 2), (true, 3), (true, 4), (true, 5), (true, 6), (true, 7), (true, 8), (true, 9), (true, 10), (false, 11)] (by kernel_rfl) (by kernel_rfl) (by kernel_rfl) (by kernel_rfl) (by kernel_rfl) (fun d _ _ _ _ h => by cases d <;> exact h) ⟨hbx.drew, (by first | exact cr | simpa using cr)⟩ (fun _ => ?_)
   simp only [pickOps, List.append_eq, List.cons_append, List.nil_append, List.getElem?_toArray, List.getElem?_cons_succ, List.getElem?_cons_zero]
   have hb : Below w2.heap.size w2 w2.drew := (Below.refl _ _).drew
   have crd : w2.drew.cell? ⟨rb, roff + y.feat.toNat, none⟩ = some (.int .u64 (xv : Int)) := by first | exact cr | simpa using cr
   generalize w2.drew = w3 at hb crd ⊢
   replace hbx := hbx.kept hb
   replace hbe := hbe.kept hb
   replace hE := hE.below hb
   replace hbr := hbr.trans (hb.mono hbr.size)
   clear cr hb
   repeat (first | (refine seq_take (v := ?_) (by rfl) ?_ ?_; rotate_left; (· intro w hSw; (try dsimp only at hSw); obtain ⟨hLx, ecr⟩ := hSw; obtain ⟨ex0, ex1, ex2, ex3, ex4, ex5, ex6, ex7⟩ := hLx.c8; clear hLx; go_simp; all_goals with_reducible rfl); (try simp only [Act.put, List.setIfInBounds_toArray, List.set_cons_zero, List.set_cons_succ])) | (refine seq_leave (by rfl) ?_; (try simp only [Act.put, List.setIfInBounds_toArray, List.set_cons_zero, List.set_cons_succ])))
   refine seq_step (by rfl) (fun K hK => ?_)
   go_simp
   go_at_call 9
   (with_reducible refine (hT _).mono ?_)
   rintro e9 w4 ⟨rfl, hb4⟩
   have crd4 : w4.cell? ⟨rb, roff + y.feat.toNat, none⟩ = some (.int .u64 (xv : Int)) := by
    rw [hb4.cell (p := ⟨rb, roff + y.feat.toNat, none⟩) (Nat.lt_of_lt_of_le hrb (hbf.trans (hbr.mono hbf.size)).size)]; exact crd
   replace hbx := hbx.kept hb4
   replace hbe := hbe.kept hb4
   replace hE := hE.below hb4
   replace hbr := hbr.trans (hb4.mono hbr.size)
   first | refine hK.out _ _ ⟨hbx, crd4⟩ (fun _ => ?_) | (go_wp2_with fail; refine hK.out _ _ ⟨hbx, crd4⟩ (fun _ => ?_))
   clear hK K
   (try simp only [Act.put, List.setIfInBounds_toArray, List.set_cons_zero, List.set_cons_succ])
   refine seq_end ?_
   clear crd crd4 hT HYW Hball
   obtain ⟨ex0, ex1, ex2, ex3, ex4, ex5, ex6, ex7⟩ := hbx.c8
   obtain ⟨ee0, ee1, ee2, ee3, ee4, ee5, ee6⟩ := hbe.c7
   obtain ⟨b9, hb9⟩ : ∃ b, (findE e.nodes y.tree (if t then y.tru else y.fls)).isSome = b := ⟨_, rfl⟩
   have Hb9 := Lib.hid hb9
   clear hb9
   cases t
   all_goals
    have HF := find_any _ e _ _ _ _ _ _ y.tree _ w4 hE nx b9 (Lib.hid Hnx.out) (Lib.hid Hb9.out)
    simp only [Bool.false_eq_true, if_false, if_true] at HF
    clear Hnx Hb9
    go_wp2_with (go_at_call 109; refine HF.mono ?_; rintro e9 w5 ⟨rfl, hb5⟩)
    go_roundg (gk - 1)
    case measure => omega
    case rel => exact ⟨nx, rfl, hsn, hRn, hbr.trans (hb5.mono hbr.size)⟩
 
end Go.Proofs.YtieffhkfefimeaaGreatDoor
namespace Go.Proofs.YtieffhkfefimeaaGreatDoor
open Go.RowKit


def IterU {α : Type} (P : Program) (gf : Nat) (lb : Array Value) (Enc : World → Value → α → Prop) (xs : List α) (U : Nat → Prop) (Kp : World → World → Prop) (w : World) : Prop :=
 ∀ (l : Nat) (J Jx : List α → (Nat → Prop) → World → Prop) (S0 : Nat → Prop) (W1 : World), Below w.heap.size w W1 → (∀ k, S0 k → U k ∧ k < W1.heap.size) →
  (∀ pre S W W', J pre S W → Below W.heap.size W W' → J pre S W') → (∀ pre S W W', Jx pre S W → Below W.heap.size W W' → Jx pre S W') →
  (∀ pre x v S W, J pre S W → Enc W v x → pre ++ [x] <+: xs → YieldAt Fence.wide 0 P l #[v] W fun e W' =>
   (e = .returned (.bool true) ∧ ∃ S', J (pre ++ [x]) S' W' ∧ Foot S S' W W' ∧ Top S' W' ∧ Kp W W') ∨ (e = .returned (.bool false) ∧ ∃ S', Jx (pre ++ [x]) S' W' ∧ Foot S S' W W')) →
  J [] S0 W1 →
  CallsIn Fence.wide 0 P gf (IterArgs l lb) W1 fun e W' => (∃ v, e = .returned v) ∧ ((∃ S', J xs S' W' ∧ Foot S0 S' W1 W') ∨ (∃ pre S', pre <+: xs ∧ Jx pre S' W' ∧ Foot S0 S' W1 W'))
theorem wp_rangeU {α : Type} {P : Program} {g : Operand} {ps : Array Tmp} {assign body : Code} {Q : Exit → Act → World → Prop} {a : Act} {w : World}
  {gf : Nat} {lb : Array Value} (hg : a.eval g = .func (.func gf) #[] lb) (eg : ∀ args w, (callFunc gf args).run P w = .ok (.enter gf args) w)
  {Enc : World → Value → α → Prop} {xs : List α} {U : Nat → Prop} {Kp : World → World → Prop} (hit : IterU P gf lb Enc xs U Kp w) (hKt : ∀ A C D, Kp A C → Kp C D → Kp A D) (hKe : ∀ A C, Ext w.heap.size A C → Kp A C) (hps : ps.size = 1) (hB : ∀ k, w.heap.size ≤ k → U k)
  (I : List α → (Nat → Prop) → World → Prop) (Ix : Code → List α → (Nat → Prop) → World → Prop) (hI : Stab w.heap.size I) (hIx : ∀ c, Stab w.heap.size (Ix c))
  (S0 : Nat → Prop) (hS0 : ∀ k, S0 k → U k ∧ k < w.heap.size) (h0 : I [] S0 w) (Ax : α → Act → World → Prop) (hAx : ∀ x a' W W', Ax x a' W → Ext w.heap.size W W' → Ax x a' W')
  (hassign : ∀ (l : Nat) (pre : List α) (x : α) (v : Value) (S : Nat → Prop) (W : World) (K : Act → World → Prop), I pre S W → Enc W v x → pre ++ [x] <+: xs →
   (∀ a' W', Below W.heap.size W W' → I pre S W' → Ax x a' W' → K a' W') →
   assign.wpIn (Fence.wide.inRound l) 0 P (Exit.then K (fun _ _ _ => False)) { tmps := (ps.zip #[v]).foldl (fun t (p, v) => t.setIfInBounds p v) a.tmps, defers := [] } W)
  (hbody : ∀ (l : Nat) (pre : List α) (x : α) (a' : Act) (S : Nat → Prop) (W : World), I pre S W → Ax x a' W → pre ++ [x] <+: xs → (∀ k, S k → U k ∧ k < W.heap.size) → body.wpIn (Fence.wide.inRound l) 0 P (postS Kp I Ix (pre ++ [x]) S W) a' W)
  (hdone : ∀ (D : Nat) (S : Nat → Prop) (W : World), w.heap.size ≤ D → I xs S W → W.heap[D]? = some (.deferred (some [])) → Q .normal { a with defers := { target := .collected D, args := #[] } :: a.defers } W)
  (hstop : ∀ (D : Nat) (c : Code) (pre : List α) (S : Nat → Prop) (W : World), w.heap.size ≤ D → pre <+: xs → Ix c pre S W → W.heap[D]? = some (.deferred (some [])) → c.wpIn Fence.wide 0 P Q { a with defers := { target := .collected D, args := #[] } :: a.defers } W) :
  (Code.rangeFunc g ps assign body).wpIn Fence.wide 0 P Q a w := by
 refine wpIn_rangeFunc ?_
 intro fn hfn
 obtain ⟨rec, hrec⟩ : ∃ rec : LoopState → Option Code → Loop, rec = fun st pe => { state := st, pending := pe, fn, tmps := a.tmps, params := ps, assign, body, defers := w.heap.size } := ⟨_, rfl⟩
 obtain ⟨W1, hW1⟩ : ∃ W1, (w.alloc (.deferred (some []))).alloc (.loop (rec .ready none)) = W1 := ⟨_, rfl⟩
 have hL1 : W1.heap[w.heap.size + 1]? = some (.loop (rec .ready none)) := by
  rw [← hW1]; have := World.alloc_heap_new (w.alloc (.deferred (some []))) (.loop (rec .ready none)); rwa [World.size_alloc] at this
 have hK1 : W1.heap[w.heap.size]? = some (.deferred (some [])) := by
  rw [← hW1]; exact (Below.heap_alloc _ _ _ (by simp)).trans (World.alloc_heap_new w _)
 have hb1 : Below w.heap.size w W1 := by
  rw [← hW1]; exact ((Below.refl _ w).alloc (Nat.le_refl _) _).alloc (by simp) _
 have hI1 : I [] S0 W1 := hI _ _ _ _ h0 (Ext.of_below hb1)
 refine ⟨w.heap.size + 1, [{ target := .collected w.heap.size, args := #[] }], W1, { target := .fn (.func gf) lb, args := #[.func (.yield (w.heap.size + 1)) #[] #[]] }, W1, gf,
  #[.func (.yield (w.heap.size + 1)) #[] #[]] ++ lb, W1, ?_, ?_, ?_, ?_, fun h => by simp [Fence.wide] at h, ?_⟩
 ·rw [← hW1, hrec]; exact run_enterLoop_outer _ _ _ _ _
 ·simp only [resolve, hg]
  simp [go_sem]
 ·intro f' hf'; trivial
 ·simp [invoke, go_sem, eg]
 ·refine (hit (w.heap.size + 1)
   (fun pre T W => ∃ S, (T = fun k => S k ∨ k = w.heap.size + 1) ∧ I pre S W ∧ (∀ k, S k → U k ∧ k < W.heap.size) ∧ ¬ S w.heap.size ∧ ¬ S (w.heap.size + 1) ∧ W.heap[w.heap.size + 1]? = some (.loop (rec .ready none)) ∧ W.heap[w.heap.size]? = some (.deferred (some [])))
   (fun pre T W => ∃ S c, Ix c pre S W ∧ W.heap[w.heap.size + 1]? = some (.loop (rec .done (some c))) ∧ W.heap[w.heap.size]? = some (.deferred (some [])))
   (fun k => S0 k ∨ k = w.heap.size + 1) W1 hb1 (fun k hk => by
    have hlt1 := (Array.getElem?_eq_some_iff.1 hL1).1
    rcases hk with h | h
    ·exact ⟨(hS0 k h).1, by have := (hS0 k h).2; have := hb1.size; omega⟩
    ·subst h; exact ⟨hB _ (Nat.le_succ _), hlt1⟩) ?_ ?_ ?_ ⟨S0, rfl, hI1, fun k h => ⟨(hS0 k h).1, by have := (hS0 k h).2; have := hb1.size; omega⟩, fun h => by have := (hS0 _ h).2; omega, fun h => by have := (hS0 _ h).2; omega, hL1, hK1⟩).mono ?_
  ·rintro pre T W W' ⟨S, rfl, hi, h1, h2, h3, hl, hk⟩ hb
   exact ⟨S, rfl, hI _ _ _ _ hi (Ext.of_below hb), fun k hk => ⟨(h1 k hk).1, Nat.lt_of_lt_of_le (h1 k hk).2 hb.size⟩, h2, h3, (hb.block _ (Array.getElem?_eq_some_iff.1 hl).1).trans hl, (hb.block _ (Array.getElem?_eq_some_iff.1 hk).1).trans hk⟩
  ·rintro pre T W W' ⟨S, c, hi, hl, hk⟩ hb
   exact ⟨S, c, hIx c _ _ _ _ hi (Ext.of_below hb), (hb.block _ (Array.getElem?_eq_some_iff.1 hl).1).trans hl, (hb.block _ (Array.getElem?_eq_some_iff.1 hk).1).trans hk⟩
  ·-- ONE ROUND
   rintro pre x v T W ⟨S, rfl, hi, hSB, hSD, hSl, hl, hk⟩ henc hpre
   have hlt : w.heap.size + 1 < W.heap.size := (Array.getElem?_eq_some_iff.1 hl).1
   have hy := run_yield (P := P) (args := #[v]) hl (by rw [hrec]; simp [hps])
   rw [hrec] at hy
   refine ⟨fn, _, assign, body, hy, roundIn_of_wpIn hfn (hassign _ pre x v S W _ hi henc hpre ?_)⟩
   clear hy
   intro a' Wa hba hia hax
   have hla := (hba.block _ hlt).trans hl
   have hka := (hba.block w.heap.size (by omega)).trans hk
   have hlta : w.heap.size + 1 < Wa.heap.size := Nat.lt_of_lt_of_le hlt hba.size
   refine ⟨_, run_beginRound hla (by rw [hrec]), ?_⟩
   have hl2 : (Wa.putObj (w.heap.size + 1) (.loop { rec .ready none with state := .busy })).heap[w.heap.size + 1]? = some (.loop { rec .ready none with state := .busy }) := World.putObj_heap_same hlta
   have hk2 : (Wa.putObj (w.heap.size + 1) (.loop { rec .ready none with state := .busy })).heap[w.heap.size]? = some (.deferred (some [])) := (World.putObj_heap_other (by omega)).trans hka
   have hex : Ext w.heap.size Wa (Wa.putObj (w.heap.size + 1) (.loop { rec .ready none with state := .busy })) := Ext.put (by omega) hla rfl
   have hf2 : Foot (fun k => S k ∨ k = w.heap.size + 1) (fun k => S k ∨ k = w.heap.size + 1) W (Wa.putObj (w.heap.size + 1) (.loop { rec .ready none with state := .busy })) :=
    (Foot.of_below hba).trans (Foot.put _ (.inr rfl))
   refine wpIn_mono (hbody _ pre x a' S _ (hI _ _ _ _ hia hex) (hAx _ _ _ _ hax hex) hpre (fun k hk => ⟨(hSB k hk).1, by have := (hSB k hk).2; have := hba.size; simp; omega⟩)) ?_
   have hkp2 : Kp W (Wa.putObj (w.heap.size + 1) (.loop { rec .ready none with state := .busy })) := hKe _ _ ((Ext.of_below hba).trans hex)
   generalize Wa.putObj (w.heap.size + 1) (.loop { rec .ready none with state := .busy }) = W2 at hl2 hk2 hf2 hkp2 ⊢
   have hlt2 : w.heap.size + 1 < W2.heap.size := (Array.getElem?_eq_some_iff.1 hl2).1
   have fin : ∀ (jump : Option Code) (S' : Nat → Prop) (W3 : World), Foot S S' W2 W3 →
     (Instr.endRound (w.heap.size + 1) jump).run P W3 = .ok (.bool jump.isNone) (W3.putObj (w.heap.size + 1) (.loop (rec (if jump.isNone then .ready else .done) jump))) ∧
     W3.heap[w.heap.size + 1]? = some (.loop { rec .ready none with state := .busy }) ∧
     (W3.putObj (w.heap.size + 1) (.loop (rec (if jump.isNone then .ready else .done) jump))).heap[w.heap.size + 1]? = some (.loop (rec (if jump.isNone then .ready else .done) jump)) ∧
     (W3.putObj (w.heap.size + 1) (.loop (rec (if jump.isNone then .ready else .done) jump))).heap[w.heap.size]? = some (.deferred (some [])) ∧
     Foot (fun k => S k ∨ k = w.heap.size + 1) (fun k => S' k ∨ k = w.heap.size + 1) W (W3.putObj (w.heap.size + 1) (.loop (rec (if jump.isNone then .ready else .done) jump))) ∧
     ¬ S' w.heap.size ∧ ¬ S' (w.heap.size + 1) ∧ (∀ k, S' k → U k) ∧ Kp W3 (W3.putObj (w.heap.size + 1) (.loop (rec (if jump.isNone then .ready else .done) jump))) := fun jump S' W3 hf => by
    have hl3 := (hf.same _ hlt2 hSl).trans hl2
    have hk3 := (hf.same w.heap.size (by omega) hSD).trans hk2
    have := run_endRound (P := P) jump hl3
    rw [hrec] at this ⊢
    refine ⟨this, by rw [hrec] at hl3; exact hl3, World.putObj_heap_same (Array.getElem?_eq_some_iff.1 hl3).1, (World.putObj_heap_other (by omega)).trans hk3, ?_, ?_, ?_, ?_, hKe _ _ (Ext.put (by omega) hl3 (by rw [hrec]; rfl))⟩
    ·exact (hf2.trans (hf.wide (T := fun k => k = w.heap.size + 1))).trans (Foot.put _ (.inr rfl))
    ·intro h; rcases hf.fresh _ h with h1 | h1
     ·exact hSD h1
     ·omega
    ·intro h; rcases hf.fresh _ h with h1 | h1
     ·exact hSl h1
     ·omega
    ·intro k h; rcases hf.fresh _ h with h1 | h1
     ·exact (hSB k h1).1
     ·exact hB _ (by have := hf2.size; omega)
   rintro e a3 W3 hp
   cases e with
   | normal =>
    obtain ⟨S', hi3, hf3, ht3, hkp3⟩ := hp
    obtain ⟨hr, hl3, hl4, hk4, hft, g1, g2, g3, hkp4⟩ := fin none S' W3 hf3
    exact ⟨_, _, hr, .inl ⟨rfl, _, ⟨S', rfl, hI _ _ _ _ hi3 (Ext.put (by omega) hl3 rfl), fun k hk => ⟨g3 k hk, by simpa using ht3 k hk⟩, g1, g2, hl4, hk4⟩, hft, fun k hk => by
     rcases hk with h | h
     ·simpa using ht3 k h
     ·rw [h]; exact (Array.getElem?_eq_some_iff.1 hl4).1, hKt _ _ _ (hKt _ _ _ hkp2 hkp3) hkp4⟩⟩
   | ret =>
    obtain ⟨S', hi3, hf3⟩ := hp
    obtain ⟨hr, hl3, hl4, hk4, hft, g1, g2, g3, _⟩ := fin (some .ret) S' W3 hf3
    exact ⟨_, _, hr, .inr ⟨rfl, _, ⟨S', .ret, hIx _ _ _ _ _ hi3 (Ext.put (by omega) hl3 rfl), hl4, hk4⟩, hft⟩⟩
   | exit id =>
    obtain ⟨S', hi3, hf3⟩ := hp
    obtain ⟨hr, hl3, hl4, hk4, hft, g1, g2, g3, _⟩ := fin (some (.exit id)) S' W3 hf3
    exact ⟨_, _, hr, .inr ⟨rfl, _, ⟨S', .exit id, hIx _ _ _ _ _ hi3 (Ext.put (by omega) hl3 rfl), hl4, hk4⟩, hft⟩⟩
   | goto t =>
    obtain ⟨S', hi3, hf3⟩ := hp
    obtain ⟨hr, hl3, hl4, hk4, hft, g1, g2, g3, _⟩ := fin (some (.goto t)) S' W3 hf3
    exact ⟨_, _, hr, .inr ⟨rfl, _, ⟨S', .goto t, hIx _ _ _ _ _ hi3 (Ext.put (by omega) hl3 rfl), hl4, hk4⟩, hft⟩⟩
   | panic ch => exact hp.elim
   | outgrown => exact hp.elim
  ·-- BEHIND THE ITERATOR
   rintro e W2 ⟨⟨v, rfl⟩, (⟨T, ⟨S, rfl, hi, _, _, _, hl, hk⟩, _⟩ | ⟨pre, T, hp, ⟨S, c, hi, hl, hk⟩, _⟩)⟩
   ·exact ⟨none, _, by have := run_endLoop (P := P) hl (by rw [hrec]; simp); rw [hrec] at this; exact this, hdone _ S _ (Nat.le_refl _) (hI _ _ _ _ hi (Ext.put (by omega) hl rfl)) ((World.putObj_heap_other (by omega)).trans hk)⟩
   ·exact ⟨some c, _, by have := run_endLoop (P := P) hl (by rw [hrec]; simp); rw [hrec] at this; exact this, hstop _ c pre S _ (Nat.le_refl _) hp (hIx _ _ _ _ _ hi (Ext.put (by omega) hl rfl)) ((World.putObj_heap_other (by omega)).trans hk)⟩
end Go.Proofs.YtieffhkfefimeaaGreatDoor
namespace Go.Proofs.YtieffhkfefimeaaGreatDoor
open Go.RowKit


end Go.Proofs.YtieffhkfefimeaaGreatDoor
namespace Go.Proofs.YtieffhkfefimeaaGreatDoor
open Go.RowKit Go.Shelf


attribute [local go_sem] Oper.semAt_some field_nat
set_option maxHeartbeats 2000000 in
theorem values_iter (va : Value) (qs : List Rat) (bl B : Nat) (w : World) (hrow : RatRow w va qs B B) (hl : w.cell? ⟨bl, 0, none⟩ = some va) (hbl : bl < B) (hBw : B ≤ w.heap.size) (hlen : qs.length ≤ 1000000) :
  Iter Tryz.prog 159 #[.pointer (some ⟨bl, 0, none⟩)] QIs qs B KeepNat w := by
 intro l J Jx S0 W1 hW1 hS0 hJ hJx hY h00
 have hl1 := (hW1.cell (p := ⟨bl, 0, none⟩) (by show bl < _; omega)).trans hl
 have hr1 := hrow.keep hW1.size (fun g _ hg _ => hW1.block g hg) (KeepNat.below hW1)
 have hBw1 : B ≤ W1.heap.size := by have := hW1.size; omega
 obtain ⟨ao, cap, rfl, _⟩ := hrow.row
 clear hrow hl
 refine callsIn_of_wp Tryz.func159 rfl (by trivial) ?_ rfl
 simp only [IterArgs, Tryz.ntmps159, List.size_toArray, List.length_cons, List.length_nil, Nat.reduceAdd, Nat.reduceSub, Array.replicate_succ, Array.replicate_zero, List.push_toArray, List.append_toArray, List.nil_append, List.cons_append]
 gi_wp2_with fail
 gi_loopg [7] qs.length (fun g iv wr => ∃ (i : Nat) (S : Nat → Prop), i + g = qs.length ∧ iv = .int .i64 (i : Int) ∧ RatRow wr (.slice ao qs.length cap) qs B B ∧
  J (qs.take i) S wr ∧ Top S wr ∧ (∀ k, S k → B ≤ k) ∧ B ≤ wr.heap.size ∧ Foot S0 S W1 wr)
 case atStart => exact ⟨0, S0, by omega, rfl, hr1, h00, fun k hk => (hS0 k hk).2, fun k hk => (hS0 k hk).1, hBw1, Foot.refl _ _⟩
 case round =>
  obtain ⟨i, S, hi, rfl, hrow, hJs, hT, hSB, hBr, hF0⟩ := hrel
  by_cases hil : i < qs.length
  ·obtain ⟨ao', cap', e, h3⟩ := hrow.row
   cases e
   rcases h3 with h3 | ⟨g, rfl, hgB, hgw, hgn, hcell⟩
   ·rw [h3] at hil; simp at hil
   obtain ⟨x, y, z, c3, c4, c5, hq⟩ := hcell i hil
   obtain ⟨sB, xo, xl, xc, yo, yl, yc, e9, hS9, hqx9, hqy9⟩ := hq.form
   clear hS9 hqx9 hqy9
   simp only [Value.agg.injEq, Array.mk.injEq, List.cons.injEq, and_true] at e9
   obtain ⟨rfl, rfl, rfl⟩ := e9
   obtain ⟨W2, hW2⟩ : ∃ W2, W2 = wr.alloc (.cells #[.bool sB, .slice xo xl xc, .slice yo yl yc] 81) := ⟨_, rfl⟩
   have hb : Below wr.heap.size wr W2 := by rw [hW2]; exact (Below.refl _ wr).alloc (Nat.le_refl _) _
   have hJ2 := hJ _ _ _ _ hJs hb
   have hrow2 := hrow.keep hb.size (fun g _ hg hne => hb.block g hg) (KeepNat.below hb)
   have hq2 := hq.below hb
   have ht9 : qs.take i ++ [qs[i]?.getD 0] = qs.take (i + 1) := by
    rw [List.take_add_one, List.getElem?_eq_getElem hil]; rfl
   obtain ⟨fn, tmps, assign, body, hy, hR⟩ := hY _ _ _ _ _ hJ2 hq2 (by rw [ht9]; exact List.take_prefix _ _)
   have HT := Lib.hid ht9
   have HR := Lib.hid hR
   have HROW := Lib.hid hrow2
   have q1 : (i : Int) < (qs.length : Int) := by omega
   have q2 : (0 : Int) ≤ (i : Int) := by omega
   have HB := Lib.hid hb
   have HF := Lib.hid (hF0.trans (Foot.of_below (S := S) hb))
   clear ht9 hR hrow hrow2 hcell hq hq2 hb hJ2 hF0
   subst hW2
   gi_wp2
   refine ⟨rfl, HR.out.mono ?_⟩
   rintro e W3 (⟨rfl, S3, hJ3, hF3, hT3, hK3⟩ | ⟨rfl, S3, hJ3, hF3⟩)
   ·have hrow3 := HROW.out.keep hF3.size (fun g hg hgw _ => hF3.same g hgw (fun h => by have := hSB g h; omega)) hK3
    have hsz3 : B ≤ W3.heap.size := by have := hF3.size; have := HB.out.size; omega
    have hFF := HF.out.trans hF3
    rw [HT.out] at hJ3
    clear c3 c4 c5
    gi_wp2
    gi_roundg (gk - 1)
    case measure => omega
    case rel =>
     refine ⟨i + 1, S3, by omega, by go_num, hrow3, hJ3, hT3, fun k hk => ?_, hsz3, hFF⟩
     rcases hF3.fresh k hk with h1 | h1
     ·exact hSB k h1
     ·have := HB.out.size; omega
   ·rw [HT.out] at hJ3
    have hFF := HF.out.trans hF3
    gi_wp2
    refine bodyPost_ret (results_none rfl _ _ _) rfl ?_
    exact ⟨⟨_, rfl⟩, .inr ⟨_, _, List.take_prefix _ _, hJ3, hFF⟩⟩
  ·have hiq : qs.take i = qs := List.take_of_length_le (by omega)
   rw [hiq] at hJs
   obtain rfl : i = qs.length := by omega
   clear hiq
   gi_wp2
   go_end0
   exact ⟨⟨_, rfl⟩, .inl ⟨_, hJs, hF0⟩⟩
theorem Box3.extV {B : Nat} {A C : World} {b : Nat} {x y z : Value} (hx : Box3 A b x y z) (h : Ext B A C) : Box3 C b x y z := by
 have e : C.heap[b]? = A.heap[b]? := h.block hx.c0
 have hf : ∀ j, C.frozen? ⟨b, j, none⟩ = A.frozen? ⟨b, j, none⟩ := fun j => by simp only [World.frozen?, e]
 exact ⟨(World.cell?_of_block (a := ⟨b, 0, none⟩) e).trans hx.c0, (World.cell?_of_block (a := ⟨b, 1, none⟩) e).trans hx.c1, (World.cell?_of_block (a := ⟨b, 2, none⟩) e).trans hx.c2, (hf 0).trans hx.f0, (hf 1).trans hx.f1, (hf 2).trans hx.f2⟩
set_option maxHeartbeats 2000000 in
theorem qsumV_any (gf : Nat) (lb : Array Value) (qs : List Rat) (w : World) (hit : Iter Tryz.prog gf lb QIs qs w.heap.size KeepNat w) (eg : ∀ args w, (callFunc gf args).run Tryz.prog w = .ok (.enter gf args) w)
  (en : ∀ w, (binOp .eql 144 (.func (.func gf) #[] lb) .nilFunc).run Tryz.prog w = .ok (.bool false) w)
  (hx : ∀ q ∈ qs, QB q 700) (hs : ∀ pre, pre <+: qs → QB (qsumL pre) 20000) :
  Calls Tryz.prog 115 #[.func (.func gf) #[] lb] w fun e w' => ∃ r, e = .returned r ∧ QIs w' r (qsumL qs) ∧ Below w.heap.size w w' := by
 refine (callsIn_wide (n := 0)).1 ?_
 refine callsIn_of_wp_marks Tryz.func115 rfl (by trivial) ?_ rfl
 simp only [Tryz.ntmps115, List.size_toArray, List.length_cons, List.length_nil, Nat.reduceAdd, Nat.reduceSub, Array.replicate_succ, Array.replicate_zero, List.push_toArray, List.append_toArray, List.nil_append, List.cons_append]
 gi_wp2_with fail
 obtain ⟨w0, hw0⟩ : ∃ w0, w0 = (w.alloc (.cells #[.bool false, .slice none 0 0, .slice none 0 0] 81)).alloc (.cells #[.bool false, .slice none 0 0, .slice none 0 0] 81) := ⟨_, rfl⟩
 have hbel : Below w.heap.size w w0 := by
  rw [hw0]; exact ((Below.refl _ w).alloc (Nat.le_refl _) _).alloc (by simp <;> omega) _
 have hsz0 : w0.heap.size = w.heap.size + 2 := by rw [hw0]; simp
 have hb2 : Box3 w0 w.heap.size (.bool false) (.slice none 0 0) (.slice none 0 0) := by
  rw [hw0]; exact ⟨by go_simp, by go_simp, by go_simp, by go_simp, by go_simp, by go_simp⟩
 have hb3 : Box3 w0 (w.heap.size + 1) (.bool false) (.slice none 0 0) (.slice none 0 0) := by
  rw [hw0]; exact ⟨by go_simp, by go_simp, by go_simp, by go_simp, by go_simp, by go_simp⟩
 rw [← hw0]
 clear hw0
 refine wp_range (gf := gf) (lb := lb) rfl eg (hit.mono hbel) (fun A C D => KeepNat.trans) (fun A C => KeepNat.ext) rfl (by omega)
  (fun pre S W => ∃ (sB : Bool) (xo : Option Addr) (xl xc : Nat) (yo : Option Addr) (yl yc : Nat), (S = fun k => k = w.heap.size + 1) ∧ Box3 W w.heap.size (.bool false) (.slice none 0 0) (.slice none 0 0) ∧ Box3 W (w.heap.size + 1) (.bool sB) (.slice xo xl xc) (.slice yo yl yc) ∧ QIs W (.agg #[.bool sB, .slice xo xl xc, .slice yo yl yc]) (qsumL pre) ∧ Below w.heap.size w W)
  (fun c pre S W => False)
  ?_ ?_ (fun k => k = w.heap.size + 1) (fun k hk => ⟨by omega, by omega⟩) ?_
  (fun x a' W => ∃ (b4 : Nat) (sB : Bool) (xo : Option Addr) (xl xc : Nat) (yo : Option Addr) (yl yc : Nat), Box3 W b4 (.bool sB) (.slice xo xl xc) (.slice yo yl yc) ∧ QIs W (.agg #[.bool sB, .slice xo xl xc, .slice yo yl yc]) x ∧ a' = { tmps := #[.func (.func gf) #[] lb, undef, .pointer (some ⟨w.heap.size, 0, none⟩), .pointer (some ⟨w.heap.size + 1, 0, none⟩), .pointer (some ⟨b4, 0, none⟩), .func (.func gf) #[] lb, .bool false, undef, .func (.func gf) #[] lb, .agg #[.bool sB, .slice xo xl xc, .slice yo yl yc], undef, undef, undef, undef], defers := [] })
  ?_ ?assign ?body ?done ?stop
 case assign =>
  rintro l pre x v S W K hi hnv hpre hK
  obtain ⟨sB, xo, xl, xc, yo, yl, yc, rfl, hS9, _, _⟩ := hnv.form
  clear hS9
  gi_wp2
  have hb := (Below.refl _ W).alloc (Nat.le_refl _) (.cells #[.bool sB, .slice xo xl xc, .slice yo yl yc] 81)
  obtain ⟨tB, ao, al, ac, bo, bl, bc, rfl, hB2, hB3, hN, hB⟩ := hi
  refine hK _ _ hb ⟨tB, ao, al, ac, bo, bl, bc, rfl, hB2.kept hb, hB3.kept hb, hN.below hb, ?_⟩ ⟨W.heap.size, sB, xo, xl, xc, yo, yl, yc, ⟨by go_simp, by go_simp, by go_simp, by go_simp, by go_simp, by go_simp⟩, hnv.below hb, rfl⟩
  exact hB.trans (hb.mono hB.size)
 case body =>
  rintro l pre x a' S W ⟨tB, ao, al, ac, bo, bl, bc, rfl, hB2, hB3, hN, hB⟩ ⟨b4, sB, xo, xl, xc, yo, yl, yc, hB4, hn4, rfl⟩ hpre hS
  have e30 := hB3.c0
  have e31 := hB3.c1
  have e32 := hB3.c2
  have e40 := hB4.c0
  have e41 := hB4.c1
  have e42 := hB4.c2
  have hxl : QB x 700 := hx x (hpre.subset (by simp))
  have hpl : QB (qsumL pre) 20000 := hs pre ((List.prefix_append _ _).trans hpre)
  have hsum : qsumL pre + x = qsumL (pre ++ [x]) := by unfold qsumL; rw [List.foldl_append]; rfl
  have HSUM := Lib.hid hsum
  clear hsum
  gi_wp2_with fail
  refine ⟨trivial, rfl, callsIn_wide.2 ((qadd_any _ _ (qsumL pre) x 20000 700 W hN hn4 hpl hxl (by omega)).mono ?_)⟩
  rintro e w1 hq9
  obtain ⟨rB, co, cl, cc, dO, dl, dc, rfl, hS9, _, _, hr, hb1⟩ := hq9.out
  clear hS9 hq9
  rw [HSUM.out] at hr
  have hB21 := hB2.kept hb1
  have hB31 := hB3.kept hb1
  have e31' := hB31.c0
  have f310 := hB31.f0
  have f311 := hB31.f1
  have f312 := hB31.f2
  have g310 := hB31.c0
  have g311 := hB31.c1
  have g312 := hB31.c2
  have hlt3 := hB31.lt
  have hBx : Below w.heap.size w w1 := hB.trans (hb1.mono hB.size)
  clear e30 e31 e32 e40 e41 e42 e31'
  gi_wp2
  have hr2 := hr.set3 (u0 := .bool rB) (u1 := .slice co cl cc) (u2 := .slice dO dl dc) hB31
  have hB2n := below_set3 (u0 := .bool rB) (u1 := .slice co cl cc) (u2 := .slice dO dl dc) hBx (Nat.le_succ w.heap.size)
  refine ⟨_, ⟨rB, co, cl, cc, dO, dl, dc, rfl, hB21.set3o (by omega), hB31.set3, hr2, hB2n⟩, ?_, ?_, ?_⟩
  ·exact (Foot.of_below hb1).trans (Foot.set3 _ _ _ rfl)
  ·intro k hk
   subst hk
   simpa [World.setCell] using hlt3
  ·exact (KeepNat.below hb1).trans fun v n hn => hn.set3 hB31
 case done =>
  rintro D S W hD ⟨tB, ao, al, ac, bo, bl, bc, rfl, hB2, hB3, hN, hB⟩ hK
  have e20 := hB2.c0
  have e21 := hB2.c1
  have e22 := hB2.c2
  have f20 := hB2.f0
  have f21 := hB2.f1
  have f22 := hB2.f2
  have e30 := hB3.c0
  have e31 := hB3.c1
  have e32 := hB3.c2
  gi_wp2
  have hK2 : (((W.setCell ⟨w.heap.size, 0, none⟩ (.bool tB)).setCell ⟨w.heap.size, 1, none⟩ (.slice ao al ac)).setCell ⟨w.heap.size, 2, none⟩ (.slice bo bl bc)).heap[D]? = some (.deferred (some [])) :=
   (((Below.heap_setCell _ _ _ _ (by simp; omega)).trans (Below.heap_setCell _ _ _ _ (by simp; omega))).trans (Below.heap_setCell _ _ _ _ (by simp; omega))).trans hK
  have hr2 := hN.set3 (u0 := .bool tB) (u1 := .slice ao al ac) (u2 := .slice bo bl bc) hB2
  have hb2' := hB2.set3 (u0 := .bool tB) (u1 := .slice ao al ac) (u2 := .slice bo bl bc)
  have hB2n := below_set3 (u0 := .bool tB) (u1 := .slice ao al ac) (u2 := .slice bo bl bc) hB (Nat.le_refl w.heap.size)
  generalize ((W.setCell ⟨w.heap.size, 0, none⟩ (.bool tB)).setCell ⟨w.heap.size, 1, none⟩ (.slice ao al ac)).setCell ⟨w.heap.size, 2, none⟩ (.slice bo bl bc) = W2 at *
  have hx9 : Ext D W2 (W2.putObj D (.deferred none)) := ext_deferred hK2
  refine ⟨by simp, .inl ⟨_, _, rfl, run_takeDeferred hK2, ?_⟩⟩
  have hn3 := hr2.keep (KeepNat.ext hx9)
  have hb9 := hb2'.extV hx9
  have hsz : w.heap.size ≤ W2.heap.size := hB2n.size
  refine ⟨_, ?_, ⟨_, rfl, hn3, below_ext hB2n hx9 (by omega) hsz⟩⟩
  have k0 := hb9.c0
  have k1 := hb9.c1
  have k2 := hb9.c2
  simp [results, Tryz.results115, go_sem, k0, k1, k2]
 case stop =>
  rintro D c pre S W hD hp h hK
  exact h.elim
 ·rintro pre S W W' ⟨tB, ao, al, ac, bo, bl, bc, rfl, hB2, hB3, hN, hB⟩ hx
  exact ⟨tB, ao, al, ac, bo, bl, bc, rfl, hB2.extV hx, hB3.extV hx, hN.keep (KeepNat.ext hx), below_ext hB hx (by omega) hB.size⟩
 ·rintro c pre S W W' h hx
  exact h.elim
 ·exact ⟨false, none, 0, 0, none, 0, 0, rfl, hb2, hb3, QIs.zero _, hbel⟩
 ·rintro x a' W W' ⟨b4, sB, xo, xl, xc, yo, yl, yc, hB4, hn, rfl⟩ hx
  exact ⟨b4, sB, xo, xl, xc, yo, yl, yc, hB4.extV hx, hn.keep (KeepNat.ext hx), rfl⟩
end Go.Proofs.YtieffhkfefimeaaGreatDoor
namespace Go.Proofs.YtieffhkfefimeaaGreatDoor
open Go.RowKit Go.Shelf


attribute [local go_sem] Oper.semAt_some field_nat
theorem weightsE_succ {ls : List EL} {i : Nat} {y : EL} {t n g : Int} {hil : i < ls.length} (hy : ls[i] = y) : weightsE (ls.take (i + 1)) t n g = if y.tree = t ∧ y.node = n ∧ y.tgt = g then weightsE (ls.take i) t n g ++ [y.wt] else weightsE (ls.take i) t n g := by
 unfold weightsE
 rw [List.take_add_one, List.getElem?_eq_getElem hil, hy, List.filter_append, List.map_append]
 by_cases h : y.tree = t ∧ y.node = n ∧ y.tgt = g
 ·rw [if_pos h]
  obtain ⟨h1, h2, h3⟩ := h
  simp [h1, h2, h3]
 ·rw [if_neg h]
  have h9 : (decide (y.tree = t) && (decide (y.node = n) && decide (y.tgt = g))) = false := by
   rw [Bool.eq_false_iff]; intro h2; simp at h2; exact h h2
  simp [h9]
theorem weightsE_pre {ls : List EL} (i : Nat) (t n g : Int) : weightsE (ls.take i) t n g <+: weightsE ls t n g := by
 unfold weightsE
 refine ⟨((ls.drop i).filter (fun l => decide (l.tree = t) && (decide (l.node = n) && decide (l.tgt = g)))).map (·.wt), ?_⟩
 rw [← List.map_append, ← List.filter_append, List.take_append_drop]
set_option maxHeartbeats 2000000 in
theorem weights_it (e : EE) (bo : Option Addr) (bc : Nat) (no : Option Addr) (nc : Nat) (lo : Option Addr) (lc : Nat) (t n g : Int) (pe pt pn pg : Nat) (U : Nat → Prop) (w : World) (hbe : BoxL w pe [.int .i64 e.feats, .int .i64 e.tgts, .string ⟨e.agg.toArray⟩, .string ⟨e.post.toArray⟩, .slice bo e.base.length bc, .slice no e.nodes.length nc, .slice lo e.leaves.length lc])
  (ht : w.cell? ⟨pt, 0, none⟩ = some (.int .i64 t)) (hn : w.cell? ⟨pn, 0, none⟩ = some (.int .i64 n)) (hg : w.cell? ⟨pg, 0, none⟩ = some (.int .i64 g)) (hrow : RowC 4 elC w lo e.leaves) (hll : e.leaves.length ≤ maxLen)
  (hU1 : ∀ k, U k → k ≠ pe ∧ k ≠ pt ∧ k ≠ pn ∧ k ≠ pg) (hU2 : ∀ b off, lo = some ⟨b, off, none⟩ → e.leaves ≠ [] → ¬ U b) :
  IterU Tryz.prog 157 #[.pointer (some ⟨pe, 0, none⟩), .pointer (some ⟨pt, 0, none⟩), .pointer (some ⟨pn, 0, none⟩), .pointer (some ⟨pg, 0, none⟩)] (fun _ v (x : Nat) => v = .int .u64 (x : Int)) (weightsE e.leaves t n g) U (fun _ _ => True) w := by
 intro l J Jx S0 W1 hW1 hS0 hJ hJx hY h00
 have ct := (hW1.cell (p := ⟨pt, 0, none⟩) (World.block_lt_of_cell? w ⟨pt, 0, none⟩ ht)).trans ht
 have cn := (hW1.cell (p := ⟨pn, 0, none⟩) (World.block_lt_of_cell? w ⟨pn, 0, none⟩ hn)).trans hn
 have cg := (hW1.cell (p := ⟨pg, 0, none⟩) (World.block_lt_of_cell? w ⟨pg, 0, none⟩ hg)).trans hg
 have ct1 := World.block_lt_of_cell? W1 ⟨pt, 0, none⟩ ct
 have cn1 := World.block_lt_of_cell? W1 ⟨pn, 0, none⟩ cn
 have cg1 := World.block_lt_of_cell? W1 ⟨pg, 0, none⟩ cg
 have hbe1 := hbe.kept hW1
 have hrow1 := RowC.below (B := 0) hrow hW1
 have ee6 := hbe1.cell 6 _ rfl
 have hl9 := hll
 unfold maxLen at hl9
 clear ht hn hg hrow hbe
 have Hct := Lib.hid ct
 have Hcn := Lib.hid cn
 have Hcg := Lib.hid cg
 clear ct cn cg
 refine callsIn_of_wp Tryz.func157 rfl (by trivial) ?_ rfl
 simp only [IterArgs, Tryz.ntmps157, List.size_toArray, List.length_cons, List.length_nil, Nat.reduceAdd, Nat.reduceSub, Array.replicate_succ, Array.replicate_zero, List.push_toArray, List.append_toArray, List.nil_append, List.cons_append]
 gi_wp2_with fail
 clear ee6
 gi_loopg [11] e.leaves.length (fun gg iv wr => ∃ (i : Nat) (S : Nat → Prop), i + gg = e.leaves.length ∧ iv = .int .i64 (i : Int) ∧ J (weightsE (e.leaves.take i) t n g) S wr ∧ Foot S0 S W1 wr)
 case atStart => exact ⟨0, S0, by omega, rfl, h00, Foot.refl _ _⟩
 case round =>
  obtain ⟨i, S, hi, rfl, hJs, hF0⟩ := hrel
  by_cases hil : i < e.leaves.length
  ·have same := fun (k : Nat) (hk : k < W1.heap.size) (hu : ¬ U k) => hF0.same k hk (fun h => hu (hS0 k h).1)
   have ct2 := (World.cell?_of_block (a := ⟨pt, 0, none⟩) (same pt ct1 (fun h => (hU1 pt h).2.1 rfl))).trans Hct.out
   have cn2 := (World.cell?_of_block (a := ⟨pn, 0, none⟩) (same pn cn1 (fun h => (hU1 pn h).2.2.1 rfl))).trans Hcn.out
   have cg2 := (World.cell?_of_block (a := ⟨pg, 0, none⟩) (same pg cg1 (fun h => (hU1 pg h).2.2.2 rfl))).trans Hcg.out
   have ct3 := World.block_lt_of_cell? wr ⟨pt, 0, none⟩ ct2
   have cn3 := World.block_lt_of_cell? wr ⟨pn, 0, none⟩ cn2
   have cg3 := World.block_lt_of_cell? wr ⟨pg, 0, none⟩ cg2
   obtain ⟨b, off, rfl⟩ := hrow1.addr hil
   obtain ⟨y, hy⟩ : ∃ y, e.leaves[i] = y := ⟨_, rfl⟩
   obtain ⟨k0, k1, k2, k3⟩ := RowC.c4 hrow1 (Below.refl _ _) hil y hy
   have hbU : ¬ U b := hU2 b off rfl (fun h => by rw [h] at hil; simp at hil)
   have blt := (hrow1.get hil).1
   replace k0 := (World.cell?_of_block (a := ⟨b, off + i * 4, none⟩) (same b blt hbU)).trans k0
   replace k1 := (World.cell?_of_block (a := ⟨b, off + i * 4 + 1, none⟩) (same b blt hbU)).trans k1
   replace k2 := (World.cell?_of_block (a := ⟨b, off + i * 4 + 2, none⟩) (same b blt hbU)).trans k2
   replace k3 := (World.cell?_of_block (a := ⟨b, off + i * 4 + 3, none⟩) (same b blt hbU)).trans k3
   have blt2 : b < wr.heap.size := World.block_lt_of_cell? wr ⟨b, off + i * 4, none⟩ k0
   have q1 : (i : Int) < (e.leaves.length : Int) := by omega
   have q2 : (0 : Int) ≤ (i : Int) := by omega
   by_cases m1 : y.tree = t
   case neg =>
    have z1 : (y.tree == t) = false := by simpa using m1
    have hw9 : weightsE (e.leaves.take (i + 1)) t n g = weightsE (e.leaves.take i) t n g := by rw [weightsE_succ hy, if_neg (by intro h; exact m1 h.1)]
    obtain ⟨W2, hW2⟩ : ∃ W2, W2 = wr.alloc (.cells #[.int .i64 y.tree, .int .i64 y.node, .int .i64 y.tgt, .int .u64 (y.wt : Int)] 95) := ⟨_, rfl⟩
    have hb : Below wr.heap.size wr W2 := by rw [hW2]; exact (Below.refl _ wr).alloc (Nat.le_refl _) _
    have hJ2 := hJ _ _ _ _ hJs hb
    have HJ := Lib.hid hJ2
    have HF := Lib.hid (hF0.trans (Foot.of_below (S := S) hb))
    have HW9 := Lib.hid hw9
    clear hJ2 hb hw9 hy hF0 hJs same
    subst hW2
    gi_wp2
    refine ⟨fun _ h => (by cases h), ?_⟩
    gi_wp2
    gi_roundg (gk - 1)
    case measure => omega
    case rel => exact ⟨i + 1, S, by omega, by go_num, by rw [HW9.out]; exact HJ.out, HF.out⟩
   subst m1
   by_cases m2 : y.node = n
   case neg =>
    have z2 : (y.node == n) = false := by simpa using m2
    have hw9 : weightsE (e.leaves.take (i + 1)) y.tree n g = weightsE (e.leaves.take i) y.tree n g := by rw [weightsE_succ hy, if_neg (by intro h; exact m2 h.2.1)]
    obtain ⟨W2, hW2⟩ : ∃ W2, W2 = wr.alloc (.cells #[.int .i64 y.tree, .int .i64 y.node, .int .i64 y.tgt, .int .u64 (y.wt : Int)] 95) := ⟨_, rfl⟩
    have hb : Below wr.heap.size wr W2 := by rw [hW2]; exact (Below.refl _ wr).alloc (Nat.le_refl _) _
    have hJ2 := hJ _ _ _ _ hJs hb
    have HJ := Lib.hid hJ2
    have HF := Lib.hid (hF0.trans (Foot.of_below (S := S) hb))
    have HW9 := Lib.hid hw9
    clear hJ2 hb hw9 hy hF0 hJs same
    subst hW2
    gi_wp2
    refine ⟨fun _ h => (by cases h), ?_⟩
    gi_wp2
    gi_roundg (gk - 1)
    case measure => omega
    case rel => exact ⟨i + 1, S, by omega, by go_num, by rw [HW9.out]; exact HJ.out, HF.out⟩
   subst m2
   by_cases m3 : y.tgt = g
   case neg =>
    have z3 : (y.tgt == g) = false := by simpa using m3
    have hw9 : weightsE (e.leaves.take (i + 1)) y.tree y.node g = weightsE (e.leaves.take i) y.tree y.node g := by rw [weightsE_succ hy, if_neg (by intro h; exact m3 h.2.2)]
    obtain ⟨W2, hW2⟩ : ∃ W2, W2 = wr.alloc (.cells #[.int .i64 y.tree, .int .i64 y.node, .int .i64 y.tgt, .int .u64 (y.wt : Int)] 95) := ⟨_, rfl⟩
    have hb : Below wr.heap.size wr W2 := by rw [hW2]; exact (Below.refl _ wr).alloc (Nat.le_refl _) _
    have hJ2 := hJ _ _ _ _ hJs hb
    have HJ := Lib.hid hJ2
    have HF := Lib.hid (hF0.trans (Foot.of_below (S := S) hb))
    have HW9 := Lib.hid hw9
    clear hJ2 hb hw9 hy hF0 hJs same
    subst hW2
    gi_wp2
    refine ⟨fun _ h => (by cases h), ?_⟩
    gi_wp2
    gi_roundg (gk - 1)
    case measure => omega
    case rel => exact ⟨i + 1, S, by omega, by go_num, by rw [HW9.out]; exact HJ.out, HF.out⟩
   subst m3
   have hw9 : weightsE (e.leaves.take (i + 1)) y.tree y.node y.tgt = weightsE (e.leaves.take i) y.tree y.node y.tgt ++ [y.wt] := by rw [weightsE_succ hy, if_pos ⟨rfl, rfl, rfl⟩]
   obtain ⟨W2, hW2⟩ : ∃ W2, W2 = wr.alloc (.cells #[.int .i64 y.tree, .int .i64 y.node, .int .i64 y.tgt, .int .u64 (y.wt : Int)] 95) := ⟨_, rfl⟩
   have hb : Below wr.heap.size wr W2 := by rw [hW2]; exact (Below.refl _ wr).alloc (Nat.le_refl _) _
   have hJ2 := hJ _ _ _ _ hJs hb
   obtain ⟨fn, tmps, assign, body, hyy, hR⟩ := hY _ y.wt (.int .u64 (y.wt : Int)) _ _ hJ2 rfl (by rw [← hw9]; exact weightsE_pre _ _ _ _)
   have HR := Lib.hid hR
   have HW9 := Lib.hid hw9
   have HF := Lib.hid (hF0.trans (Foot.of_below (S := S) hb))
   clear hR hw9 hy hb hF0 hJ2 hJs same
   subst hW2
   gi_wp2
   refine ⟨rfl, HR.out.mono ?_⟩
   rintro e W3 (⟨rfl, S3, hJ3, hF3, hT3, hK3⟩ | ⟨rfl, S3, hJ3, hF3⟩)
   ·have hFF := HF.out.trans hF3
    rw [← HW9.out] at hJ3
    clear k0 k1 k2 k3 ct2 cn2 cg2
    gi_wp2
    gi_roundg (gk - 1)
    case measure => omega
    case rel => exact ⟨i + 1, S3, by omega, by go_num, hJ3, hFF⟩
   ·have hFF := HF.out.trans hF3
    rw [← HW9.out] at hJ3
    gi_wp2
    refine bodyPost_ret (results_none rfl _ _ _) rfl ?_
    exact ⟨⟨_, rfl⟩, .inr ⟨_, _, weightsE_pre _ _ _ _, hJ3, hFF⟩⟩
  ·have hiq : e.leaves.take i = e.leaves := List.take_of_length_le (by omega)
   rw [hiq] at hJs
   obtain rfl : i = e.leaves.length := by omega
   clear hiq
   gi_wp2
   go_end0
   exact ⟨⟨_, rfl⟩, .inl ⟨_, hJs, hF0⟩⟩
end Go.Proofs.YtieffhkfefimeaaGreatDoor
namespace Go.Proofs.YtieffhkfefimeaaGreatDoor

def BK : Nat := 2 ^ 2101
def DY (K : Nat) (q : Rat) : Prop := ∃ m : Int, q = (m : Rat) / ((2 ^ 149 : Nat) : Rat) ∧ m.natAbs ≤ K * BK
theorem DY.zero (K : Nat) : DY K 0 := ⟨0, by rw [Rat.intCast_zero, Rat.div_def, Rat.zero_mul], by simp⟩
theorem DY.add {K L : Nat} {a b : Rat} (ha : DY K a) (hb : DY L b) : DY (K + L) (a + b) := by
 obtain ⟨m, rfl, hm⟩ := ha
 obtain ⟨n, rfl, hn⟩ := hb
 refine ⟨m + n, by rw [Rat.intCast_add, Rat.div_def, Rat.div_def, Rat.div_def, Rat.add_mul], ?_⟩
 rw [Nat.add_mul]
 omega
theorem DY.mono {K L : Nat} {a : Rat} (ha : DY K a) (h : K ≤ L) : DY L a := by
 obtain ⟨m, rfl, hm⟩ := ha
 exact ⟨m, rfl, Nat.le_trans hm (Nat.mul_le_mul_right _ h)⟩
theorem DY.neg {K : Nat} {a : Rat} (ha : DY K a) : DY K (-a) := by
 obtain ⟨m, rfl, hm⟩ := ha
 exact ⟨-m, by rw [Rat.intCast_neg, Rat.div_def, Rat.div_def, Rat.neg_mul], by rwa [Int.natAbs_neg]⟩
theorem DY.dval (b : Nat) : DY 1 (dval' 8 23 b) := by
 have hv : ∀ n, n < 2 ^ 31 → DY 1 (fval 8 23 n) := fun n hn => by
  refine ⟨(fint 23 n : Int), ?_, ?_⟩
  ·unfold fval
   rw [qOf_frac _ _ (Nat.pow_pos (by decide))]
   rfl
  ·rw [Int.natAbs_natCast, Nat.one_mul]
   unfold BK
   generalize hK : 2101 = K
   exact Nat.le_of_lt (fint_le (E := 8) (by decide) (by decide) hn (Nat.le_of_eq hK))
 unfold dval'
 split
 ·have hlt : b % 2 ^ (8 + 23) < 2 ^ 31 := Nat.mod_lt _ (by decide)
  split
  ·exact (hv _ hlt).neg
  ·exact hv _ hlt
 ·exact DY.zero 1
theorem DY.sum {K : Nat} : ∀ (l : List Rat), (∀ q ∈ l, DY K q) → DY (l.length * K) (qsumL l) := by
 intro l
 suffices h : ∀ (l : List Rat) (a : Rat) (L : Nat), DY L a → (∀ q ∈ l, DY K q) → DY (L + l.length * K) (l.foldl (· + ·) a) by
  intro hq
  have := h l 0 0 (DY.zero 0) hq
  rwa [Nat.zero_add] at this
 intro l
 induction l with
 | nil => intro a L ha _; simpa using ha
 | cons x r ih =>
  intro a L ha hq
  rw [List.foldl_cons]
  have := ih (a + x) (L + K) (ha.add (hq x (List.mem_cons_self ..))) (fun q h => hq q (List.mem_cons_of_mem _ h))
  rw [List.length_cons, Nat.succ_mul]
  rwa [show L + (r.length * K + K) = L + K + r.length * K by omega]
theorem DY.qb {K : Nat} {q : Rat} (h : DY K q) (hK : K ≤ 1000000000) : QB q 67 := by
 obtain ⟨m, rfl, hm⟩ := h
 have hd : (0 : Nat) < 2 ^ 149 := Nat.pow_pos (by decide)
 have e : (m : Rat) / ((2 ^ 149 : Nat) : Rat) = qOf (decide (m < 0)) m.natAbs (2 ^ 149) := by
  rw [qOf_frac _ _ hd]
  congr 2
  unfold sg
  by_cases h0 : m < 0
  ·rw [decide_eq_true h0]; simp; omega
  ·rw [decide_eq_false h0]; simp; omega
 rw [e]
 have hb : m.natAbs < 2 ^ (32 * 67) := by
  refine Nat.lt_of_le_of_lt (Nat.le_trans hm (Nat.mul_le_mul_right _ hK)) ?_
  unfold BK
  decide +kernel
 refine ⟨limbs_bits ?_, limbs_bits ?_⟩
 ·rw [qOf_num hd, sg_natAbs]
  exact Nat.lt_of_le_of_lt (Nat.div_le_self _ _) hb
 ·rw [qOf_den hd]
  exact Nat.lt_of_le_of_lt (Nat.div_le_self _ _) (by decide +kernel)
end Go.Proofs.YtieffhkfefimeaaGreatDoor
namespace Go.Proofs.YtieffhkfefimeaaGreatDoor
open Go.RowKit Go.Shelf


set_option maxHeartbeats 1000000 in
theorem weights_any (v : Value) (e : EE) (bo : Option Addr) (bc : Nat) (no : Option Addr) (nc : Nat) (lo : Option Addr) (lc : Nat) (t n g : Int) (w : World) (h : EnsIs w v e bo bc no nc lo lc) :
  Calls Tryz.prog 110 #[v, .int .i64 t, .int .i64 n, .int .i64 g] w fun e9 w' => ∃ pe pt pn pg : Nat, e9 = .returned (.func (.func 157) #[] #[.pointer (some ⟨pe, 0, none⟩), .pointer (some ⟨pt, 0, none⟩), .pointer (some ⟨pn, 0, none⟩), .pointer (some ⟨pg, 0, none⟩)]) ∧ BoxL w' pe [.int .i64 e.feats, .int .i64 e.tgts, .string ⟨e.agg.toArray⟩, .string ⟨e.post.toArray⟩, .slice bo e.base.length bc, .slice no e.nodes.length nc, .slice lo e.leaves.length lc] ∧
   w'.cell? ⟨pt, 0, none⟩ = some (.int .i64 t) ∧ w'.cell? ⟨pn, 0, none⟩ = some (.int .i64 n) ∧ w'.cell? ⟨pg, 0, none⟩ = some (.int .i64 g) ∧ w.heap.size ≤ pe ∧ pt < w'.heap.size ∧ pn < w'.heap.size ∧ pg < w'.heap.size ∧ pe < pt ∧ pt < pn ∧ pn < pg ∧ Below w.heap.size w w' := by
 obtain ⟨rfl, h1, h2, h4, h5, h3, h6, h7, h8, h9⟩ := h
 obtain ⟨w0, hw0⟩ : ∃ w0, w0 = ((((w.alloc (.cells #[.int .i64 e.feats, .int .i64 e.tgts, .string ⟨e.agg.toArray⟩, .string ⟨e.post.toArray⟩, .slice bo e.base.length bc, .slice no e.nodes.length nc, .slice lo e.leaves.length lc] 33)).alloc (.cells #[.int .i64 t] 3)).alloc (.cells #[.int .i64 n] 3)).alloc (.cells #[.int .i64 g] 3)) := ⟨_, rfl⟩
 have hbf : Below w.heap.size w w0 := by rw [hw0]; exact (((((Below.refl _ w).alloc (Nat.le_refl _) _).alloc (by simp <;> omega) _).alloc (by simp <;> omega) _).alloc (by simp <;> omega) _)
 obtain ⟨pe, hpe⟩ : ∃ p, p = w.heap.size := ⟨_, rfl⟩
 have hbe : BoxL w0 pe [.int .i64 e.feats, .int .i64 e.tgts, .string ⟨e.agg.toArray⟩, .string ⟨e.post.toArray⟩, .slice bo e.base.length bc, .slice no e.nodes.length nc, .slice lo e.leaves.length lc] := by rw [hw0, hpe]; exact BoxL.of7 (by go_simp) (by go_simp) (by go_simp) (by go_simp) (by go_simp) (by go_simp) (by go_simp) (by go_simp) (by go_simp) (by go_simp) (by go_simp) (by go_simp) (by go_simp) (by go_simp)
 obtain ⟨pt, hpt⟩ : ∃ p, p = w.heap.size + 1 := ⟨_, rfl⟩
 have hbt : Box w0 pt (Value.int .i64 t) := by rw [hw0, hpt]; exact ⟨by go_simp, by go_simp, by simp <;> omega⟩
 obtain ⟨pn, hpn⟩ : ∃ p, p = w.heap.size + 1 + 1 := ⟨_, rfl⟩
 have hbn : Box w0 pn (Value.int .i64 n) := by rw [hw0, hpn]; exact ⟨by go_simp, by go_simp, by simp <;> omega⟩
 obtain ⟨pg, hpg⟩ : ∃ p, p = w.heap.size + 1 + 1 + 1 := ⟨_, rfl⟩
 have hbg : Box w0 pg (Value.int .i64 g) := by rw [hw0, hpg]; exact ⟨by go_simp, by go_simp, by simp <;> omega⟩
 have HP : Hid (w.heap.size ≤ pe ∧ pe < pt ∧ pt < pn ∧ pn < pg) := Lib.hid (by omega)
 have HW := Lib.hid hw0; clear hw0
 go_enter Tryz.func110, Tryz.ntmps110
 go_upto_region 1 with fail
 rw [← HW.out, ← hpg, ← hpn, ← hpt, ← hpe]
 clear hpe hpt hpn hpg HW
 have h9 := HP.out
 go_wp2_with fail
 go_ret
 exact ⟨pe, pt, pn, pg, rfl, hbe, hbt.cell, hbn.cell, hbg.cell, h9.1, hbt.lt, hbn.lt, hbg.lt, h9.2.1, h9.2.2.1, h9.2.2.2, hbf⟩
theorem Foot.set1V {S : Nat → Prop} {W : World} {b : Nat} (u : Value) (hp : S b) : Foot S S W (W.setCell ⟨b, 0, none⟩ u) :=
 ⟨rfl, rfl, rfl, by simp [World.setCell], fun k hk hs => Below.heap_setCell _ _ _ _ (fun e => hs (by have e : k = b := e; rw [e]; exact hp)), fun _ h => .inl h⟩
theorem QIs.setBV {W : World} {b : Nat} {v : Value} {q : Rat} {x : Bool} (h : QIs W v q) (hb : Box W b (.bool x)) (u : Value) : QIs (W.setCell ⟨b, 0, none⟩ u) v q := by
 obtain ⟨a, b1, c, d, e, f, rfl, h1, h2⟩ := h
 exact ⟨a, b1, c, d, e, f, rfl, h1.set _ _ (fun n e9 => by rw [hb.cell] at e9; cases e9), h2.set _ _ (fun n e9 => by rw [hb.cell] at e9; cases e9)⟩
theorem enter_weights : ∀ args w, (callFunc 157 args).run Tryz.prog w = .ok (.enter 157 args) w := enters_of Tryz.func157 (by kernel_rfl) rfl
attribute [local go_sem] Oper.semAt_some field_nat
def numsOf (ws : List Nat) : List Rat := ws.map (dval' 8 23)
set_option maxHeartbeats 2000000 in
theorem gives_any (v : Value) (e : EE) (bo : Option Addr) (bc : Nat) (no : Option Addr) (nc : Nat) (lo : Option Addr) (lc : Nat) (t n g : Int) (ws : List Nat) (w : World) (h : EnsIs w v e bo bc no nc lo lc) (hws : Hid (weightsE e.leaves t n g = ws)) (hlen : e.leaves.length ≤ 1000000) :
  Calls Tryz.prog 43 #[v, .int .i64 t, .int .i64 n, .int .i64 g] w fun e9 w' => ∃ r, e9 = .returned (.tuple #[r, .bool (decide (ws ≠ []))]) ∧ QIs w' r (qsumL (numsOf ws)) ∧ Below w.heap.size w w' := by
 obtain ⟨rfl, h1, h2, h4, h5, h3, h6, h7, h8, h9⟩ := h
 refine (callsIn_wide (n := 0)).1 ?_
 refine callsIn_of_wp_marks Tryz.func43 rfl (by trivial) ?_ rfl
 simp only [Tryz.ntmps43, List.size_toArray, List.length_cons, List.length_nil, Nat.reduceAdd, Nat.reduceSub, Array.replicate_succ, Array.replicate_zero, List.push_toArray, List.append_toArray, List.nil_append, List.cons_append]
 gi_wp2_with fail
 obtain ⟨w0, hw0⟩ : ∃ w0, w0 = (((w.alloc (.cells #[.int .i64 e.feats, .int .i64 e.tgts, .string ⟨e.agg.toArray⟩, .string ⟨e.post.toArray⟩, .slice bo e.base.length bc, .slice no e.nodes.length nc, .slice lo e.leaves.length lc] 33)).alloc (.cells #[.bool false, .slice none 0 0, .slice none 0 0] 81)).alloc (.cells #[.bool false, .slice none 0 0, .slice none 0 0] 81)).alloc (.cells #[.bool false] 4) := ⟨_, rfl⟩
 have hbel : Below w.heap.size w w0 := by
  rw [hw0]; exact ((((Below.refl _ w).alloc (Nat.le_refl _) _).alloc (by simp <;> omega) _).alloc (by simp <;> omega) _).alloc (by simp <;> omega) _
 have hsz0 : w0.heap.size = w.heap.size + 4 := by rw [hw0]; simp
 have hbr : Box3 w0 (w.heap.size + 1) (.bool false) (.slice none 0 0) (.slice none 0 0) := by rw [hw0]; exact ⟨by go_simp, by go_simp, by go_simp, by go_simp, by go_simp, by go_simp⟩
 have hbs : Box3 w0 (w.heap.size + 1 + 1) (.bool false) (.slice none 0 0) (.slice none 0 0) := by rw [hw0]; exact ⟨by go_simp, by go_simp, by go_simp, by go_simp, by go_simp, by go_simp⟩
 have hbg : Box w0 (w.heap.size + 1 + 1 + 1) (.bool false) := by rw [hw0]; exact ⟨by go_simp, by go_simp, by simp <;> omega⟩
 rw [← hw0]
 clear hw0
 obtain ⟨pz, hpz⟩ : ∃ p, p = w.heap.size := ⟨_, rfl⟩
 obtain ⟨pr, hpr⟩ : ∃ p, p = w.heap.size + 1 := ⟨_, rfl⟩
 obtain ⟨ps, hps⟩ : ∃ p, p = w.heap.size + 1 + 1 := ⟨_, rfl⟩
 obtain ⟨pg, hpg⟩ : ∃ p, p = w.heap.size + 1 + 1 + 1 := ⟨_, rfl⟩
 rw [← hpg, ← hps, ← hpr, ← hpz]
 rw [← hpr] at hbr
 rw [← hps] at hbs
 rw [← hpg] at hbg
 have hle1 : w.heap.size ≤ pz := by omega
 have hle2 : pz < pr := by omega
 have hle3 : pr < ps := by omega
 have hle4 : ps < pg := by omega
 have hle5 : pg < w0.heap.size := by omega
 clear hpz hpr hps hpg
 have hE0 : EnsIs w0 (ensV e bo bc no nc lo lc) e bo bc no nc lo lc := EnsIs.below ⟨rfl, h1, h2, h4, h5, h3, h6, h7, h8, h9⟩ hbel
 refine ⟨trivial, rfl, callsIn_wide.2 ((weights_any _ e _ _ _ _ _ _ t n g w0 hE0).mono ?_)⟩
 rintro e9 w1 ⟨qe, qt, qn, qg, rfl, hbe, ct, cn, cg, hq0, hq1, hq2, hq3, hq4, hq5, hq6, hb1⟩
 have hU2 : ∀ b off, lo = some ⟨b, off, none⟩ → e.leaves ≠ [] → b < w.heap.size := fun b off e1 e2 => by
  rcases h4 with h | ⟨b', off', e3, h10, _⟩
  ·exact absurd h e2
  ·rw [e1] at e3; cases e3; exact h10
 have hrow1 := RowC.below (B := 0) hE0.leaves hb1
 replace hbr := hbr.kept hb1
 replace hbs := hbs.kept hb1
 replace hbg := hbg.kept hb1
 replace hbel := hbel.trans (hb1.mono hbel.size)
 have hsz1 := hb1.size
 have hit := weights_it e bo bc no nc lo lc t n g qe qt qn qg (fun k => k = ps ∨ k = pg ∨ w1.heap.size ≤ k) w1 hbe ct cn cg hrow1 hE0.ll (fun k hk => by have := hbe.lt; omega) (fun b off e1 e2 hk => by have := hU2 b off e1 e2; omega)
 rw [hws.out] at hit
 have hwv : ∀ x ∈ ws, x < 18446744073709551616 := by
  intro x hx
  rw [← hws.out] at hx
  unfold weightsE at hx
  obtain ⟨l, hl, rfl⟩ := List.mem_map.1 hx
  exact (h9 l (List.mem_filter.1 hl).1).v
 have hwl : ws.length ≤ 1000000 := by
  rw [← hws.out]
  unfold weightsE
  rw [List.length_map]
  exact Nat.le_trans (List.length_filter_le _ _) hlen
 clear hbe ct cn cg hrow1 hU2 hE0 hws hlen
 gi_wp2
 refine wp_rangeU (gf := 157) (lb := #[.pointer (some ⟨qe, 0, none⟩), .pointer (some ⟨qt, 0, none⟩), .pointer (some ⟨qn, 0, none⟩), .pointer (some ⟨qg, 0, none⟩)]) rfl enter_weights hit (fun _ _ _ _ _ => trivial) (fun _ _ _ => trivial) rfl (fun k hk => .inr (.inr hk))
  (fun pre S W => ∃ (sB : Bool) (xo : Option Addr) (xl xc : Nat) (yo : Option Addr) (yl yc : Nat), (S = fun k => k = ps ∨ k = pg) ∧ Box3 W pr (.bool false) (.slice none 0 0) (.slice none 0 0) ∧ Box3 W ps (.bool sB) (.slice xo xl xc) (.slice yo yl yc) ∧ Box W pg (.bool (decide (pre ≠ []))) ∧ QIs W (.agg #[.bool sB, .slice xo xl xc, .slice yo yl yc]) (qsumL (numsOf pre)) ∧ Below w.heap.size w W)
  (fun c pre S W => False)
  ?_ ?_ (fun k => k = ps ∨ k = pg) (fun k hk => ⟨by omega, by omega⟩) ?_
  (fun x a' W => a' = { tmps := #[.agg #[.int .i64 e.feats, .int .i64 e.tgts, .string ⟨e.agg.toArray⟩, .string ⟨e.post.toArray⟩, .slice bo e.base.length bc, .slice no e.nodes.length nc, .slice lo e.leaves.length lc], .int .i64 t, .int .i64 n, .int .i64 g, .pointer (some ⟨pz, 0, none⟩), undef, undef, undef, .pointer (some ⟨pr, 0, none⟩), .bool false, .pointer (some ⟨ps, 0, none⟩), .pointer (some ⟨pg, 0, none⟩), .int .u64 (x : Int), undef, undef, .agg #[.int .i64 e.feats, .int .i64 e.tgts, .string ⟨e.agg.toArray⟩, .string ⟨e.post.toArray⟩, .slice bo e.base.length bc, .slice no e.nodes.length nc, .slice lo e.leaves.length lc], .int .i64 t, .int .i64 n, .int .i64 g, .func (.func 157) #[] #[.pointer (some ⟨qe, 0, none⟩), .pointer (some ⟨qt, 0, none⟩), .pointer (some ⟨qn, 0, none⟩), .pointer (some ⟨qg, 0, none⟩)], .int .u64 (x : Int), undef, undef, undef, undef, undef, undef, undef, undef, undef, undef, undef], defers := [] })
  ?_ ?assign ?body ?done ?stop
 case assign =>
  rintro l pre x v S W K hi rfl hpre hK
  gi_wp2
  exact hK _ _ (Below.refl _ _) hi rfl
 case body =>
  rintro l pre x a' S W ⟨sB, xo, xl, xc, yo, yl, yc, rfl, hBr, hBs, hBg, hN, hB⟩ rfl hpre hS
  have hx64 := hwv x (hpre.subset (by simp))
  have hpl : pre.length ≤ 1000000 := Nat.le_trans ((List.prefix_append _ _).trans hpre).length_le hwl
  have hsum : qsumL (numsOf pre) + dval' 8 23 x = qsumL (numsOf (pre ++ [x])) := by unfold qsumL numsOf; rw [List.map_append, List.foldl_append]; rfl
  have hQs : QB (qsumL (numsOf pre)) 67 := (DY.sum (K := 1) _ (fun q hq => by obtain ⟨b, _, rfl⟩ := List.mem_map.1 hq; exact DY.dval b)).qb (by unfold numsOf; rw [List.length_map]; omega)
  have hQx : QB (dval' 8 23 x) 67 := (DY.dval x).qb (by decide)
  obtain ⟨k, hk⟩ : ∃ k, dkind 8 23 x = k := ⟨_, rfl⟩
  obtain ⟨q, hq⟩ : ∃ q, dval' 8 23 x = q := ⟨_, rfl⟩
  rw [hq] at hsum hQx
  have HK := Lib.hid hk
  have HQ := Lib.hid hq
  have HSUM := Lib.hid hsum
  clear hk hq hsum hpl
  gi_wp2_with fail
  refine ⟨trivial, rfl, callsIn_wide.2 ((single_any W).mono ?_)⟩
  rintro e9 w2 ⟨rfl, hb2⟩
  gi_wp2_with fail
  refine ⟨trivial, rfl, callsIn_wide.2 ((decode_s x k q w2 HK HQ hx64).mono ?_)⟩
  rintro e9 w3 hq9
  obtain ⟨rB, co, cl, cc, dO, dl, dc, rfl, hS9, hx9, hy9, hr, hb3⟩ := hq9.out
  clear hS9 hx9 hy9 hq9
  have hb23 := hb2.trans (hb3.mono hb2.size)
  obtain ⟨w4, hwE⟩ : ∃ W', W' = w3.alloc (.cells #[.bool rB, .slice co cl cc, .slice dO dl dc] 81) := ⟨_, rfl⟩
  have hb4 : Below w3.heap.size w3 w4 := by rw [hwE]; exact (Below.refl _ w3).alloc (Nat.le_refl _) _
  obtain ⟨pq, hpE⟩ : ∃ p, p = w3.heap.size := ⟨_, rfl⟩
  have hBq : Box3 w4 pq (.bool rB) (.slice co cl cc) (.slice dO dl dc) := by rw [hwE, hpE]; exact ⟨by go_simp, by go_simp, by go_simp, by go_simp, by go_simp, by go_simp⟩
  have HW := Lib.hid hwE
  clear hwE
  gi_upto_region 6 with fail
  rw [← HW.out, ← hpE]
  clear HW hpE
  have hb24 := hb23.trans (hb4.mono hb23.size)
  replace hBr := hBr.kept hb24
  replace hBs := hBs.kept hb24
  replace hBg := hBg.kept hb24
  replace hN := hN.below hb24
  replace hr := hr.below hb4
  have es0 := hBs.c0
  have es1 := hBs.c1
  have es2 := hBs.c2
  have eq0 := hBq.c0
  have eq1 := hBq.c1
  have eq2 := hBq.c2
  gi_wp2_with fail
  refine ⟨trivial, rfl, callsIn_wide.2 ((qadd_any _ _ (qsumL (numsOf pre)) q 67 67 w4 hN hr hQs hQx (by decide)).mono ?_)⟩
  rintro e9 w5 hq9
  obtain ⟨tB, ao, al, ac, b9, bl, bc9, rfl, hS9, hx9, hy9, hr5, hb5⟩ := hq9.out
  clear hS9 hx9 hy9 hq9 es0 es1 es2 eq0 eq1 eq2
  rw [HSUM.out] at hr5
  replace hBr := hBr.kept hb5
  replace hBs := hBs.kept hb5
  replace hBg := hBg.kept hb5
  have hb25 := hb24.trans (hb5.mono hb24.size)
  have es0 := hBs.c0
  have es1 := hBs.c1
  have es2 := hBs.c2
  have fs0 := hBs.f0
  have fs1 := hBs.f1
  have fs2 := hBs.f2
  have eg := hBg.cell
  have fg := hBg.free
  gi_wp2
  clear es0 es1 es2 fs0 fs1 fs2 eg fg
  have hls := hBs.lt
  have hlg := hBg.lt
  have hBx : Below w.heap.size w w5 := hB.trans (hb25.mono hB.size)
  have hX := (below_set3 (b := ps) (u0 := .bool tB) (u1 := .slice ao al ac) (u2 := .slice b9 bl bc9) hBx (by omega)).setCell (p := ⟨pg, 0, none⟩) (by show _ ≤ pg; omega) (.bool true)
  refine ⟨_, ⟨tB, ao, al, ac, b9, bl, bc9, rfl, (hBr.set3o (by omega)).setOther (by omega) 0 _, (hBs.set3).setOther (by omega) 0 _, ?_, ?_, hX⟩, ?_, ?_, trivial⟩
  ·rw [show decide (pre ++ [x] ≠ []) = true by simp]; exact (hBg.set3 (by omega)).set _
  ·exact (hr5.set3 hBs).setBV (hBg.set3 (by omega)) _
  ·exact ((Foot.of_below hb25).trans (Foot.set3 _ _ _ (.inl rfl))).trans (Foot.set1V _ (.inr rfl))
  ·intro k hk
   rcases hk with rfl | rfl
   ·simpa [World.setCell] using hls
   ·simpa [World.setCell] using hlg
 case done =>
  rintro D S W hD ⟨sB, xo, xl, xc, yo, yl, yc, rfl, hBr, hBs, hBg, hN, hB⟩ hK
  obtain ⟨b7, hb7⟩ : ∃ b, decide (ws ≠ []) = b := ⟨_, rfl⟩
  rw [hb7] at hBg
  have hK9 := hK
  clear hK
  gi_wp2
  refine wpIn_wide.2 ?_
  have eo0 := hBs.c0
  have eo1 := hBs.c1
  have eo2 := hBs.c2
  have eg := hBg.cell
  have eq0 := hBr.c0
  have fq0 := hBr.f0
  have eq1 := hBr.c1
  have fq1 := hBr.f1
  have eq2 := hBr.c2
  have fq2 := hBr.f2
  go_region
  clear eo0 eo1 eo2 eg eq0 fq0 eq1 fq1 eq2 fq2
  obtain ⟨W1, hwE⟩ : ∃ W1, W1 = ((W.setCell ⟨pr, 0, none⟩ (.bool sB)).setCell ⟨pr, 1, none⟩ (.slice xo xl xc)).setCell ⟨pr, 2, none⟩ (.slice yo yl yc) := ⟨_, rfl⟩
  rw [← hwE]
  replace hN := hN.set3 (u0 := .bool sB) (u1 := .slice xo xl xc) (u2 := .slice yo yl yc) hBr
  replace hB := below_set3 (u0 := .bool sB) (u1 := .slice xo xl xc) (u2 := .slice yo yl yc) (b := pr) hB (by omega)
  replace hBr := hBr.set3 (u0 := .bool sB) (u1 := .slice xo xl xc) (u2 := .slice yo yl yc)
  rw [← hwE] at hN hB hBr
  have hqD : D ≠ pr := by omega
  replace hK9 : W1.heap[D]? = some (.deferred (some [])) := by rw [hwE]; exact (((Below.heap_setCell _ _ _ _ (by simp; omega)).trans (Below.heap_setCell _ _ _ _ (by simp; omega))).trans (Below.heap_setCell _ _ _ _ (by simp; omega))).trans hK9
  clear hwE
  have hd : Below W1.heap.size W1 W1.drew := (Below.refl _ _).drew
  replace hN := hN.below hd
  replace hBr := hBr.kept hd
  replace hK9 := (hd.block D (Array.getElem?_eq_some_iff.1 hK9).1).trans hK9
  replace hB := hB.trans (hd.mono hB.size)
  clear hBs hBg hd
  generalize W1.drew = W2 at *
  gi_wp2
  have hx9 : Ext D W2 (W2.putObj D (.deferred none)) := ext_deferred hK9
  refine ⟨by simp, .inl ⟨_, _, rfl, run_takeDeferred hK9, ?_⟩⟩
  have hn3 := hN.keep (KeepNat.ext hx9)
  have hb9 := hBr.extV hx9
  have k0 := hb9.c0
  have k1 := hb9.c1
  have k2 := hb9.c2
  refine ⟨_, ?_, ⟨_, rfl, hn3, below_ext hB hx9 (by omega) hB.size⟩⟩
  simp [results, Tryz.results43, go_sem, k0, k1, k2, ← hb7]
 case stop =>
  rintro D c pre S W hD hp h hK
  exact h.elim
 ·rintro pre S W W' ⟨sB, xo, xl, xc, yo, yl, yc, rfl, hBr, hBs, hBg, hN, hB⟩ hx
  exact ⟨sB, xo, xl, xc, yo, yl, yc, rfl, hBr.extV hx, hBs.extV hx, hBg.ext hx, hN.keep (KeepNat.ext hx), below_ext hB hx (by have := hB.size; omega) hB.size⟩
 ·rintro c pre S W W' h hx
  exact h.elim
 ·exact ⟨false, none, 0, 0, none, 0, 0, rfl, hbr, hbs, hbg, QIs.zero _, hbel⟩
 ·rintro x a' W W' rfl hx
  rfl
end Go.Proofs.YtieffhkfefimeaaGreatDoor
