/-
  pbuf: walks (4): fixed, one.
-/
import Derived.Test.YtjcldnkgidfifaaPbC
import Derived.Test.YtjcldnkgidfifaaCloN
import Derived.Deep.LoopGhost
import Derived.WalkKit
import Derived.OwnWalk
import Derived.WalkMore
import Derived.Deep.DeepCutAuto
namespace Go.Proofs.Ytjcldnkgidfifaa
open Go.RowKit
set_option linter.unusedVariables false
set_option linter.unusedSimpArgs false

theorem load_fld {w : World} {b : Nat} {x0 x1 x2 x3 x4 : Value} (h : BoxL w b [x0, x1, x2, x3, x4]) : (loadVar 77 ⟨b, 0, none⟩).run Try.prog w = .ok (.agg #[x0, x1, x2, x3, x4]) w := by
  have h0 := h.cell 0 _ rfl
  have h1 := h.cell 1 _ rfl
  have h2 := h.cell 2 _ rfl
  have h3 := h.cell 3 _ rfl
  have h4 := h.cell 4 _ rfl
  simp [go_sem, h0, h1, h2, h3, h4]
theorem ret_fld {fn : Func} {s t u : Nat} {R : Ending → World → Prop} {a : Act} {w : World} {b : Nat} {x0 x1 x2 x3 x4 vt vu : Value} (hres : fn.results = #[.cell s 77, .tmp t, .tmp u]) (hp : a.tmps.getD s undef = .pointer (some ⟨b, 0, none⟩)) (ht : a.tmps.getD t undef = vt) (hu : a.tmps.getD u undef = vu) (hc : BoxL w b [x0, x1, x2, x3, x4]) (hd : a.defers = []) (hR : R (.returned (.tuple #[.agg #[x0, x1, x2, x3, x4], vt, vu])) w) : bodyPost Try.prog fn R .ret a w := by
  refine bodyPost_ret (v := .tuple #[.agg #[x0, x1, x2, x3, x4], vt, vu]) ?_ hd hR
  have hp' : a.tmps[s]?.getD undef = .pointer (some ⟨b, 0, none⟩) := by simpa using hp
  have ht' : a.tmps[t]?.getD undef = vt := by simpa using ht
  have hu' : a.tmps[u]?.getD undef = vu := by simpa using hu
  simp only [results, hres]
  simp [Sem.run_bind, Sem.run_pure, Result.andThen, hp', ht', hu', asAddr, load_fld hc]
section
variable {w w9 : World} {b : Nat} {x0 x1 x2 x3 x4 u0 u1 u2 u3 u4 : Value}
theorem BoxL.set5 (h : BoxL w b [x0, x1, x2, x3, x4]) : BoxL (((((w.setCell ⟨b, 0, none⟩ u0).setCell ⟨b, 1, none⟩ u1).setCell ⟨b, 2, none⟩ u2).setCell ⟨b, 3, none⟩ u3).setCell ⟨b, 4, none⟩ u4) b [u0, u1, u2, u3, u4] :=
  ((((h.set 0 u0 (by simp)).set 1 u1 (by simp)).set 2 u2 (by simp)).set 3 u3 (by simp)).set 4 u4 (by simp)
theorem below_set5 {B : Nat} (h : Below B w w9) (hB : B ≤ b) : Below B w (((((w9.setCell ⟨b, 0, none⟩ u0).setCell ⟨b, 1, none⟩ u1).setCell ⟨b, 2, none⟩ u2).setCell ⟨b, 3, none⟩ u3).setCell ⟨b, 4, none⟩ u4) :=
  ((((h.setCell (p := ⟨b, 0, none⟩) hB u0).setCell (p := ⟨b, 1, none⟩) hB u1).setCell (p := ⟨b, 2, none⟩) hB u2).setCell (p := ⟨b, 3, none⟩) hB u3).setCell (p := ⟨b, 4, none⟩) hB u4
theorem end_fld {fn : Func} {s t u : Nat} {act : Act} {vt vu : Value} {R : Ending → World → Prop} (hres : fn.results = #[.cell s 77, .tmp t, .tmp u]) (hp : act.tmps.getD s undef = .pointer (some ⟨b, 0, none⟩)) (ht : act.tmps.getD t undef = vt) (hu : act.tmps.getD u undef = vu) (hd : act.defers = []) (hb : BoxL w9 b [x0, x1, x2, x3, x4]) (hge : w.heap.size ≤ b) (hB : Below w.heap.size w w9) (hR : ∀ w', Below w.heap.size w w' → R (.returned (.tuple #[.agg #[u0, u1, u2, u3, u4], vt, vu])) w') :
    bodyPost Try.prog fn R .ret act (((((w9.setCell ⟨b, 0, none⟩ u0).setCell ⟨b, 1, none⟩ u1).setCell ⟨b, 2, none⟩ u2).setCell ⟨b, 3, none⟩ u3).setCell ⟨b, 4, none⟩ u4) :=
  ret_fld hres hp ht hu hb.set5 hd (hR _ (below_set5 hB hge))
end
theorem sclone_any (l : List UInt8) (w : World) (hl : l.length ≤ 1000000000000) : Calls Try.prog 70 #[.string ⟨l.toArray⟩] w fun e w' => e = .returned (.string ⟨l.toArray⟩) ∧ Below w.heap.size w w' := by
  have hc := fun W => Try.stringslite_Clone ⟨l.toArray⟩ W (by show l.length ≤ _; omega)
  go_enter Try.func70, Try.ntmps70
  go_wp2_with fail
  refine (hc _).mono ?_
  rintro e w' ⟨rfl, hb⟩
  go_wp2_with fail
  go_ret
  exact ⟨rfl, hb⟩
/-- A field as it lies in memory. -/
abbrev fldC (f : Fld) : Value := fldV (f.num : Int) (f.kind : Int) (f.place : Int) f.val f.data
/-- What is told of the field at the front. -/
def OnePost (w : World) (o : Option (Fld × Nat)) (e : Ending) (w' : World) : Prop := (∃ (a b c : Int) (d : Nat) (l : List UInt8) (n : Int) (is : Bool), e = .returned (.tuple #[fldV a b c d l, .int .i64 n, .bool is]) ∧ (∀ f k, o = some (f, k) → a = (f.num : Int) ∧ b = (f.kind : Int) ∧ c = (f.place : Int) ∧ d = f.val ∧ l = f.data ∧ n = (k : Int) ∧ is = true) ∧ (o = none → is = false)) ∧ Below w.heap.size w w'
theorem OnePost.mk_none {w w' : World} {a b c n : Int} {d : Nat} {l : List UInt8} (h : Below w.heap.size w w') : OnePost w none (.returned (.tuple #[fldV a b c d l, .int .i64 n, .bool false])) w' := ⟨⟨a, b, c, d, l, n, false, rfl, ⟨(fun f k h => by cases h), fun _ => rfl⟩⟩, h⟩
theorem OnePost.mk_some {w w' : World} {f : Fld} {k : Nat} (h : Below w.heap.size w w') : OnePost w (some (f, k)) (.returned (.tuple #[fldC f, .int .i64 (k : Int), .bool true])) w' := ⟨⟨_, _, _, _, _, _, _, rfl, ⟨(fun f k h => by cases h; exact ⟨rfl, rfl, rfl, rfl, rfl, rfl, rfl⟩), fun h => by cases h⟩⟩, h⟩
theorem OnePost.mk_some2 {w w' : World} {f : Fld} {k : Nat} {a b c n : Int} {d : Nat} {l : List UInt8} (ha : a = (f.num : Int)) (hb : b = (f.kind : Int)) (hc : c = (f.place : Int)) (hd : d = f.val) (hl : l = f.data) (hn : n = (k : Int)) (h : Below w.heap.size w w') : OnePost w (some (f, k)) (.returned (.tuple #[fldV a b c d l, .int .i64 n, .bool true])) w' := by
  subst ha hb hc hd hl hn; exact OnePost.mk_some h
theorem and7 (t : Nat) (h : t < 18446744073709551616) : bits .and .u64 (t : Int) 7 = ((t % 8 : Nat) : Int) := by
  have h2 := bits_and_u64_nat t 7 h (by decide)
  rw [show ((7 : Nat) : Int) = 7 from rfl] at h2
  rw [h2]
  congr 1
  exact Nat.and_two_pow_sub_one_eq_mod t 3

set_option maxRecDepth 100000 in
set_option maxHeartbeats 2000000 in
/-- fixed. -/
theorem fixed_any (num kind place val k z : Nat) (data b : List UInt8) (o : Option (Fld × Nat)) (w : World) (HO : Hid (o = if b.length - k < z then none else some (⟨num, kind, place, highB ((b.drop k).take z), data⟩, k + z))) (hz : z ≤ 8) (hk : k ≤ b.length) (hbl : b.length ≤ 1000000000000) : Calls Try.prog 69 #[fldV (num : Int) (kind : Int) (place : Int) val data, .string ⟨b.toArray⟩, .int .i64 (k : Int), .int .i64 (z : Int)] w (OnePost w o) := by
  obtain ⟨w0, hw0⟩ : ∃ w0, w0 = ((w.alloc (.cells #[.int .i64 num, .int .i64 kind, .int .i64 place, .int .u64 (val : Int), .string ⟨data.toArray⟩] 77)).alloc (.cells #[.int .i64 0, .int .i64 0, .int .i64 0, .int .u64 0, .string ⟨(List.nil : List UInt8).toArray⟩] 77)) := ⟨_, rfl⟩
  have hbf : Below w.heap.size w w0 := by rw [hw0]; exact (((Below.refl _ w).alloc (Nat.le_refl _) _).alloc (by simp <;> omega) _)
  obtain ⟨px, hpx⟩ : ∃ p, p = w.heap.size := ⟨_, rfl⟩
  have hbx : BoxL w0 px [.int .i64 num, .int .i64 kind, .int .i64 place, .int .u64 (val : Int), .string ⟨data.toArray⟩] := by rw [hw0, hpx]; exact BoxL.of5 (by go_simp) (by go_simp) (by go_simp) (by go_simp) (by go_simp) (by go_simp) (by go_simp) (by go_simp) (by go_simp) (by go_simp)
  obtain ⟨pr, hpr⟩ : ∃ p, p = w.heap.size + 1 := ⟨_, rfl⟩
  have hbr : BoxL w0 pr [.int .i64 0, .int .i64 0, .int .i64 0, .int .u64 0, .string ⟨(List.nil : List UInt8).toArray⟩] := by rw [hw0, hpr]; exact BoxL.of5 (by go_simp) (by go_simp) (by go_simp) (by go_simp) (by go_simp) (by go_simp) (by go_simp) (by go_simp) (by go_simp) (by go_simp)
  have HP : Hid (w.heap.size ≤ px ∧ px < pr) := Lib.hid (by omega)
  have HW := Lib.hid hw0; clear hw0
  go_enter Try.func69, Try.ntmps69
  go_upto_region 1 with fail
  rw [← HW.out, ← hpr, ← hpx]
  clear hpx hpr HW
  by_cases hs : b.length - k < z
  case pos =>
    have hsi : ((b.length : Nat) : Int) - (k : Int) < (z : Int) := by omega
    have hon : o = none := by rw [HO.out, if_pos hs]
    subst hon
    have er0 := hbr.cell 0 _ rfl
    have fr0 := hbr.free 0 (by simp)
    have er1 := hbr.cell 1 _ rfl
    have fr1 := hbr.free 1 (by simp)
    have er2 := hbr.cell 2 _ rfl
    have fr2 := hbr.free 2 (by simp)
    have er3 := hbr.cell 3 _ rfl
    have fr3 := hbr.free 3 (by simp)
    have er4 := hbr.cell 4 _ rfl
    have fr4 := hbr.free 4 (by simp)
    go_wp2_with fail
    exact end_fld rfl rfl rfl rfl rfl hbr (show w.heap.size ≤ pr by have := HP.out; omega) hbf (fun _ h => OnePost.mk_none (l := []) h)
  case neg =>
    have hsi : ¬ ((b.length : Nat) : Int) - (k : Int) < (z : Int) := by omega
    have hx := bytes_extract b k (k + z)
    obtain ⟨l, hl⟩ : ∃ l, l = (b.drop k).take z := ⟨_, rfl⟩
    rw [show (b.take (k + z)).drop k = l by rw [hl, List.drop_take]; congr 1; omega] at hx
    have hll : l.length ≤ 8 := by rw [hl]; exact Nat.le_trans (List.length_take_le _ _) hz
    obtain ⟨v, hv⟩ : ∃ v, v = highB l := ⟨_, rfl⟩
    have HV := Lib.hid hv
    have hon : o = some (⟨num, kind, place, v, data⟩, k + z) := by rw [HO.out, if_neg hs, ← hl, ← hv]
    subst hon
    clear hl hv HO hs
    have hq1 : (0 : Int) ≤ (k : Int) := by omega
    have hq2 : (k : Int) ≤ (k : Int) + (z : Int) := by omega
    have hq3 : (k : Int) + (z : Int) ≤ ((b.length : Nat) : Int) := by omega
    have ex0 := hbx.cell 0 _ rfl
    have ex1 := hbx.cell 1 _ rfl
    have ex2 := hbx.cell 2 _ rfl
    have ex3 := hbx.cell 3 _ rfl
    have ex4 := hbx.cell 4 _ rfl
    go_wp2_with fail
    refine (high_any l v _ hll HV).mono ?_
    rintro e w1 ⟨rfl, hb⟩
    clear ex0 ex1 ex2 ex3 ex4
    replace hbx := hbx.kept hb
    replace hbr := hbr.kept hb
    replace hbf := hbf.trans (hb.mono hbf.size)
    clear hb
    have ex0 := hbx.cell 0 _ rfl
    have fx0 := hbx.free 0 (by simp)
    have ex1 := hbx.cell 1 _ rfl
    have fx1 := hbx.free 1 (by simp)
    have ex2 := hbx.cell 2 _ rfl
    have fx2 := hbx.free 2 (by simp)
    have ex3 := hbx.cell 3 _ rfl
    have fx3 := hbx.free 3 (by simp)
    have ex4 := hbx.cell 4 _ rfl
    have fx4 := hbx.free 4 (by simp)
    go_upto_region 4 with fail
    clear ex0 fx0 ex1 fx1 ex2 fx2 ex3 fx3 ex4 fx4
    obtain ⟨w2, hwE⟩ : ∃ W, W = w1.setCell ⟨px, 3, none⟩ (Value.int .u64 (v : Int)) := ⟨_, rfl⟩
    rw [← hwE]
    replace hbr := hbr.setOther (show pr ≠ px by have := HP.out; omega) 3 (Value.int .u64 (v : Int)); rw [← hwE] at hbr
    replace hbf := hbf.setCell (p := ⟨px, 3, none⟩) (show w.heap.size ≤ px by have := HP.out; omega) (Value.int .u64 (v : Int)); rw [← hwE] at hbf
    replace hbx := hbx.set 3 (Value.int .u64 (v : Int)) (by simp); rw [← hwE] at hbx; clear hwE; simp only [List.set_cons_zero, List.set_cons_succ] at hbx
    have ex0 := hbx.cell 0 _ rfl
    have ex1 := hbx.cell 1 _ rfl
    have ex2 := hbx.cell 2 _ rfl
    have ex3 := hbx.cell 3 _ rfl
    have ex4 := hbx.cell 4 _ rfl
    have er0 := hbr.cell 0 _ rfl
    have fr0 := hbr.free 0 (by simp)
    have er1 := hbr.cell 1 _ rfl
    have fr1 := hbr.free 1 (by simp)
    have er2 := hbr.cell 2 _ rfl
    have fr2 := hbr.free 2 (by simp)
    have er3 := hbr.cell 3 _ rfl
    have fr3 := hbr.free 3 (by simp)
    have er4 := hbr.cell 4 _ rfl
    have fr4 := hbr.free 4 (by simp)
    go_wp2_with fail
    exact end_fld rfl rfl rfl rfl rfl hbr (show w.heap.size ≤ pr by have := HP.out; omega) hbf (fun _ h => by have := OnePost.mk_some (f := ⟨num, kind, place, v, data⟩) (k := k + z) h; simpa using this)

theorem oneF_no (b : List UInt8) (p : Nat) (h : none = getV 0 0 b) : oneF b p = none := by unfold oneF; rw [← h]
theorem oneF_tag {b : List UInt8} {tag k : Nat} (p : Nat) (h : some (tag, k) = getV 0 0 b) : oneF b p = if tag / 8 < 1 ∨ 536870911 < tag / 8 then none
    else if tag % 8 = 0 then (match getV 0 0 (b.drop k) with
      | none => none
      | some (v, n) => some (⟨tag / 8, 0, p, v, []⟩, k + n))
    else if tag % 8 = 1 then (if b.length - k < 8 then none else some (⟨tag / 8, 1, p, highB ((b.drop k).take 8), []⟩, k + 8))
    else if tag % 8 = 5 then (if b.length - k < 4 then none else some (⟨tag / 8, 5, p, highB ((b.drop k).take 4), []⟩, k + 4))
    else if tag % 8 = 2 then (match getV 0 0 (b.drop k) with
      | none => none
      | some (v, n) => if b.length - (k + n) < v then none else some (⟨tag / 8, 2, p, 0, (b.drop (k + n)).take v⟩, k + n + v))
    else none := by unfold oneF; rw [← h]; rfl

set_option maxRecDepth 100000 in
set_option maxHeartbeats 8000000 in
/-- one: the field at the front. -/
theorem one_any (b : List UInt8) (o : Option (Fld × Nat)) (w : World) (HO : Hid (o = oneF b 0)) (hbl : b.length ≤ 1000000000000) : Calls Try.prog 56 #[.string ⟨b.toArray⟩] w (OnePost w o) := by
  obtain ⟨o1, h1⟩ : ∃ o, o = getV 0 0 b := ⟨_, rfl⟩
  have H1 := Lib.hid h1
  have H1s : Hid (getV 0 0 b = o1) := Lib.hid h1.symm
  clear h1
  obtain ⟨w0, hw0⟩ : ∃ w0, w0 = (w.alloc (.cells #[.int .i64 0, .int .i64 0, .int .i64 0, .int .u64 0, .string ⟨(List.nil : List UInt8).toArray⟩] 77)) := ⟨_, rfl⟩
  have hbf : Below w.heap.size w w0 := by rw [hw0]; exact ((Below.refl _ w).alloc (Nat.le_refl _) _)
  obtain ⟨pr, hpr⟩ : ∃ p, p = w.heap.size := ⟨_, rfl⟩
  have hbr : BoxL w0 pr [.int .i64 0, .int .i64 0, .int .i64 0, .int .u64 0, .string ⟨(List.nil : List UInt8).toArray⟩] := by rw [hw0, hpr]; exact BoxL.of5 (by go_simp) (by go_simp) (by go_simp) (by go_simp) (by go_simp) (by go_simp) (by go_simp) (by go_simp) (by go_simp) (by go_simp)
  have HP : Hid (w.heap.size ≤ pr) := Lib.hid (by omega)
  have HW := Lib.hid hw0; clear hw0
  go_enter Try.func56, Try.ntmps56
  go_upto_region 1 with fail
  rw [← HW.out, ← hpr]
  clear hpr HW
  go_wp2_with fail
  refine (gvarint_any b o1 _ (by omega) H1s).mono ?_
  rintro e w1 ⟨rfl, hb⟩
  replace hbr := hbr.kept hb
  replace hbf := hbf.trans (hb.mono hbf.size)
  clear hb
  clear H1s
  rcases o1 with _ | ⟨tag, k⟩
  · skip
    have hon : o = none := by rw [HO.out]; exact oneF_no b 0 H1.out
    subst hon
    unfold tellV
    have er0 := hbr.cell 0 _ rfl
    have fr0 := hbr.free 0 (by simp)
    have er1 := hbr.cell 1 _ rfl
    have fr1 := hbr.free 1 (by simp)
    have er2 := hbr.cell 2 _ rfl
    have fr2 := hbr.free 2 (by simp)
    have er3 := hbr.cell 3 _ rfl
    have fr3 := hbr.free 3 (by simp)
    have er4 := hbr.cell 4 _ rfl
    have fr4 := hbr.free 4 (by simp)
    go_wp2_with fail
    exact end_fld rfl rfl rfl rfl rfl hbr (show w.heap.size ≤ pr by have := HP.out; omega) hbf (fun _ h => OnePost.mk_none (l := []) h)
  have hlim := getV_lim b 0 0 tag k (by decide) H1.out.symm
  obtain ⟨htag, hk0, hkl, hk10⟩ := hlim
  rw [Nat.zero_add] at hkl
  have ho := HO.out
  rw [oneF_tag 0 H1.out] at ho
  unfold tellV
  dsimp only
  obtain ⟨n, hn⟩ : ∃ n, n = tag / 8 := ⟨_, rfl⟩
  obtain ⟨kd, hkd⟩ : ∃ n, n = tag % 8 := ⟨_, rfl⟩
  have hdiv : (tag : Int) / 8 = (n : Int) := by omega
  have hand := and7 tag htag
  rw [← hkd] at hand
  rw [← hn, ← hkd] at ho
  have hkd8 : kd < 8 := by omega
  have HO2 := Lib.hid ho
  clear ho HO H1 hn hkd
  by_cases hlo : n < 1
  case pos =>
    have hlo2 : (n : Int) < 1 := by omega
    have hon : o = none := by rw [HO2.out, if_pos (.inl hlo)]
    subst hon
    clear HO2
    have er0 := hbr.cell 0 _ rfl
    have fr0 := hbr.free 0 (by simp)
    have er1 := hbr.cell 1 _ rfl
    have fr1 := hbr.free 1 (by simp)
    have er2 := hbr.cell 2 _ rfl
    have fr2 := hbr.free 2 (by simp)
    have er3 := hbr.cell 3 _ rfl
    have fr3 := hbr.free 3 (by simp)
    have er4 := hbr.cell 4 _ rfl
    have fr4 := hbr.free 4 (by simp)
    go_wp2_with fail
    exact end_fld rfl rfl rfl rfl rfl hbr (show w.heap.size ≤ pr by have := HP.out; omega) hbf (fun _ h => OnePost.mk_none (l := []) h)
  case neg =>
    have hlo2 : ¬ (n : Int) < 1 := by omega
    by_cases hhi : 536870911 < n
    case pos =>
      have hhi2 : (536870911 : Int) < (n : Int) := by omega
      have hon : o = none := by rw [HO2.out, if_pos (.inr hhi)]
      subst hon
      clear HO2
      have er0 := hbr.cell 0 _ rfl
      have fr0 := hbr.free 0 (by simp)
      have er1 := hbr.cell 1 _ rfl
      have fr1 := hbr.free 1 (by simp)
      have er2 := hbr.cell 2 _ rfl
      have fr2 := hbr.free 2 (by simp)
      have er3 := hbr.cell 3 _ rfl
      have fr3 := hbr.free 3 (by simp)
      have er4 := hbr.cell 4 _ rfl
      have fr4 := hbr.free 4 (by simp)
      go_wp2_with fail
      exact end_fld rfl rfl rfl rfl rfl hbr (show w.heap.size ≤ pr by have := HP.out; omega) hbf (fun _ h => OnePost.mk_none (l := []) h)
    case neg =>
      have hhi2 : ¬ (536870911 : Int) < (n : Int) := by omega
      have ho := HO2.out
      rw [if_neg (by omega)] at ho
      have HO3 := Lib.hid ho
      clear HO2 ho
      by_cases hk : kd = 0
      case pos =>
        subst hk
        rw [show ((0 : Nat) : Int) = 0 from rfl] at hand
        obtain ⟨o2, h2⟩ : ∃ o, o = getV 0 0 (b.drop k) := ⟨_, rfl⟩
        have H2 := Lib.hid h2
        have H2s : Hid (getV 0 0 (b.drop k) = o2) := Lib.hid h2.symm
        have ho := HO3.out
        rw [if_pos rfl, ← h2] at ho
        have HO4 := Lib.hid ho
        clear h2 ho HO3
        obtain ⟨w2, hwE⟩ : ∃ W, W = (w1.alloc (.cells #[.int .i64 (n : Int), .int .i64 0, .int .i64 0, .int .u64 0, .string ⟨(List.nil : List UInt8).toArray⟩] 77)) := ⟨_, rfl⟩
        have hb : Below w1.heap.size w1 w2 := by rw [hwE]; exact ((Below.refl _ w1).alloc (Nat.le_refl _) _)
        obtain ⟨px, hpx⟩ : ∃ p, p = w1.heap.size := ⟨_, rfl⟩
        have hbx : BoxL w2 px [.int .i64 (n : Int), .int .i64 0, .int .i64 0, .int .u64 0, .string ⟨(List.nil : List UInt8).toArray⟩] := by rw [hwE, hpx]; exact BoxL.of5 (by go_simp) (by go_simp) (by go_simp) (by go_simp) (by go_simp) (by go_simp) (by go_simp) (by go_simp) (by go_simp) (by go_simp)
        replace HP : Hid (w.heap.size ≤ pr ∧ pr < px) := Lib.hid (by have h1 := HP.out; have h9 := hbf.size; have h2r := hbr.lt; omega)
        have HW := Lib.hid hwE; clear hwE
        go_upto_region 5 with fail
        rw [← HW.out, ← hpx]
        clear hpx HW
        replace hbr := hbr.kept hb
        replace hbf := hbf.trans (hb.mono hbf.size)
        clear hb
        have hx := bytes_extract b k b.length
        rw [List.take_length] at hx
        have hdl : (b.drop k).length ≤ 9223372036854775807 := by rw [List.length_drop]; omega
        have hki : (k : Int) ≤ ((b.length : Nat) : Int) := by omega
        have ex0 := hbx.cell 0 _ rfl
        have ex1 := hbx.cell 1 _ rfl
        have ex2 := hbx.cell 2 _ rfl
        have ex3 := hbx.cell 3 _ rfl
        have ex4 := hbx.cell 4 _ rfl
        go_wp2_with fail
        refine (gvarint_any (b.drop k) o2 _ hdl H2s).mono ?_
        rintro e w3 ⟨rfl, hb⟩
        clear ex0 ex1 ex2 ex3 ex4
        replace hbr := hbr.kept hb
        replace hbx := hbx.kept hb
        replace hbf := hbf.trans (hb.mono hbf.size)
        clear hb
        clear H2s hx
        rcases o2 with _ | ⟨v, m⟩
        · skip
          have hon : o = none := HO4.out
          subst hon
          unfold tellV
          dsimp only
          have ex0 := hbx.cell 0 _ rfl
          have fx0 := hbx.free 0 (by simp)
          have ex1 := hbx.cell 1 _ rfl
          have fx1 := hbx.free 1 (by simp)
          have ex2 := hbx.cell 2 _ rfl
          have fx2 := hbx.free 2 (by simp)
          have ex3 := hbx.cell 3 _ rfl
          have fx3 := hbx.free 3 (by simp)
          have ex4 := hbx.cell 4 _ rfl
          have fx4 := hbx.free 4 (by simp)
          go_upto_region 9 with fail
          clear ex0 fx0 ex1 fx1 ex2 fx2 ex3 fx3 ex4 fx4
          obtain ⟨w4, hwE⟩ : ∃ W, W = w3.setCell ⟨px, 3, none⟩ (Value.int .u64 0) := ⟨_, rfl⟩
          rw [← hwE]
          replace hbr := hbr.setOther (show pr ≠ px by have := HP.out; omega) 3 (Value.int .u64 0); rw [← hwE] at hbr
          replace hbf := hbf.setCell (p := ⟨px, 3, none⟩) (show w.heap.size ≤ px by have := HP.out; omega) (Value.int .u64 0); rw [← hwE] at hbf
          replace hbx := hbx.set 3 (Value.int .u64 0) (by simp); rw [← hwE] at hbx; clear hwE; simp only [List.set_cons_zero, List.set_cons_succ] at hbx
          have ex0 := hbx.cell 0 _ rfl
          have ex1 := hbx.cell 1 _ rfl
          have ex2 := hbx.cell 2 _ rfl
          have ex3 := hbx.cell 3 _ rfl
          have ex4 := hbx.cell 4 _ rfl
          have er0 := hbr.cell 0 _ rfl
          have fr0 := hbr.free 0 (by simp)
          have er1 := hbr.cell 1 _ rfl
          have fr1 := hbr.free 1 (by simp)
          have er2 := hbr.cell 2 _ rfl
          have fr2 := hbr.free 2 (by simp)
          have er3 := hbr.cell 3 _ rfl
          have fr3 := hbr.free 3 (by simp)
          have er4 := hbr.cell 4 _ rfl
          have fr4 := hbr.free 4 (by simp)
          go_wp2_with fail
          exact end_fld rfl rfl rfl rfl rfl hbr (show w.heap.size ≤ pr by have := HP.out; omega) hbf (fun _ h => OnePost.mk_none (d := 0) (l := []) h)
        have hon : o = some (⟨n, 0, 0, v, []⟩, k + m) := HO4.out
        subst hon
        have hlim := getV_lim _ 0 0 v m (by decide) H2.out.symm
        obtain ⟨hv64, hm0, hml, hm10⟩ := hlim
        unfold tellV
        dsimp only
        have ex0 := hbx.cell 0 _ rfl
        have fx0 := hbx.free 0 (by simp)
        have ex1 := hbx.cell 1 _ rfl
        have fx1 := hbx.free 1 (by simp)
        have ex2 := hbx.cell 2 _ rfl
        have fx2 := hbx.free 2 (by simp)
        have ex3 := hbx.cell 3 _ rfl
        have fx3 := hbx.free 3 (by simp)
        have ex4 := hbx.cell 4 _ rfl
        have fx4 := hbx.free 4 (by simp)
        go_upto_region 9 with fail
        clear ex0 fx0 ex1 fx1 ex2 fx2 ex3 fx3 ex4 fx4
        obtain ⟨w4, hwE⟩ : ∃ W, W = w3.setCell ⟨px, 3, none⟩ (Value.int .u64 (v : Int)) := ⟨_, rfl⟩
        rw [← hwE]
        replace hbr := hbr.setOther (show pr ≠ px by have := HP.out; omega) 3 (Value.int .u64 (v : Int)); rw [← hwE] at hbr
        replace hbf := hbf.setCell (p := ⟨px, 3, none⟩) (show w.heap.size ≤ px by have := HP.out; omega) (Value.int .u64 (v : Int)); rw [← hwE] at hbf
        replace hbx := hbx.set 3 (Value.int .u64 (v : Int)) (by simp); rw [← hwE] at hbx; clear hwE; simp only [List.set_cons_zero, List.set_cons_succ] at hbx
        have ex0 := hbx.cell 0 _ rfl
        have ex1 := hbx.cell 1 _ rfl
        have ex2 := hbx.cell 2 _ rfl
        have ex3 := hbx.cell 3 _ rfl
        have ex4 := hbx.cell 4 _ rfl
        have er0 := hbr.cell 0 _ rfl
        have fr0 := hbr.free 0 (by simp)
        have er1 := hbr.cell 1 _ rfl
        have fr1 := hbr.free 1 (by simp)
        have er2 := hbr.cell 2 _ rfl
        have fr2 := hbr.free 2 (by simp)
        have er3 := hbr.cell 3 _ rfl
        have fr3 := hbr.free 3 (by simp)
        have er4 := hbr.cell 4 _ rfl
        have fr4 := hbr.free 4 (by simp)
        go_wp2_with fail
        exact end_fld rfl rfl rfl rfl rfl hbr (show w.heap.size ≤ pr by have := HP.out; omega) hbf (fun _ h => OnePost.mk_some2 (f := ⟨n, 0, 0, v, []⟩) (k := k + m) (d := v) (l := []) rfl rfl rfl rfl rfl (by omega) h)
      case neg =>
        have hkb0 : ((kd : Int) == 0) = false := by rw [beq_eq_false_iff_ne]; omega
        have ho := HO3.out
        rw [if_neg hk] at ho
        have HO4 := Lib.hid ho
        clear HO3 ho
        by_cases hk1 : kd = 1
        case pos =>
          subst hk1
          rw [show ((1 : Nat) : Int) = 1 from rfl] at hand
          clear hkb0
          obtain ⟨o2, h2⟩ : ∃ o : Option (Fld × Nat), o = if b.length - k < 8 then none else some (⟨n, 1, 0, highB ((b.drop k).take 8), []⟩, k + 8) := ⟨_, rfl⟩
          have H2 := Lib.hid h2
          have hon : o = o2 := by rw [HO4.out, if_pos rfl, h2]
          subst hon
          clear h2 HO4
          obtain ⟨w2, hwE⟩ : ∃ W, W = (w1.alloc (.cells #[.int .i64 (n : Int), .int .i64 1, .int .i64 0, .int .u64 0, .string ⟨(List.nil : List UInt8).toArray⟩] 77)) := ⟨_, rfl⟩
          have hb : Below w1.heap.size w1 w2 := by rw [hwE]; exact ((Below.refl _ w1).alloc (Nat.le_refl _) _)
          obtain ⟨px, hpx⟩ : ∃ p, p = w1.heap.size := ⟨_, rfl⟩
          have hbx : BoxL w2 px [.int .i64 (n : Int), .int .i64 1, .int .i64 0, .int .u64 0, .string ⟨(List.nil : List UInt8).toArray⟩] := by rw [hwE, hpx]; exact BoxL.of5 (by go_simp) (by go_simp) (by go_simp) (by go_simp) (by go_simp) (by go_simp) (by go_simp) (by go_simp) (by go_simp) (by go_simp)
          replace HP : Hid (w.heap.size ≤ pr ∧ pr < px) := Lib.hid (by have h1 := HP.out; have h9 := hbf.size; have h2r := hbr.lt; omega)
          have HW := Lib.hid hwE; clear hwE
          go_upto_region 5 with fail
          rw [← HW.out, ← hpx]
          clear hpx HW
          replace hbr := hbr.kept hb
          replace hbf := hbf.trans (hb.mono hbf.size)
          clear hb
          have ex0 := hbx.cell 0 _ rfl
          have ex1 := hbx.cell 1 _ rfl
          have ex2 := hbx.cell 2 _ rfl
          have ex3 := hbx.cell 3 _ rfl
          have ex4 := hbx.cell 4 _ rfl
          go_wp2_with fail
          clear ex0 ex1 ex2 ex3 ex4
          refine (fixed_any n 1 0 0 k 8 [] b o _ H2 (by decide) (by omega) hbl).mono ?_
          rintro e w3 ⟨⟨a1, a2, a3, a4, a5, a6, a7, rfl, h8, h9⟩, hb⟩
          replace hbr := hbr.kept hb
          replace hbx := hbx.kept hb
          replace hbf := hbf.trans (hb.mono hbf.size)
          clear hb
          have H8 := Lib.hid h8
          have H9 := Lib.hid h9
          clear h8 h9
          have er0 := hbr.cell 0 _ rfl
          have fr0 := hbr.free 0 (by simp)
          have er1 := hbr.cell 1 _ rfl
          have fr1 := hbr.free 1 (by simp)
          have er2 := hbr.cell 2 _ rfl
          have fr2 := hbr.free 2 (by simp)
          have er3 := hbr.cell 3 _ rfl
          have fr3 := hbr.free 3 (by simp)
          have er4 := hbr.cell 4 _ rfl
          have fr4 := hbr.free 4 (by simp)
          go_wp2_with fail
          exact end_fld rfl rfl rfl rfl rfl hbr (show w.heap.size ≤ pr by have := HP.out; omega) hbf (fun _ h => ⟨⟨a1, a2, a3, a4, a5, a6, a7, rfl, H8.out, H9.out⟩, h⟩)
        case neg =>
          have hkb1 : ((kd : Int) == 1) = false := by rw [beq_eq_false_iff_ne]; omega
          have ho := HO4.out
          rw [if_neg hk1] at ho
          have HO5 := Lib.hid ho
          clear HO4 ho
          have hkn1 := hk1
          clear hk1
          by_cases hk1 : kd = 5
          case pos =>
            subst hk1
            rw [show ((5 : Nat) : Int) = 5 from rfl] at hand
            clear hkb0 hkb1
            obtain ⟨o2, h2⟩ : ∃ o : Option (Fld × Nat), o = if b.length - k < 4 then none else some (⟨n, 5, 0, highB ((b.drop k).take 4), []⟩, k + 4) := ⟨_, rfl⟩
            have H2 := Lib.hid h2
            have hon : o = o2 := by rw [HO5.out, if_pos rfl, h2]
            subst hon
            clear h2 HO5
            obtain ⟨w2, hwE⟩ : ∃ W, W = (w1.alloc (.cells #[.int .i64 (n : Int), .int .i64 5, .int .i64 0, .int .u64 0, .string ⟨(List.nil : List UInt8).toArray⟩] 77)) := ⟨_, rfl⟩
            have hb : Below w1.heap.size w1 w2 := by rw [hwE]; exact ((Below.refl _ w1).alloc (Nat.le_refl _) _)
            obtain ⟨px, hpx⟩ : ∃ p, p = w1.heap.size := ⟨_, rfl⟩
            have hbx : BoxL w2 px [.int .i64 (n : Int), .int .i64 5, .int .i64 0, .int .u64 0, .string ⟨(List.nil : List UInt8).toArray⟩] := by rw [hwE, hpx]; exact BoxL.of5 (by go_simp) (by go_simp) (by go_simp) (by go_simp) (by go_simp) (by go_simp) (by go_simp) (by go_simp) (by go_simp) (by go_simp)
            replace HP : Hid (w.heap.size ≤ pr ∧ pr < px) := Lib.hid (by have h1 := HP.out; have h9 := hbf.size; have h2r := hbr.lt; omega)
            have HW := Lib.hid hwE; clear hwE
            go_upto_region 5 with fail
            rw [← HW.out, ← hpx]
            clear hpx HW
            replace hbr := hbr.kept hb
            replace hbf := hbf.trans (hb.mono hbf.size)
            clear hb
            have ex0 := hbx.cell 0 _ rfl
            have ex1 := hbx.cell 1 _ rfl
            have ex2 := hbx.cell 2 _ rfl
            have ex3 := hbx.cell 3 _ rfl
            have ex4 := hbx.cell 4 _ rfl
            go_wp2_with fail
            clear ex0 ex1 ex2 ex3 ex4
            refine (fixed_any n 5 0 0 k 4 [] b o _ H2 (by decide) (by omega) hbl).mono ?_
            rintro e w3 ⟨⟨a1, a2, a3, a4, a5, a6, a7, rfl, h8, h9⟩, hb⟩
            replace hbr := hbr.kept hb
            replace hbx := hbx.kept hb
            replace hbf := hbf.trans (hb.mono hbf.size)
            clear hb
            have H8 := Lib.hid h8
            have H9 := Lib.hid h9
            clear h8 h9
            have er0 := hbr.cell 0 _ rfl
            have fr0 := hbr.free 0 (by simp)
            have er1 := hbr.cell 1 _ rfl
            have fr1 := hbr.free 1 (by simp)
            have er2 := hbr.cell 2 _ rfl
            have fr2 := hbr.free 2 (by simp)
            have er3 := hbr.cell 3 _ rfl
            have fr3 := hbr.free 3 (by simp)
            have er4 := hbr.cell 4 _ rfl
            have fr4 := hbr.free 4 (by simp)
            go_wp2_with fail
            exact end_fld rfl rfl rfl rfl rfl hbr (show w.heap.size ≤ pr by have := HP.out; omega) hbf (fun _ h => ⟨⟨a1, a2, a3, a4, a5, a6, a7, rfl, H8.out, H9.out⟩, h⟩)
          case neg =>
            have hkb5 : ((kd : Int) == 5) = false := by rw [beq_eq_false_iff_ne]; omega
            have ho := HO5.out
            rw [if_neg hk1] at ho
            have HO6 := Lib.hid ho
            clear HO5 ho
            by_cases hk2 : kd = 2
            case pos =>
              subst hk2
              rw [show ((2 : Nat) : Int) = 2 from rfl] at hand
              clear hkb0 hkb1 hkb5
              obtain ⟨o2, h2⟩ : ∃ o, o = getV 0 0 (b.drop k) := ⟨_, rfl⟩
              have H2 := Lib.hid h2
              have H2s : Hid (getV 0 0 (b.drop k) = o2) := Lib.hid h2.symm
              have ho := HO6.out
              rw [if_pos rfl, ← h2] at ho
              have HO7 := Lib.hid ho
              clear h2 ho HO6
              obtain ⟨w2, hwE⟩ : ∃ W, W = (w1.alloc (.cells #[.int .i64 (n : Int), .int .i64 2, .int .i64 0, .int .u64 0, .string ⟨(List.nil : List UInt8).toArray⟩] 77)) := ⟨_, rfl⟩
              have hb : Below w1.heap.size w1 w2 := by rw [hwE]; exact ((Below.refl _ w1).alloc (Nat.le_refl _) _)
              obtain ⟨px, hpx⟩ : ∃ p, p = w1.heap.size := ⟨_, rfl⟩
              have hbx : BoxL w2 px [.int .i64 (n : Int), .int .i64 2, .int .i64 0, .int .u64 0, .string ⟨(List.nil : List UInt8).toArray⟩] := by rw [hwE, hpx]; exact BoxL.of5 (by go_simp) (by go_simp) (by go_simp) (by go_simp) (by go_simp) (by go_simp) (by go_simp) (by go_simp) (by go_simp) (by go_simp)
              replace HP : Hid (w.heap.size ≤ pr ∧ pr < px) := Lib.hid (by have h1 := HP.out; have h9 := hbf.size; have h2r := hbr.lt; omega)
              have HW := Lib.hid hwE; clear hwE
              go_upto_region 5 with fail
              rw [← HW.out, ← hpx]
              clear hpx HW
              replace hbr := hbr.kept hb
              replace hbf := hbf.trans (hb.mono hbf.size)
              clear hb
              have hx := bytes_extract b k b.length
              rw [List.take_length] at hx
              have hdl : (b.drop k).length ≤ 9223372036854775807 := by rw [List.length_drop]; omega
              have hki : (k : Int) ≤ ((b.length : Nat) : Int) := by omega
              have ex0 := hbx.cell 0 _ rfl
              have ex1 := hbx.cell 1 _ rfl
              have ex2 := hbx.cell 2 _ rfl
              have ex3 := hbx.cell 3 _ rfl
              have ex4 := hbx.cell 4 _ rfl
              go_wp2_with fail
              refine (gvarint_any (b.drop k) o2 _ hdl H2s).mono ?_
              rintro e w3 ⟨rfl, hb⟩
              clear ex0 ex1 ex2 ex3 ex4
              replace hbr := hbr.kept hb
              replace hbx := hbx.kept hb
              replace hbf := hbf.trans (hb.mono hbf.size)
              clear hb
              clear H2s hx
              rcases o2 with _ | ⟨v, m⟩
              · skip
                have hon : o = none := HO7.out
                subst hon
                unfold tellV
                dsimp only
                have er0 := hbr.cell 0 _ rfl
                have fr0 := hbr.free 0 (by simp)
                have er1 := hbr.cell 1 _ rfl
                have fr1 := hbr.free 1 (by simp)
                have er2 := hbr.cell 2 _ rfl
                have fr2 := hbr.free 2 (by simp)
                have er3 := hbr.cell 3 _ rfl
                have fr3 := hbr.free 3 (by simp)
                have er4 := hbr.cell 4 _ rfl
                have fr4 := hbr.free 4 (by simp)
                go_wp2_with fail
                exact end_fld rfl rfl rfl rfl rfl hbr (show w.heap.size ≤ pr by have := HP.out; omega) hbf (fun _ h => OnePost.mk_none (l := []) h)
              have hlim := getV_lim _ 0 0 v m (by decide) H2.out.symm
              obtain ⟨hv64, hm0, hml, hm10⟩ := hlim
              rw [Nat.zero_add, List.length_drop] at hml
              unfold tellV
              dsimp only
              have ho := HO7.out
              dsimp only at ho
              have HO8 := Lib.hid ho
              clear HO7 ho
              have hwr : IntKind.u64.wrap (((b.length : Nat) : Int) - ((k : Int) + (m : Int))) = ((b.length : Nat) : Int) - ((k : Int) + (m : Int)) := IntWalk.u64_in _ (by omega)
              by_cases hvb : b.length - (k + m) < v
              case pos =>
                have hvb2 : ((b.length : Nat) : Int) - ((k : Int) + (m : Int)) < (v : Int) := by omega
                have hon : o = none := by rw [HO8.out, if_pos hvb]
                subst hon
                clear HO8
                have er0 := hbr.cell 0 _ rfl
                have fr0 := hbr.free 0 (by simp)
                have er1 := hbr.cell 1 _ rfl
                have fr1 := hbr.free 1 (by simp)
                have er2 := hbr.cell 2 _ rfl
                have fr2 := hbr.free 2 (by simp)
                have er3 := hbr.cell 3 _ rfl
                have fr3 := hbr.free 3 (by simp)
                have er4 := hbr.cell 4 _ rfl
                have fr4 := hbr.free 4 (by simp)
                go_wp2_with fail
                exact end_fld rfl rfl rfl rfl rfl hbr (show w.heap.size ≤ pr by have := HP.out; omega) hbf (fun _ h => OnePost.mk_none (l := []) h)
              case neg =>
                have hvb2 : ¬ ((b.length : Nat) : Int) - ((k : Int) + (m : Int)) < (v : Int) := by omega
                have hx2 := bytes_extract b (k + m) (k + m + v)
                obtain ⟨l, hl⟩ : ∃ l, l = (b.drop (k + m)).take v := ⟨_, rfl⟩
                rw [show (b.take (k + m + v)).drop (k + m) = l by rw [hl, List.drop_take]; congr 1; omega] at hx2
                have hll : l.length ≤ 1000000000000 := by rw [hl]; have := List.length_take_le v (b.drop (k + m)); omega
                have hon : o = some (⟨n, 2, 0, 0, l⟩, k + m + v) := by rw [HO8.out, if_neg hvb, ← hl]
                subst hon
                clear hl HO8
                have hv9 : (v : Int) ≤ 9223372036854775807 := by omega
                have hq1 : (0 : Int) ≤ (k : Int) + (m : Int) := by omega
                have hq2 : (k : Int) + (m : Int) ≤ (k : Int) + (m : Int) + (v : Int) := by omega
                have hq3 : (k : Int) + (m : Int) + (v : Int) ≤ ((b.length : Nat) : Int) := by omega
                have ex0 := hbx.cell 0 _ rfl
                have ex1 := hbx.cell 1 _ rfl
                have ex2 := hbx.cell 2 _ rfl
                have ex3 := hbx.cell 3 _ rfl
                have ex4 := hbx.cell 4 _ rfl
                go_wp2_with fail
                refine (sclone_any l _ hll).mono ?_
                rintro e w4 ⟨rfl, hb⟩
                clear ex0 ex1 ex2 ex3 ex4
                replace hbr := hbr.kept hb
                replace hbx := hbx.kept hb
                replace hbf := hbf.trans (hb.mono hbf.size)
                clear hb
                have ex0 := hbx.cell 0 _ rfl
                have fx0 := hbx.free 0 (by simp)
                have ex1 := hbx.cell 1 _ rfl
                have fx1 := hbx.free 1 (by simp)
                have ex2 := hbx.cell 2 _ rfl
                have fx2 := hbx.free 2 (by simp)
                have ex3 := hbx.cell 3 _ rfl
                have fx3 := hbx.free 3 (by simp)
                have ex4 := hbx.cell 4 _ rfl
                have fx4 := hbx.free 4 (by simp)
                go_upto_region 20 with fail
                clear ex0 fx0 ex1 fx1 ex2 fx2 ex3 fx3 ex4 fx4
                obtain ⟨w5, hwE⟩ : ∃ W, W = w4.setCell ⟨px, 4, none⟩ (Value.string ⟨l.toArray⟩) := ⟨_, rfl⟩
                rw [← hwE]
                replace hbr := hbr.setOther (show pr ≠ px by have := HP.out; omega) 4 (Value.string ⟨l.toArray⟩); rw [← hwE] at hbr
                replace hbf := hbf.setCell (p := ⟨px, 4, none⟩) (show w.heap.size ≤ px by have := HP.out; omega) (Value.string ⟨l.toArray⟩); rw [← hwE] at hbf
                replace hbx := hbx.set 4 (Value.string ⟨l.toArray⟩) (by simp); rw [← hwE] at hbx; clear hwE; simp only [List.set_cons_zero, List.set_cons_succ] at hbx
                have ex0 := hbx.cell 0 _ rfl
                have ex1 := hbx.cell 1 _ rfl
                have ex2 := hbx.cell 2 _ rfl
                have ex3 := hbx.cell 3 _ rfl
                have ex4 := hbx.cell 4 _ rfl
                have er0 := hbr.cell 0 _ rfl
                have fr0 := hbr.free 0 (by simp)
                have er1 := hbr.cell 1 _ rfl
                have fr1 := hbr.free 1 (by simp)
                have er2 := hbr.cell 2 _ rfl
                have fr2 := hbr.free 2 (by simp)
                have er3 := hbr.cell 3 _ rfl
                have fr3 := hbr.free 3 (by simp)
                have er4 := hbr.cell 4 _ rfl
                have fr4 := hbr.free 4 (by simp)
                go_wp2_with fail
                exact end_fld rfl rfl rfl rfl rfl hbr (show w.heap.size ≤ pr by have := HP.out; omega) hbf (fun _ h => OnePost.mk_some2 (f := ⟨n, 2, 0, 0, l⟩) (k := k + m + v) (d := 0) (l := l) rfl rfl rfl rfl rfl (by omega) h)
            case neg =>
              have hkb2 : ((kd : Int) == 2) = false := by rw [beq_eq_false_iff_ne]; omega
              have hon : o = none := by rw [HO6.out, if_neg hk2]
              subst hon
              clear HO6
              obtain ⟨w2, hwE⟩ : ∃ W, W = (w1.alloc (.cells #[.int .i64 (n : Int), .int .i64 (kd : Int), .int .i64 0, .int .u64 0, .string ⟨(List.nil : List UInt8).toArray⟩] 77)) := ⟨_, rfl⟩
              have hb : Below w1.heap.size w1 w2 := by rw [hwE]; exact ((Below.refl _ w1).alloc (Nat.le_refl _) _)
              obtain ⟨px, hpx⟩ : ∃ p, p = w1.heap.size := ⟨_, rfl⟩
              have hbx : BoxL w2 px [.int .i64 (n : Int), .int .i64 (kd : Int), .int .i64 0, .int .u64 0, .string ⟨(List.nil : List UInt8).toArray⟩] := by rw [hwE, hpx]; exact BoxL.of5 (by go_simp) (by go_simp) (by go_simp) (by go_simp) (by go_simp) (by go_simp) (by go_simp) (by go_simp) (by go_simp) (by go_simp)
              replace HP : Hid (w.heap.size ≤ pr ∧ pr < px) := Lib.hid (by have h1 := HP.out; have h9 := hbf.size; have h2r := hbr.lt; omega)
              have HW := Lib.hid hwE; clear hwE
              go_upto_region 5 with fail
              rw [← HW.out, ← hpx]
              clear hpx HW
              replace hbr := hbr.kept hb
              replace hbf := hbf.trans (hb.mono hbf.size)
              clear hb
              have ex0 := hbx.cell 0 _ rfl
              have ex1 := hbx.cell 1 _ rfl
              have ex2 := hbx.cell 2 _ rfl
              have ex3 := hbx.cell 3 _ rfl
              have ex4 := hbx.cell 4 _ rfl
              clear ex0 ex1 ex2 ex3 ex4
              have ex0 := hbx.cell 0 _ rfl
              have ex1 := hbx.cell 1 _ rfl
              have ex2 := hbx.cell 2 _ rfl
              have ex3 := hbx.cell 3 _ rfl
              have ex4 := hbx.cell 4 _ rfl
              have er0 := hbr.cell 0 _ rfl
              have fr0 := hbr.free 0 (by simp)
              have er1 := hbr.cell 1 _ rfl
              have fr1 := hbr.free 1 (by simp)
              have er2 := hbr.cell 2 _ rfl
              have fr2 := hbr.free 2 (by simp)
              have er3 := hbr.cell 3 _ rfl
              have fr3 := hbr.free 3 (by simp)
              have er4 := hbr.cell 4 _ rfl
              have fr4 := hbr.free 4 (by simp)
              go_wp2_with fail
              exact end_fld rfl rfl rfl rfl rfl hbr (show w.heap.size ≤ pr by have := HP.out; omega) hbf (fun _ h => OnePost.mk_none (l := []) h)

end Go.Proofs.Ytjcldnkgidfifaa
