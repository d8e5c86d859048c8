/-
  Pd07: MathE MathV MathW PrepM HeapQ SeqA SeqF (what is needed of them).
-/
import Derived.Test.YtlmjkbdodecbmaaDoorPd06
import Derived.Deep.RegionHeld3
import Derived.WalkKit
import Derived.OwnWalkIn

namespace Go.Proofs.YtlmjkbdodecbmaaDoor
open Go.RowKit
set_option linter.unusedVariables false
set_option linter.unusedSimpArgs false
theorem tw_all (p : UInt8 → Bool) (A : List UInt8) (hA : A.all p = true) : A.takeWhile p = A ∧ A.dropWhile p = [] := by
  induction A with
  | nil => simp
  | cons x A ih =>
    simp only [List.all_cons, Bool.and_eq_true] at hA
    have := ih hA.2
    simp [List.takeWhile_cons, List.dropWhile_cons, hA.1, this.1, this.2]
theorem dnum_noughts (k : Nat) : dnum (List.replicate k 48) = 0 := by
  induction k with
  | zero => rfl
  | succ k ih => rw [List.replicate_succ', dnum_snoc, ih]; rfl
theorem dnum_pad (k : Nat) (l : List UInt8) : dnum (List.replicate k 48 ++ l) = dnum l := by rw [dnum_append, dnum_noughts]; omega
theorem take_drop_digs {l : List UInt8} (h : l.all isDig = true) (k : Nat) : (l.take k).all isDig = true ∧ (l.drop k).all isDig = true := by
  rw [← List.take_append_drop k l, List.all_append, Bool.and_eq_true] at h
  exact h
theorem litVal_of {l : List UInt8} (h : litCode l = 0) : litVal l = litQ (sneg l) (dnum (lall l)) (expOf l) := by unfold litVal; rw [if_pos h]
/-! Noughts ahead. -/
theorem strip_num {l : List UInt8} (h : l.all isDig = true) : dnum (l.dropWhile (· == 48)) = dnum l ∧ (l.dropWhile (· == 48) = [] → dnum l = 0) ∧ (l.dropWhile (· == 48) ≠ [] → numOk (l.dropWhile (· == 48)) = true) := by
  induction l with
  | nil => exact ⟨rfl, fun _ => rfl, fun h => (h rfl).elim⟩
  | cons c l ih =>
    by_cases hc : c = 48
    · subst hc
      have h2 := ih (by simp only [List.all_cons, Bool.and_eq_true] at h; exact h.2)
      have e : dnum (48 :: l) = dnum l := by have := dnum_pad 1 l; simpa using this
      rw [e]
      simp only [List.dropWhile_cons, beq_self_eq_true, if_true]
      exact h2
    · have hb : (c == 48) = false := by simpa using hc
      have hw : (c :: l).dropWhile (· == 48) = c :: l := by simp [List.dropWhile_cons, hb]
      rw [hw]
      refine ⟨rfl, (fun h3 => by simp at h3), fun _ => ?_⟩
      unfold numOk
      rw [h]
      simp [hc]
theorem pcode_strip {l : List UInt8} (h : l.all isDig = true) (hl : l.length ≤ 1200) (hne : l.dropWhile (· == 48) ≠ []) : pcode (l.dropWhile (· == 48)) = 0 ∧ pval (l.dropWhile (· == 48)) = dnum l := by
  have h1 := strip_num h
  have h2 := h1.2.2 hne
  have h3 := (List.dropWhile_sublist (l := l) (· == 48)).length_le
  unfold pcode pval
  rw [if_pos h2, if_pos h2, if_neg (by omega), if_neg (by omega)]
  exact ⟨rfl, h1.1⟩
end Go.Proofs.YtlmjkbdodecbmaaDoor

namespace Go.Proofs.YtlmjkbdodecbmaaDoor
open Go.RowKit
set_option linter.unusedVariables false
set_option linter.unusedSimpArgs false
theorem places_dvd {q : Rat} {t f : Nat} (h : q.den ∣ 2 ^ t * 5 ^ f) : places q ≤ max t f := by
  have h1 := cnt_eq (b := 2) (by decide) q.den (den_pos q)
  have h2 := cnt_eq (b := 5) (by decide) (crest 2 q.den) h1.2.2
  have c25 : ∀ a b : Nat, Nat.Coprime (2 ^ a) (5 ^ b) := fun a b => Nat.Coprime.pow a b (by decide)
  have d1 : 2 ^ cnt 2 q.den ∣ 2 ^ t * 5 ^ f := Nat.dvd_trans ⟨_, h1.1⟩ h
  have d2 : 2 ^ cnt 2 q.den ∣ 2 ^ t := Nat.Coprime.dvd_of_dvd_mul_right (c25 _ _) d1
  have d3 : cnt 2 q.den ≤ t := (Nat.pow_dvd_pow_iff_le_right (by decide)).1 d2
  have e1 : 5 ^ cnt 5 (crest 2 q.den) ∣ 2 ^ t * 5 ^ f := Nat.dvd_trans (Nat.dvd_trans ⟨_, h2.1⟩ ⟨_, h1.1.trans (Nat.mul_comm _ _)⟩) h
  have e2 : 5 ^ cnt 5 (crest 2 q.den) ∣ 5 ^ f := Nat.Coprime.dvd_of_dvd_mul_left (c25 _ _).symm e1
  have e3 : cnt 5 (crest 2 q.den) ≤ f := (Nat.pow_dvd_pow_iff_le_right (by decide)).1 e2
  unfold places
  omega
theorem places_dvd10 {q : Rat} {k : Nat} (h : q.den ∣ 10 ^ k) : places q ≤ k := by
  have := places_dvd (q := q) (t := k) (f := k) (by rw [← Nat.mul_pow]; exact h)
  omega
theorem litQ_places (neg : Bool) (n : Nat) (k : Int) : places (litQ neg n k) ≤ k.natAbs := by
  unfold litQ
  split
  · exact places_dvd10 (qOf_den_dvd _ _ (Nat.pow_pos (by decide)))
  · exact Nat.le_trans (places_dvd10 (k := 0) (qOf_den_dvd _ _ (by decide))) (Nat.zero_le _)
theorem lit_places (l : List UInt8) : places (litVal l) ≤ 800 := by
  unfold litVal
  split
  · rename_i h
    have h1 := litCode_zero h
    exact Nat.le_trans (litQ_places _ _ _) (Nat.le_trans (expOf_le h h1.2.2) (by decide))
  · exact Nat.le_trans (places_dvd10 (k := 0) (by show (1 : Nat) ∣ _; exact Nat.one_dvd _)) (Nat.zero_le _)
/-- A fraction whose text is not too long. -/
def LOk (q : Rat) : Prop := QB q 1300 ∧ places q ≤ 1200 ∧ (dec q.num.natAbs).length ≤ 1200 ∧ (dec q.den).length ≤ 1200
theorem LOk.of {q : Rat} {K : Nat} (h1 : q.num.natAbs < 10 ^ K) (h2 : q.den < 10 ^ K) (hK : K ≤ 1200) (hK0 : 0 < K) (hp : places q ≤ 1200) : LOk q :=
  ⟨⟨Nat.le_trans (limbs_pow10 h1) (Nat.le_trans hK (by decide)), Nat.le_trans (limbs_pow10 h2) (Nat.le_trans hK (by decide))⟩, hp, Nat.le_trans (dec_le h1 hK0) hK, Nat.le_trans (dec_le h2 hK0) hK⟩
theorem LOk.lit {l : List UInt8} (h : l.length ≤ 300) : LOk (litVal l) := by
  have h1 := litVal_lt (l := l) (K := 300) h
  exact LOk.of h1.1 h1.2 (by decide) (by decide) (Nat.le_trans (lit_places l) (by decide))
end Go.Proofs.YtlmjkbdodecbmaaDoor

namespace Go.Proofs.YtlmjkbdodecbmaaDoor
open Go.RowKit
set_option linter.unusedVariables false
set_option linter.unusedSimpArgs false
/-- A value: its kind, its number's text, its category. -/
abbrev valV (k : Int) (n c : List UInt8) : Value := .agg #[.int .i64 k, .string ⟨n.toArray⟩, .string ⟨c.toArray⟩]
structure V3 where
  k : Int
  n : List UInt8
  c : List UInt8
def vnum (k : Int) (n c : List UInt8) : Bool := decide (k = 1) && (decide (c = []) && decide (qcode n = 0))
def vvalid (k : Int) (n c : List UInt8) : Bool := if k = 0 then decide (n = []) && decide (c = []) else if k = 2 then decide (n = []) && decide (c.length ≤ 60) else vnum k n c
def vtext (k : Int) (n c : List UInt8) : List UInt8 := if vvalid k n c = true then (if k = 0 then [63] else if k = 2 then 58 :: c else n) else [33]
/-- What a text says: the code, the kind, the number's text, the category. -/
def vpc (s : List UInt8) : Int := if s = [63] then 0 else if s.head? = some 58 then (if 60 < s.tail.length then 3 else 0) else if qcode s = 0 then 0 else litCode s
def vpk (s : List UInt8) : Int := if s = [63] then 0 else if s.head? = some 58 then (if 60 < s.tail.length then 0 else 2) else if qcode s = 0 then 1 else if litCode s = 0 then 1 else 0
def vpn (s : List UInt8) : List UInt8 := if s = [63] then [] else if s.head? = some 58 then [] else if qcode s = 0 then qtext (qval s) else if litCode s = 0 then qtext (litVal s) else []
def vpcat (s : List UInt8) : List UInt8 := if s = [63] then [] else if s.head? = some 58 then (if 60 < s.tail.length then [] else s.tail) else []
theorem vtext_bad {k : Int} {n c : List UInt8} (h : vvalid k n c = false) : vtext k n c = [33] := by
  unfold vtext; rw [h]; rfl
end Go.Proofs.YtlmjkbdodecbmaaDoor

namespace Go.Proofs.YtlmjkbdodecbmaaDoor
open Go.RowKit
set_option linter.unusedVariables false
set_option linter.unusedSimpArgs false
/-- A field: its name, kind, declared values, what stands in a missing one's place, what is done with others. -/
structure F5 where
  nm : List UInt8
  k : Int
  vals : List (List UInt8)
  r : V3
  inv : Int
def v0 : V3 := ⟨0, [], []⟩
/-- Fit. -/
def fitB (f : F5) (v : V3) : Bool := if v.k = 1 then decide (f.k = 1) else decide (v.k = 2) && (decide (f.k = 2) && (decide (f.vals = []) || decide (v.c ∈ f.vals)))
/-- declared. -/
def declB : List (List UInt8) → List (List UInt8) → Bool
  | _, [] => true
  | b, s :: r => decide (s.length ≤ 60) && (decide (s ∉ b) && declB (b ++ [s]) r)
/-- ValidField. -/
def validF (f : F5) : Bool := decide (1 ≤ f.nm.length ∧ f.nm.length ≤ 60) && (decide (f.k = 1 ∨ f.k = 2) && (decide (f.inv = 1 ∨ f.inv = 2 ∨ f.inv = 3) && (decide (¬ (f.k = 1 ∧ f.vals ≠ [])) && ((declB [] f.vals && decide (f.vals.length ≤ 100)) && (vvalid f.r.k f.r.n f.r.c && (decide (f.r.k = 0) || fitB f f.r))))))
/-- invalid. -/
def invV (f : F5) (v : V3) : Option V3 := if f.inv = 3 then some v0 else if f.inv = 2 ∧ f.k = 2 ∧ v.k = 2 then some v else none
/-- One value made ready. -/
def prep1 (f : F5) (v : V3) : Option V3 := ((if v.k ≠ 0 ∧ fitB f v = false then invV f v else some v)).map fun u => if u.k = 0 then f.r else u
def prepL : List F5 → List V3 → Option (List V3)
  | f :: fs, v :: vs => (prep1 f v).bind fun u => (prepL fs vs).map fun us => u :: us
  | _, _ => some []
def allOk (fs : List F5) (vs : List V3) : Bool := (fs.zip vs).all fun x => validF x.1 && vvalid x.2.k x.2.n x.2.c
/-- Prepare: the row, whether it is taken, the code. -/
def prepV (fs : List F5) (vs : List V3) : List V3 × Bool × Int := if fs.length ≠ vs.length then ([], false, 16) else if allOk fs vs = false then ([], false, 1) else match prepL fs vs with | none => ([], false, 0) | some us => (us, true, 0)
theorem validF_out {f : F5} (h : validF f = true) : vvalid f.r.k f.r.n f.r.c = true ∧ (f.r.k = 0 ∨ fitB f f.r = true) := by
  unfold validF at h
  simp only [Bool.and_eq_true, Bool.or_eq_true, decide_eq_true_eq] at h
  exact ⟨h.2.2.2.2.2.1, h.2.2.2.2.2.2⟩
theorem fit_kind {f : F5} {v : V3} (h : fitB f v = true) : v.k ≠ 0 := by
  unfold fitB at h
  intro h0
  rw [h0] at h
  simp at h
theorem prep1_zero (f : F5) : prep1 f v0 = some f.r := by
  unfold prep1; rw [if_neg (by simp [v0])]; rfl
theorem prep1_fit {f : F5} {v : V3} (h : fitB f v = true) : prep1 f v = some v := by
  unfold prep1
  rw [if_neg (by rw [h]; simp), Option.map_some, if_neg (fit_kind h)]
theorem prep1_repl {f : F5} (h : validF f = true) : prep1 f f.r = some f.r := by
  rcases (validF_out h).2 with h0 | h0
  · unfold prep1
    rw [if_neg (by rw [h0]; simp), Option.map_some, if_pos h0]
  · exact prep1_fit h0
/-- A value that is ready may be, and is ready still. -/
theorem prep1_again {f : F5} {v u : V3} (hf : validF f = true) (hv : vvalid v.k v.n v.c = true) (h : prep1 f v = some u) : vvalid u.k u.n u.c = true ∧ prep1 f u = some u := by
  have hr : vvalid f.r.k f.r.n f.r.c = true ∧ prep1 f f.r = some f.r := ⟨(validF_out hf).1, prep1_repl hf⟩
  have h2 := h
  unfold prep1 at h
  by_cases hc : v.k ≠ 0 ∧ fitB f v = false
  · rw [if_pos hc] at h
    unfold invV at h
    by_cases h3 : f.inv = 3
    · rw [if_pos h3, Option.map_some, if_pos (by rfl)] at h
      cases h; exact hr
    · rw [if_neg h3] at h
      by_cases h4 : f.inv = 2 ∧ f.k = 2 ∧ v.k = 2
      · rw [if_pos h4, Option.map_some, if_neg hc.1] at h
        cases h; exact ⟨hv, h2⟩
      · rw [if_neg h4] at h; cases h
  · rw [if_neg hc, Option.map_some] at h
    by_cases h0 : v.k = 0
    · rw [if_pos h0] at h; cases h; exact hr
    · rw [if_neg h0] at h; cases h; exact ⟨hv, h2⟩
theorem prepL_again : ∀ (fs : List F5) (vs us : List V3), fs.length = vs.length → allOk fs vs = true → prepL fs vs = some us → us.length = vs.length ∧ allOk fs us = true ∧ prepL fs us = some us := by
  intro fs
  induction fs with
  | nil =>
    intro vs us hl _ h
    cases vs with
    | nil => cases h; exact ⟨rfl, rfl, rfl⟩
    | cons v vs => simp at hl
  | cons f fs ih =>
    intro vs us hl ha h
    cases vs with
    | nil => simp at hl
    | cons v vs =>
      unfold allOk at ha
      simp only [List.zip_cons_cons, List.all_cons, Bool.and_eq_true] at ha
      unfold prepL at h
      cases h1 : prep1 f v with
      | none => rw [h1] at h; cases h
      | some u =>
        rw [h1] at h
        cases h3 : prepL fs vs with
        | none => rw [h3] at h; cases h
        | some ws =>
          rw [h3] at h
          cases h
          obtain ⟨i1, i2, i3⟩ := ih vs ws (by simpa using hl) (by unfold allOk; exact ha.2) h3
          obtain ⟨j1, j2⟩ := prep1_again ha.1.1 ha.1.2 h1
          refine ⟨by simp [i1], ?_, ?_⟩
          · unfold allOk at i2 ⊢
            simp only [List.zip_cons_cons, List.all_cons, Bool.and_eq_true]
            exact ⟨⟨ha.1.1, j1⟩, i2⟩
          · unfold prepL; rw [j2, i3]; rfl
/-- What is ready is ready still. -/
theorem prepV_again {fs : List F5} {vs us : List V3} (h : prepV fs vs = (us, true, 0)) : prepV fs us = (us, true, 0) := by
  unfold prepV at h
  by_cases hl : fs.length ≠ vs.length
  · rw [if_pos hl] at h; cases h
  · rw [if_neg hl] at h
    have hl' : fs.length = vs.length := Decidable.not_not.1 hl
    by_cases ha : allOk fs vs = false
    · rw [if_pos ha] at h; cases h
    · rw [if_neg ha] at h
      cases hp : prepL fs vs with
      | none => rw [hp] at h; cases h
      | some ws =>
        rw [hp] at h
        cases h
        obtain ⟨i1, i2, i3⟩ := prepL_again fs vs us hl' (by simpa using ha) hp
        unfold prepV
        rw [if_neg (by rw [i1]; exact hl), if_neg (by rw [i2]; simp), i3]
theorem prepL_zero : ∀ (fs : List F5), prepL fs (List.replicate fs.length v0) = some (fs.map (·.r)) := by
  intro fs
  induction fs with
  | nil => rfl
  | cons f fs ih =>
    rw [List.length_cons, List.replicate_succ]
    unfold prepL
    rw [prep1_zero, ih]; rfl
theorem allOk_zero : ∀ (fs : List F5), allOk fs (List.replicate fs.length v0) = fs.all validF := by
  intro fs
  induction fs with
  | nil => rfl
  | cons f fs ih =>
    rw [List.length_cons, List.replicate_succ]
    unfold allOk at ih ⊢
    rw [List.zip_cons_cons, List.all_cons, List.all_cons, ih]
    rw [show vvalid v0.k v0.n v0.c = true by rfl, Bool.and_true]
/-- A row of which all is missing. -/
theorem prepV_zero (fs : List F5) : prepV fs (List.replicate fs.length v0) = if fs.all validF = true then (fs.map (·.r), true, 0) else ([], false, 1) := by
  unfold prepV
  rw [if_neg (by simp), allOk_zero, prepL_zero]
  cases h : fs.all validF <;> simp
theorem prepL_fits : ∀ (fs : List F5) (vs : List V3), fs.length = vs.length → ((fs.zip vs).all fun x => fitB x.1 x.2) = true → prepL fs vs = some vs := by
  intro fs
  induction fs with
  | nil =>
    intro vs hl _
    cases vs with
    | nil => rfl
    | cons v vs => simp at hl
  | cons f fs ih =>
    intro vs hl h
    cases vs with
    | nil => simp at hl
    | cons v vs =>
      simp only [List.zip_cons_cons, List.all_cons, Bool.and_eq_true] at h
      unfold prepL
      rw [prep1_fit h.1, ih vs (by simpa using hl) h.2]; rfl
/-- A row whose values all fit stays. -/
theorem prepV_fits {fs : List F5} {vs us : List V3} (h : prepV fs vs = (us, true, 0)) (hf : ((fs.zip vs).all fun x => fitB x.1 x.2) = true) : us = vs := by
  unfold prepV at h
  by_cases hl : fs.length ≠ vs.length
  · rw [if_pos hl] at h; cases h
  · rw [if_neg hl] at h
    by_cases ha : allOk fs vs = false
    · rw [if_pos ha] at h; cases h
    · rw [if_neg ha, prepL_fits fs vs (Decidable.not_not.1 hl) hf] at h
      cases h; rfl
/-- What is not taken is no row. -/
theorem prepV_none {fs : List F5} {vs us : List V3} {b : Bool} {c : Int} (h : prepV fs vs = (us, b, c)) (hn : ¬ (c = 0 ∧ b = true)) : us = [] := by
  unfold prepV at h
  split at h
  · cases h; rfl
  · split at h
    · cases h; rfl
    · split at h
      · cases h; rfl
      · cases h; exact absurd ⟨rfl, rfl⟩ hn
end Go.Proofs.YtlmjkbdodecbmaaDoor

namespace Go.Proofs.YtlmjkbdodecbmaaDoor
open Go.RowKit
set_option linter.unusedVariables false
set_option linter.unusedSimpArgs false
/-- A block of three cells, a variable of the call's own. -/
structure Box3 (w : World) (b : Nat) (x y z : Value) : Prop where
  c0 : w.cell? ⟨b, 0, none⟩ = some x
  c1 : w.cell? ⟨b, 1, none⟩ = some y
  c2 : w.cell? ⟨b, 2, none⟩ = some z
  f0 : w.frozen? ⟨b, 0, none⟩ = false
  f1 : w.frozen? ⟨b, 1, none⟩ = false
  f2 : w.frozen? ⟨b, 2, none⟩ = false
theorem Box3.lt {w : World} {b : Nat} {x y z : Value} (h : Box3 w b x y z) : b < w.heap.size := World.block_lt_of_cell? w ⟨b, 0, none⟩ h.c0
theorem Box3.below {w w' : World} {b B : Nat} {x y z : Value} (h : Box3 w b x y z) (hb : Below B w w') (hlt : b < B) : Box3 w' b x y z :=
  ⟨(hb.cell (p := ⟨b, 0, none⟩) hlt).trans h.c0, (hb.cell (p := ⟨b, 1, none⟩) hlt).trans h.c1, (hb.cell (p := ⟨b, 2, none⟩) hlt).trans h.c2,
    (hb.frozen (p := ⟨b, 0, none⟩) hlt).trans h.f0, (hb.frozen (p := ⟨b, 1, none⟩) hlt).trans h.f1, (hb.frozen (p := ⟨b, 2, none⟩) hlt).trans h.f2⟩
theorem Box3.kept {w w' : World} {b : Nat} {x y z : Value} (h : Box3 w b x y z) (hb : Below w.heap.size w w') : Box3 w' b x y z := h.below hb h.lt
/-- A fraction of the program's in memory: of its sign, and of the numbers in lowest terms (no denominator where it is 0). -/
def den0 (q : Rat) : Nat := if q = 0 then 0 else q.den
def QIs (w : World) (v : Value) (q : Rat) : Prop := ∃ xo xl xc yo yl yc, v = .agg #[.bool (decide (q < 0)), .slice xo xl xc, .slice yo yl yc] ∧ NatIs w (.agg #[.slice xo xl xc]) q.num.natAbs ∧ NatIs w (.agg #[.slice yo yl yc]) (den0 q)
theorem QIs.below {w w' : World} {v : Value} {q : Rat} (h : QIs w v q) (hb : Below w.heap.size w w') : QIs w' v q := by
  obtain ⟨xo, xl, xc, yo, yl, yc, h1, h2, h3⟩ := h
  exact ⟨xo, xl, xc, yo, yl, yc, h1, h2.below hb, h3.below hb⟩
theorem QIs.mk {w : World} {x y : Value} {q : Rat} {s : Bool} (hs : s = decide (q < 0)) (h2 : NatIs w (.agg #[x]) q.num.natAbs) (h3 : NatIs w (.agg #[y]) (den0 q)) : QIs w (.agg #[.bool s, x, y]) q := by
  obtain ⟨ao, ca, h8, _⟩ := h2.open
  obtain ⟨bo, cb, h9, _⟩ := h3.open
  cases h8
  cases h9
  subst hs
  exact ⟨_, _, _, _, _, _, rfl, h2, h3⟩
theorem QIs.zero (w : World) : QIs w (.agg #[.bool false, .slice none 0 0, .slice none 0 0]) 0 := QIs.mk (by decide) (NatIs.zero w) (NatIs.zero w)
/-- A fraction of the document's in memory. -/
def RQIs (w : World) (v : Value) (q : Rat) : Prop := ∃ xo xl xc yo yl yc, v = .agg #[.bool (decide (q < 0)), .slice xo xl xc, .slice yo yl yc] ∧ RIs w (.slice xo xl xc) q.num.natAbs ∧ RIs w (.slice yo yl yc) q.den
theorem RQIs.below {w w' : World} {v : Value} {q : Rat} (h : RQIs w v q) (hb : Below w.heap.size w w') : RQIs w' v q := by
  obtain ⟨xo, xl, xc, yo, yl, yc, h1, h2, h3⟩ := h
  exact ⟨xo, xl, xc, yo, yl, yc, h1, h2.below hb, h3.below hb⟩
theorem load_rat {w : World} {b : Nat} {x y z : Value} (h : Box3 w b x y z) : (loadVar 120 ⟨b, 0, none⟩).run Tryd.prog w = .ok (.agg #[x, y, z]) w := by
  have h0 := h.c0
  have h1 := h.c1
  have h2 := h.c2
  simp [go_sem, h0, h1, h2]
/-- The end of a function whose one result is a fraction. -/
theorem ret_rat {fn : Func} {s : Nat} {R : Ending → World → Prop} {a : Act} {w : World} {b : Nat} {x y z : Value} (hres : fn.results = #[.cell s 120]) (hp : a.tmps.getD s undef = .pointer (some ⟨b, 0, none⟩)) (hc : Box3 w b x y z) (hd : a.defers = []) (hR : R (.returned (.agg #[x, y, z])) w) : bodyPost Tryd.prog fn R .ret a w := by
  refine bodyPost_ret (v := .agg #[x, y, z]) ?_ hd hR
  have hp' : a.tmps[s]?.getD undef = .pointer (some ⟨b, 0, none⟩) := by simpa using hp
  simp only [results, hres]
  simp [Sem.run_bind, Sem.run_pure, Result.andThen, hp', asAddr, load_rat hc]
/-- The end of a function whose results are a fraction and a plain value. -/
theorem ret_rat_tmp {fn : Func} {s t : Nat} {R : Ending → World → Prop} {a : Act} {w : World} {b : Nat} {x y z u : Value} (hres : fn.results = #[.cell s 120, .tmp t]) (hp : a.tmps.getD s undef = .pointer (some ⟨b, 0, none⟩)) (hu : a.tmps.getD t undef = u) (hc : Box3 w b x y z) (hd : a.defers = []) (hR : R (.returned (.tuple #[.agg #[x, y, z], u])) w) : bodyPost Tryd.prog fn R .ret a w := by
  refine bodyPost_ret (v := .tuple #[.agg #[x, y, z], u]) ?_ hd hR
  rw [results_cell_tmp hres, hp, hu]
  simp [asAddr, load_rat hc]
/-- Stores into a box of three cells. -/
theorem Box3.set0 {w : World} {b : Nat} {x y z : Value} (h : Box3 w b x y z) (u : Value) : Box3 (w.setCell ⟨b, 0, none⟩ u) b u y z := by
  have e0 := h.c0
  have e1 := h.c1
  have e2 := h.c2
  have g0 := h.f0
  have g1 := h.f1
  have g2 := h.f2
  exact ⟨by go_simp, by go_simp, by go_simp, by go_simp, by go_simp, by go_simp⟩
theorem Box3.set1 {w : World} {b : Nat} {x y z : Value} (h : Box3 w b x y z) (u : Value) : Box3 (w.setCell ⟨b, 1, none⟩ u) b x u z := by
  have e0 := h.c0
  have e1 := h.c1
  have e2 := h.c2
  have g0 := h.f0
  have g1 := h.f1
  have g2 := h.f2
  exact ⟨by go_simp, by go_simp, by go_simp, by go_simp, by go_simp, by go_simp⟩
theorem Box3.set2 {w : World} {b : Nat} {x y z : Value} (h : Box3 w b x y z) (u : Value) : Box3 (w.setCell ⟨b, 2, none⟩ u) b x y u := by
  have e0 := h.c0
  have e1 := h.c1
  have e2 := h.c2
  have g0 := h.f0
  have g1 := h.f1
  have g2 := h.f2
  exact ⟨by go_simp, by go_simp, by go_simp, by go_simp, by go_simp, by go_simp⟩
theorem Box3.setOther {w : World} {b g : Nat} {x y z : Value} (h : Box3 w b x y z) (hne : b ≠ g) (j : Nat) (u : Value) : Box3 (w.setCell ⟨g, j, none⟩ u) b x y z := by
  have hg : (w.setCell ⟨g, j, none⟩ u).heap[b]? = w.heap[b]? := (grownBy_set (grownBy_refl w (some g)) j u).block b h.lt (by simpa using hne)
  exact ⟨(World.cell?_of_block (w := w) (a := ⟨b, 0, none⟩) hg).trans h.c0, (World.cell?_of_block (w := w) (a := ⟨b, 1, none⟩) hg).trans h.c1, (World.cell?_of_block (w := w) (a := ⟨b, 2, none⟩) hg).trans h.c2,
    (World.frozen?_of_block (w := w) (a := ⟨b, 0, none⟩) hg).trans h.f0, (World.frozen?_of_block (w := w) (a := ⟨b, 1, none⟩) hg).trans h.f1, (World.frozen?_of_block (w := w) (a := ⟨b, 2, none⟩) hg).trans h.f2⟩
theorem NatIs.form {w : World} {v : Value} {n : Nat} (h : NatIs w v n) : ∃ o l c, v = .agg #[.slice o l c] := by
  obtain ⟨ao, ca, rfl, _⟩ := h.open
  exact ⟨_, _, _, rfl⟩
theorem RIs.form {w : World} {v : Value} {n : Nat} (h : RIs w v n) : ∃ o l c, v = .slice o l c := by
  obtain ⟨ao, ca, rfl, _⟩ := h.open
  exact ⟨_, _, _, rfl⟩
theorem NatIs.setS {w : World} {v u : Value} {n p l c : Nat} {o : Option Addr} (h : NatIs w v n) (hb : Box w p (.slice o l c)) : NatIs (w.setCell ⟨p, 0, none⟩ u) v n := h.set _ _ (fun n e => by rw [hb.cell] at e; cases e)
theorem QIs.form {w : World} {v : Value} {q : Rat} (h : QIs w v q) : ∃ s xo xl xc yo yl yc, v = .agg #[.bool s, .slice xo xl xc, .slice yo yl yc] ∧ s = decide (q < 0) ∧ NatIs w (.agg #[.slice xo xl xc]) q.num.natAbs ∧ NatIs w (.agg #[.slice yo yl yc]) (den0 q) := by
  obtain ⟨xo, xl, xc, yo, yl, yc, h1, h2, h3⟩ := h
  exact ⟨_, xo, xl, xc, yo, yl, yc, h1, rfl, h2, h3⟩
theorem RQIs.form {w : World} {v : Value} {q : Rat} (h : RQIs w v q) : ∃ s xo xl xc yo yl yc, v = .agg #[.bool s, .slice xo xl xc, .slice yo yl yc] ∧ s = decide (q < 0) ∧ RIs w (.slice xo xl xc) q.num.natAbs ∧ RIs w (.slice yo yl yc) q.den := by
  obtain ⟨xo, xl, xc, yo, yl, yc, h1, h2, h3⟩ := h
  exact ⟨_, xo, xl, xc, yo, yl, yc, h1, rfl, h2, h3⟩
theorem RQIs.mk {w : World} {x y : Value} {q : Rat} {s : Bool} (hs : s = decide (q < 0)) (h2 : RIs w x q.num.natAbs) (h3 : RIs w y q.den) : RQIs w (.agg #[.bool s, x, y]) q := by
  obtain ⟨ao, ca, rfl, _⟩ := h2.open
  obtain ⟨bo, cb, rfl, _⟩ := h3.open
  subst hs
  exact ⟨_, _, _, _, _, _, rfl, h2, h3⟩
/-- A cell that holds no number. -/
theorem RIs.set {w : World} {v : Value} {n : Nat} (h : RIs w v n) (p : Addr) (u : Value) (hp : ∀ n, w.cell? p ≠ some (.int .i64 n)) : RIs (w.setCell p u) v n := Ints.set h p u hp
theorem RIs.setS {w : World} {v u : Value} {n p l c : Nat} {o : Option Addr} (h : RIs w v n) (hb : Box w p (.slice o l c)) : RIs (w.setCell ⟨p, 0, none⟩ u) v n := h.set _ _ (fun n e => by rw [hb.cell] at e; cases e)
section
variable {w : World} {b : Nat} {s0 : Bool} {o1 o2 : Option Addr} {l1 l2 c1 c2 : Nat} {u0 u1 u2 : Value}
theorem NatIs.set3 {v : Value} {n : Nat} (h : NatIs w v n) (hb : Box3 w b (.bool s0) (.slice o1 l1 c1) (.slice o2 l2 c2)) : NatIs (((w.setCell ⟨b, 0, none⟩ u0).setCell ⟨b, 1, none⟩ u1).setCell ⟨b, 2, none⟩ u2) v n := by
  have e1 := (hb.set0 u0).c1
  have e2 := ((hb.set0 u0).set1 u1).c2
  exact ((h.set _ _ (fun n e => by rw [hb.c0] at e; cases e)).set _ _ (fun n e => by rw [e1] at e; cases e)).set _ _ (fun n e => by rw [e2] at e; cases e)
theorem RIs.set3 {v : Value} {n : Nat} (h : RIs w v n) (hb : Box3 w b (.bool s0) (.slice o1 l1 c1) (.slice o2 l2 c2)) : RIs (((w.setCell ⟨b, 0, none⟩ u0).setCell ⟨b, 1, none⟩ u1).setCell ⟨b, 2, none⟩ u2) v n := by
  have e1 := (hb.set0 u0).c1
  have e2 := ((hb.set0 u0).set1 u1).c2
  exact ((h.set _ _ (fun n e => by rw [hb.c0] at e; cases e)).set _ _ (fun n e => by rw [e1] at e; cases e)).set _ _ (fun n e => by rw [e2] at e; cases e)
theorem QIs.set3 {v : Value} {q : Rat} (h : QIs w v q) (hb : Box3 w b (.bool s0) (.slice o1 l1 c1) (.slice o2 l2 c2)) : QIs (((w.setCell ⟨b, 0, none⟩ u0).setCell ⟨b, 1, none⟩ u1).setCell ⟨b, 2, none⟩ u2) v q := by
  obtain ⟨s, xo, xl, xc, yo, yl, yc, rfl, h1, h2, h3⟩ := h.form
  exact QIs.mk h1 (h2.set3 hb) (h3.set3 hb)
theorem RQIs.set3 {v : Value} {q : Rat} (h : RQIs w v q) (hb : Box3 w b (.bool s0) (.slice o1 l1 c1) (.slice o2 l2 c2)) : RQIs (((w.setCell ⟨b, 0, none⟩ u0).setCell ⟨b, 1, none⟩ u1).setCell ⟨b, 2, none⟩ u2) v q := by
  obtain ⟨s, xo, xl, xc, yo, yl, yc, rfl, h1, h2, h3⟩ := h.form
  exact RQIs.mk h1 (h2.set3 hb) (h3.set3 hb)
theorem QIs.setS {v u : Value} {q : Rat} {p l c : Nat} {o : Option Addr} (h : QIs w v q) (hb : Box w p (.slice o l c)) : QIs (w.setCell ⟨p, 0, none⟩ u) v q := by
  obtain ⟨s, xo, xl, xc, yo, yl, yc, rfl, h1, h2, h3⟩ := h.form
  exact QIs.mk h1 (h2.setS hb) (h3.setS hb)
theorem RQIs.setS {v u : Value} {q : Rat} {p l c : Nat} {o : Option Addr} (h : RQIs w v q) (hb : Box w p (.slice o l c)) : RQIs (w.setCell ⟨p, 0, none⟩ u) v q := by
  obtain ⟨s, xo, xl, xc, yo, yl, yc, rfl, h1, h2, h3⟩ := h.form
  exact RQIs.mk h1 (h2.setS hb) (h3.setS hb)
theorem Box.set3 {g : Nat} {v : Value} (h : Box w g v) (hne : g ≠ b) : Box (((w.setCell ⟨b, 0, none⟩ u0).setCell ⟨b, 1, none⟩ u1).setCell ⟨b, 2, none⟩ u2) g v := ((h.setOther hne 0 u0).setOther hne 1 u1).setOther hne 2 u2
theorem Box3.set3o {g : Nat} {x y z : Value} (h : Box3 w g x y z) (hne : g ≠ b) : Box3 (((w.setCell ⟨b, 0, none⟩ u0).setCell ⟨b, 1, none⟩ u1).setCell ⟨b, 2, none⟩ u2) g x y z := ((h.setOther hne 0 u0).setOther hne 1 u1).setOther hne 2 u2
theorem Box3.set3 {x y z : Value} (h : Box3 w b x y z) : Box3 (((w.setCell ⟨b, 0, none⟩ u0).setCell ⟨b, 1, none⟩ u1).setCell ⟨b, 2, none⟩ u2) b u0 u1 u2 := ((h.set0 u0).set1 u1).set2 u2
theorem below_set3 {B : Nat} {w0 : World} (h : Below B w0 w) (hb : B ≤ b) : Below B w0 (((w.setCell ⟨b, 0, none⟩ u0).setCell ⟨b, 1, none⟩ u1).setCell ⟨b, 2, none⟩ u2) :=
  ((h.setCell (p := ⟨b, 0, none⟩) hb _).setCell (p := ⟨b, 1, none⟩) hb _).setCell (p := ⟨b, 2, none⟩) hb _
end
theorem Box3.drew {w : World} {b : Nat} {x y z : Value} (h : Box3 w b x y z) : Box3 w.drew b x y z := ⟨h.c0, h.c1, h.c2, h.f0, h.f1, h.f2⟩
/-- What a function that makes a fraction answers. -/
def QPost (w : World) (q : Rat) (e : Ending) (w' : World) : Prop := ∃ r, e = .returned r ∧ QIs w' r q ∧ Below w.heap.size w w'
def QPostC (w : World) (q : Rat) (c : Int) (e : Ending) (w' : World) : Prop := ∃ r, e = .returned (.tuple #[r, .int .i64 c]) ∧ QIs w' r q ∧ Below w.heap.size w w'
def RQPost (w : World) (q : Rat) (e : Ending) (w' : World) : Prop := ∃ r, e = .returned r ∧ RQIs w' r q ∧ Below w.heap.size w w'
theorem QPost.out {w w' : World} {q : Rat} {e : Ending} (h : QPost w q e w') : ∃ s xo xl xc yo yl yc, e = .returned (.agg #[.bool s, .slice xo xl xc, .slice yo yl yc]) ∧ s = decide (q < 0) ∧ NatIs w' (.agg #[.slice xo xl xc]) q.num.natAbs ∧ NatIs w' (.agg #[.slice yo yl yc]) (den0 q) ∧ QIs w' (.agg #[.bool s, .slice xo xl xc, .slice yo yl yc]) q ∧ Below w.heap.size w w' := by
  obtain ⟨r, rfl, hq, hb⟩ := h
  obtain ⟨s, xo, xl, xc, yo, yl, yc, rfl, h1, h2, h3⟩ := hq.form
  exact ⟨_, _, _, _, _, _, _, rfl, h1, h2, h3, hq, hb⟩
theorem RQPost.out {w w' : World} {q : Rat} {e : Ending} (h : RQPost w q e w') : ∃ s xo xl xc yo yl yc, e = .returned (.agg #[.bool s, .slice xo xl xc, .slice yo yl yc]) ∧ s = decide (q < 0) ∧ RIs w' (.slice xo xl xc) q.num.natAbs ∧ RIs w' (.slice yo yl yc) q.den ∧ RQIs w' (.agg #[.bool s, .slice xo xl xc, .slice yo yl yc]) q ∧ Below w.heap.size w w' := by
  obtain ⟨r, rfl, hq, hb⟩ := h
  obtain ⟨s, xo, xl, xc, yo, yl, yc, rfl, h1, h2, h3⟩ := hq.form
  exact ⟨_, _, _, _, _, _, _, rfl, h1, h2, h3, hq, hb⟩
section
variable {fn : Func} {s : Nat} {act : Act} {w w9 : World} {b : Nat} {s0 : Bool} {o1 o2 : Option Addr} {l1 l2 c1 c2 : Nat} {u0 u1 u2 : Value} {q : Rat}
/-- A fraction is stored into the result's box, and that's the end. -/
theorem end_q (hres : fn.results = #[.cell s 120]) (hp : act.tmps.getD s undef = .pointer (some ⟨b, 0, none⟩)) (hd : act.defers = []) (hb : Box3 w9 b (.bool s0) (.slice o1 l1 c1) (.slice o2 l2 c2)) (hge : w.heap.size ≤ b) (hq : QIs w9 (.agg #[u0, u1, u2]) q) (hB : Below w.heap.size w w9) :
    bodyPost Tryd.prog fn (QPost w q) .ret act (((w9.setCell ⟨b, 0, none⟩ u0).setCell ⟨b, 1, none⟩ u1).setCell ⟨b, 2, none⟩ u2) :=
  ret_rat hres hp hb.set3 hd ⟨_, rfl, hq.set3 hb, below_set3 hB hge⟩
theorem end_qc {t : Nat} {c : Int} (hres : fn.results = #[.cell s 120, .tmp t]) (hp : act.tmps.getD s undef = .pointer (some ⟨b, 0, none⟩)) (hu : act.tmps.getD t undef = .int .i64 c) (hd : act.defers = []) (hb : Box3 w9 b (.bool s0) (.slice o1 l1 c1) (.slice o2 l2 c2)) (hge : w.heap.size ≤ b) (hq : QIs w9 (.agg #[u0, u1, u2]) q) (hB : Below w.heap.size w w9) :
    bodyPost Tryd.prog fn (QPostC w q c) .ret act (((w9.setCell ⟨b, 0, none⟩ u0).setCell ⟨b, 1, none⟩ u1).setCell ⟨b, 2, none⟩ u2) :=
  ret_rat_tmp hres hp hu hb.set3 hd ⟨_, rfl, hq.set3 hb, below_set3 hB hge⟩
end
/-- The numbers of a made fraction. -/
theorem QIs.made {w : World} {x y : Value} {n d : Nat} {neg : Bool} (hn : 0 < n) (hd : 0 < d) (hx : NatIs w (.agg #[x]) (n / Nat.gcd n d)) (hy : NatIs w (.agg #[y]) (d / Nat.gcd n d)) : QIs w (.agg #[.bool neg, x, y]) (qOf neg n d) :=
  QIs.mk (qOf_neg hn hd).symm (by rw [qOf_num hd, sg_natAbs]; exact hx) (by unfold den0; rw [if_neg (qOf_eq_zero hn hd), qOf_den hd]; exact hy)
def RQPostC (w : World) (q : Rat) (c : Int) (e : Ending) (w' : World) : Prop := ∃ r, e = .returned (.tuple #[r, .int .i64 c]) ∧ RQIs w' r q ∧ Below w.heap.size w w'
section
variable {fn : Func} {s : Nat} {act : Act} {w w9 : World} {b : Nat} {s0 : Bool} {o1 o2 : Option Addr} {l1 l2 c1 c2 : Nat} {u0 u1 u2 : Value} {q : Rat}
end
theorem RQIs.made {w : World} {x y : Value} {n d : Nat} {neg s : Bool} (hd : 0 < d) (hs : s = (neg && decide (0 < n))) (hx : RIs w x (n / Nat.gcd n d)) (hy : RIs w y (d / Nat.gcd n d)) : RQIs w (.agg #[.bool s, x, y]) (qOf neg n d) := by
  refine RQIs.mk ?_ (by rw [qOf_num hd, sg_natAbs]; exact hx) (by rw [qOf_den hd]; exact hy)
  rw [hs]
  rcases Nat.eq_zero_or_pos n with h | h
  · subst h
    rw [qOf_zero]
    cases neg <;> decide
  · rw [qOf_neg h hd, decide_eq_true h]; simp
theorem RQIs.zero {w : World} {y : Value} (hy : RIs w y 1) : RQIs w (.agg #[.bool false, .slice none 0 0, y]) 0 := RQIs.mk (by decide) (RIs.nil w) hy
theorem QPostC.out {w w' : World} {q : Rat} {c : Int} {e : Ending} (h : QPostC w q c e w') : ∃ s xo xl xc yo yl yc, e = .returned (.tuple #[.agg #[.bool s, .slice xo xl xc, .slice yo yl yc], .int .i64 c]) ∧ s = decide (q < 0) ∧ NatIs w' (.agg #[.slice xo xl xc]) q.num.natAbs ∧ NatIs w' (.agg #[.slice yo yl yc]) (den0 q) ∧ QIs w' (.agg #[.bool s, .slice xo xl xc, .slice yo yl yc]) q ∧ Below w.heap.size w w' := by
  obtain ⟨r, rfl, hq, hb⟩ := h
  obtain ⟨s, xo, xl, xc, yo, yl, yc, rfl, h1, h2, h3⟩ := hq.form
  exact ⟨_, _, _, _, _, _, _, rfl, h1, h2, h3, hq, hb⟩
theorem RQPostC.out {w w' : World} {q : Rat} {c : Int} {e : Ending} (h : RQPostC w q c e w') : ∃ s xo xl xc yo yl yc, e = .returned (.tuple #[.agg #[.bool s, .slice xo xl xc, .slice yo yl yc], .int .i64 c]) ∧ s = decide (q < 0) ∧ RIs w' (.slice xo xl xc) q.num.natAbs ∧ RIs w' (.slice yo yl yc) q.den ∧ RQIs w' (.agg #[.bool s, .slice xo xl xc, .slice yo yl yc]) q ∧ Below w.heap.size w w' := by
  obtain ⟨r, rfl, hq, hb⟩ := h
  obtain ⟨s, xo, xl, xc, yo, yl, yc, rfl, h1, h2, h3⟩ := hq.form
  exact ⟨_, _, _, _, _, _, _, rfl, h1, h2, h3, hq, hb⟩
end Go.Proofs.YtlmjkbdodecbmaaDoor

namespace Go.Proofs.YtlmjkbdodecbmaaDoor
open Go.RowKit
set_option linter.unusedVariables false
section
variable {P : Program} {ops : Array Oper} {Q : Exit → Act → World → Prop} {S : World → Prop}
/-- The walk in one order. -/
def wpSeqH (P : Program) (ops : Array Oper) (Q : Exit → Act → World → Prop) (S : World → Prop) : List (Bool × Oper) → Act → World → Prop
  | [], a, w => Q .normal a w
  | (true, o) :: rest, a, w => ∃ v, YieldsIf P ops S o v a ∧ wpSeqH P ops Q S rest (a.put o.dst v) w
  | (false, o) :: rest, a, w => ∀ K : Act → World → Prop, Shut (∀ a w, S w → (S w → wpSeqH P ops Q S rest a w) → K a w) →
      if Region.wanted o (yielded ops a.tmps) = true then Oper.wp P o a w K Q else K (a.put o.dst undef) w
/-- Is the order one that the region allows? -/
def seqOk (ops : Array Oper) : List (Bool × Nat) → Array Bool → Bool
  | [], listed => (Region.ready .any ops listed).isEmpty
  | (true, i) :: r, listed => Region.free .any ops listed i && (Region.ready .any ops listed).contains i && seqOk ops r (listed.setIfInBounds i true)
  | (false, i) :: r, listed => (Region.ready .any ops listed == [i]) && seqOk ops r (listed.setIfInBounds i true)
def pickOps (ops : Array Oper) : List (Bool × Nat) → List (Bool × Oper)
  | [] => []
  | (b, i) :: r => match ops[i]? with
    | some o => (b, o) :: pickOps ops r
    | none => pickOps ops r
theorem wpAnyH_of_seq (hs : Region.noSelect ops = true) (hQ : ∀ d v c a w, Q (.panic c) (a.put d v) w → Q (.panic c) a w) :
    ∀ (l : List (Bool × Nat)) (listed : Array Bool) (a : Act) (w : World), seqOk ops l listed = true → (l.all fun x => decide (x.2 < ops.size)) = true → S w → wpSeqH P ops Q S (pickOps ops l) a w → wpAnyH P .any ops Q S l.length listed a w
  | [], listed, a, w, hk, _, _, h => by
    simp only [seqOk, List.isEmpty_iff] at hk
    exact ⟨hk, h⟩
  | (b, i) :: r, listed, a, w, hk, hlt, hS, h => by
    simp only [List.all_cons, Bool.and_eq_true, decide_eq_true_eq] at hlt
    have hi : ops[i]? = some ops[i] := Array.getElem?_eq_getElem hlt.1
    simp only [pickOps, hi] at h
    cases b with
    | true =>
      simp only [seqOk, Bool.and_eq_true] at hk
      obtain ⟨v, hy, h⟩ := h
      exact wpAnyH_take hi hs hk.1.1 hk.1.2 (fun c a w => hQ _ _ c a w) hy hS (wpAnyH_of_seq hs hQ r _ _ _ hk.2 hlt.2 hS h)
    | false =>
      simp only [seqOk, Bool.and_eq_true, beq_iff_eq] at hk
      refine wpAnyH_ready hk.1 (by simp) (AllReadyH.cons hi (fun K hK => ?_) AllReadyH.nil)
      exact h K (fun a' w' hS' hw => hK.out a' w' hS' fun hS'' => wpAnyH_of_seq hs hQ r _ _ _ hk.2 hlt.2 hS'' (hw hS''))
theorem wp_region_seq {id : Nat} {a : Act} {w : World} (l : List (Bool × Nat)) (hm : P.follows .mixedOrders = true) (hs : Region.noSelect ops = true) (hl : l.length = ops.size) (hlt : (l.all fun x => decide (x.2 < ops.size)) = true)
    (hk : seqOk ops l (Array.replicate ops.size false) = true) (hQ : ∀ d v c a w, Q (.panic c) (a.put d v) w → Q (.panic c) a w) (hS : S w.drew)
    (h : S w.drew → wpSeqH P ops Q S (pickOps ops l) a w.drew) : (Code.region id ops true).wp P Q a w := by
  refine wp_region_held_drew hm hS fun hS' => ?_
  have := wpAnyH_of_seq (P := P) (Q := Q) (S := S) hs hQ l _ _ _ hk hlt hS' (h hS')
  rwa [hl] at this
theorem seq_take {o : Oper} {rest : List (Bool × Oper)} {a : Act} {w : World} {v : Value} (hw : Region.wanted o (yielded ops a.tmps) = true) (hy : ∀ w, S w → (execOp a.eval o).run P w = .ok (.value v) w)
    (h : wpSeqH P ops Q S rest (a.put o.dst v) w) : wpSeqH P ops Q S ((true, o) :: rest) a w := ⟨v, .inl ⟨hw, hy⟩, h⟩
theorem seq_leave {o : Oper} {rest : List (Bool × Oper)} {a : Act} {w : World} (hw : Region.wanted o (yielded ops a.tmps) = false)
    (h : wpSeqH P ops Q S rest (a.put o.dst undef) w) : wpSeqH P ops Q S ((true, o) :: rest) a w := ⟨undef, .inr ⟨hw, rfl⟩, h⟩
theorem seq_step {o : Oper} {rest : List (Bool × Oper)} {a : Act} {w : World} (hw : Region.wanted o (yielded ops a.tmps) = true)
    (h : ∀ K : Act → World → Prop, Shut (∀ a w, S w → (S w → wpSeqH P ops Q S rest a w) → K a w) → Oper.wp P o a w K Q) : wpSeqH P ops Q S ((false, o) :: rest) a w := fun K hK => by
  rw [if_pos hw]; exact h K hK
theorem seq_pass {o : Oper} {rest : List (Bool × Oper)} {a : Act} {w : World} (hw : Region.wanted o (yielded ops a.tmps) = false) (hS : S w)
    (h : wpSeqH P ops Q S rest (a.put o.dst undef) w) : wpSeqH P ops Q S ((false, o) :: rest) a w := fun K hK => by
  rw [if_neg (by rw [hw]; simp)]; exact hK.out _ _ hS fun _ => h
theorem seq_end {a : Act} {w : World} (h : Q .normal a w) : wpSeqH P ops Q S [] a w := h
end
end Go.Proofs.YtlmjkbdodecbmaaDoor

namespace Go.Proofs.YtlmjkbdodecbmaaDoor
open Go.RowKit
set_option linter.unusedVariables false
/-- A block that may be made at any time: the operation's number, its slot, what stands in the block at first. -/
structure Fl where
  i : Nat
  d : Nat
  z : Obj
/-- Two states that differ in these slots alone. -/
structure Same (D : List Nat) (a a' : Act) : Prop where
  defers : a'.defers = a.defers
  size : a'.tmps.size = a.tmps.size
  slot : ∀ s, s ∉ D → a'.tmps[s]? = a.tmps[s]?
theorem Same.refl (D : List Nat) (a : Act) : Same D a a := ⟨rfl, rfl, fun _ _ => rfl⟩
theorem Same.put {D : List Nat} {a a' : Act} (h : Same D a a') (d : Option Tmp) (v : Value) : Same D (a.put d v) (a'.put d v) := by
  cases d with
  | none => exact h
  | some d =>
    refine ⟨h.defers, by simp [Act.put, h.size], fun s hs => ?_⟩
    simp only [Act.put, Array.getElem?_setIfInBounds, h.size]
    split
    · rfl
    · exact h.slot s hs
theorem Act.ext' {a b : Act} (h : a.tmps = b.tmps) (hd : a.defers = b.defers) : a = b := by
  cases a; cases b; cases h; cases hd; rfl
theorem Same.one {d : Nat} {a a' : Act} (h : Same [d] a a') : a' = a.put (some d) (a'.tmps.getD d undef) := by
  refine Act.ext' (Array.ext_getElem? fun i => ?_) h.defers
  simp only [Act.put, Array.getElem?_setIfInBounds]
  split
  · rename_i e
    subst e
    rw [← h.size]
    split
    · rename_i h1; simp [h1]
    · rename_i h1; simp [h1]
  · rename_i e
    exact h.slot i (by simpa using fun e2 => e e2.symm)
theorem Same.two {d e : Nat} {a a' : Act} (h : Same [d, e] a a') : a' = (a.put (some d) (a'.tmps.getD d undef)).put (some e) (a'.tmps.getD e undef) := by
  refine Act.ext' (Array.ext_getElem? fun i => ?_) h.defers
  simp only [Act.put, Array.getElem?_setIfInBounds, Array.size_setIfInBounds]
  split
  · rename_i e
    subst e
    rw [← h.size]
    split
    · rename_i h1; simp [h1]
    · rename_i h1; simp [h1]
  · split
    · rename_i e
      subst e
      rw [← h.size]
      split
      · rename_i h1; simp [h1]
      · rename_i h1; simp [h1]
    · rename_i e2 e1
      exact h.slot i (by simp only [List.mem_cons, List.not_mem_nil, or_false, not_or]; exact ⟨fun e3 => e1 e3.symm, fun e3 => e2 e3.symm⟩)
/-- The block lies there. -/
def At (base : Nat) (a : Act) (w : World) (f : Fl) : Prop := ∃ g, a.tmps.getD f.d undef = .pointer (some ⟨g, 0, none⟩) ∧ base ≤ g ∧ w.heap[g]? = some f.z
section
variable {P : Program} {ops : Array Oper} {Q : Exit → Act → World → Prop} {S : World → Prop}
/-- The walk in one order, blocks coming up in between. -/
def wpSeqF (P : Program) (ops : Array Oper) (Q : Exit → Act → World → Prop) (S : World → Prop) (base : Nat) (fs : List Fl) (l2 : List (Bool × Nat)) : List (Bool × Oper) → Act → World → Prop
  | [], a, w => ∀ a' w', Same (fs.map (·.d)) a a' → Below w.heap.size w w' → S w' → (∀ f ∈ fs, At base a' w' f) → (∀ f ∈ fs, ∀ f' ∈ fs, f.i ≠ f'.i → a'.tmps.getD f.d undef ≠ a'.tmps.getD f'.d undef) → wpSeqH P ops Q S (pickOps ops l2) a' w'
  | (true, o) :: rest, a, w => ∃ v, (∀ a', Same (fs.map (·.d)) a a' → YieldsIf P ops S o v a') ∧ wpSeqF P ops Q S base fs l2 rest (a.put o.dst v) w
  | (false, o) :: rest, a, w => ∀ a' w', Same (fs.map (·.d)) a a' → Below w.heap.size w w' → S w' → ∀ K : Act → World → Prop, Shut (∀ v w'', S w'' → Below w'.heap.size w' w'' → wpSeqF P ops Q S base fs l2 rest (a'.put o.dst v) w'' → K (a'.put o.dst v) w'') →
      Region.wanted o (yielded ops a'.tmps) = true ∧ Oper.wp P o a' w' K Q
theorem Same.trans {D : List Nat} {a b c : Act} (h : Same D a b) (h' : Same D b c) : Same D a c :=
  ⟨h'.defers.trans h.defers, h'.size.trans h.size, fun s hs => (h'.slot s hs).trans (h.slot s hs)⟩
theorem Same.symm {D : List Nat} {a b : Act} (h : Same D a b) : Same D b a :=
  ⟨h.defers.symm, h.size.symm, fun s hs => (h.slot s hs).symm⟩
theorem wpSeqF.same {base : Nat} {fs : List Fl} {l2 : List (Bool × Nat)} : ∀ (l : List (Bool × Oper)) {a b : Act} {w w' : World}, Same (fs.map (·.d)) a b → Below w.heap.size w w' → wpSeqF P ops Q S base fs l2 l a w → wpSeqF P ops Q S base fs l2 l b w'
  | [], a, b, w, w', hs, hb, h => fun a' w'' h1 h2 h3 h4 h5 => h a' w'' (hs.trans h1) (hb.trans (h2.mono hb.size)) h3 h4 h5
  | (true, o) :: rest, a, b, w, w', hs, hb, h => by
    obtain ⟨v, hy, h⟩ := h
    exact ⟨v, fun a' h1 => hy a' (hs.trans h1), wpSeqF.same rest (hs.put _ _) hb h⟩
  | (false, o) :: rest, a, b, w, w', hs, hb, h => fun a' w'' h1 h2 h3 => h a' w'' (hs.trans h1) (hb.trans (h2.mono hb.size)) h3
/-- What each block's operation is. -/
def FlOk (P : Program) (ops : Array Oper) (Q : Exit → Act → World → Prop) (f : Fl) : Prop := ∃ o, ops[f.i]? = some o ∧ o.dst = some f.d ∧ (∀ t, Region.wanted o t = true) ∧
  ∀ (a : Act) (w : World) (K : Act → World → Prop), K (a.put (some f.d) (.pointer (some ⟨w.heap.size, 0, none⟩))) (w.alloc f.z) → Oper.wp P o a w K Q
/-- An alloc may come up at any time. -/
theorem FlOk.alloc {i d : Nat} {z : Obj} {o : Oper} (ho : ops[i]? = some o) (hd : o.dst = some d) (hg : o.guard = none) (hr : ∀ (f : Operand → Value) (w : World), (execOp f o).run P w = .ok (.value (.pointer (some ⟨w.heap.size, 0, none⟩))) (w.alloc z)) : FlOk P ops Q ⟨i, d, z⟩ := by
  refine ⟨o, ho, hd, fun t => ?_, fun a w K hK => ?_⟩
  · simp [Region.wanted, hg]
  · unfold Oper.wp
    rw [hr, Oper.upon_value, hd]
    exact hK
/-- One block, by its slot. -/
theorem At.slot {base i d : Nat} {z : Obj} {t : Array Value} {ds : List Deferred} {w : World} {x : Value} (h : At base ⟨t, ds⟩ w ⟨i, d, z⟩) (hx : t.getD d undef = x) : ∃ g, x = .pointer (some ⟨g, 0, none⟩) ∧ base ≤ g ∧ w.heap[g]? = some z := by
  obtain ⟨g, h1, h2, h3⟩ := h
  exact ⟨g, by rw [← hx]; exact h1, h2, h3⟩
end
end Go.Proofs.YtlmjkbdodecbmaaDoor
