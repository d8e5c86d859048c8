/-
  MsgWrites, the plain law: what is put and the document's fields, side by side.
-/
import Derived.Test.YtjcldnkgidfifaaRtB
namespace Go.Proofs.Ytjcldnkgidfifaa
open Go.RowKit Go.Shelf
set_option linter.unusedVariables false
set_option linter.unusedSimpArgs false
/-- Something that is put. -/
structure PutO where
  k : Int
  n : Int
  v : Nat
  S : List (List UInt8)
  L : List Int
  P : List Nat
/-- A field as the document has it: number, kind, value, data. -/
structure DocF where
  n : Int
  k : Int
  v : Nat
  d : List UInt8
def msgOp (s : List (Fld × Int) × Int) (o : PutO) : List (Fld × Int) × Int :=
  if o.k = 1 then stepM s o.n 0 o.v [] else if o.k = 2 then textsM s o.n o.S else if o.k = 3 then intsM s o.n o.L else floatsM s o.n o.P
def docF (o : PutO) : List DocF :=
  if o.k = 1 then [⟨o.n, 0, o.v, []⟩] else if o.k = 2 then o.S.map fun t => ⟨o.n, 2, 0, t⟩ else if o.k = 3 then (if o.L.length = 0 then [] else [⟨o.n, 2, 0, intsD o.L⟩]) else (if o.P.length = 0 then [] else [⟨o.n, 2, 0, floatsD o.P⟩])
def wideO (o : PutO) : Bool := if o.k = 1 then false else if o.k = 2 then false else if o.k = 3 then false else wideP o.P
/-- One field more of the document's bytes. -/
def docStep (r : List UInt8 × Int) (f : DocF) : List UInt8 × Int := if r.2 ≠ 0 then r else (r.1 ++ (putR f.n f.k f.v f.d).1, (putR f.n f.k f.v f.d).2)
def docWide (r : List UInt8 × Int) (b : Bool) : List UInt8 × Int := if b = true ∧ r.2 = 0 then (r.1, 1) else r
def docOp (r : List UInt8 × Int) (o : PutO) : List UInt8 × Int := (docF o).foldl docStep (docWide r (wideO o))
/-- The message and the document's bytes go together. -/
structure Inv (s : List (Fld × Int) × Int) (r : List UInt8 × Int) (C : Nat) : Prop where
  e : s.2 = r.2
  b : s.2 = 0 ∨ s.2 = 1
  w : s.2 = 0 → r.1 = bytesD s.1
  ok : okM s.1
  len : (bytesD s.1).length ≤ C
  cnt : s.1.length ≤ C
theorem inv_start : Inv ([], 0) ([], 0) 0 := ⟨rfl, .inl rfl, fun _ => rfl, (fun x hx => by cases hx), Nat.le_refl _, Nat.le_refl _⟩
theorem Inv.mono {s : List (Fld × Int) × Int} {r : List UInt8 × Int} {C D : Nat} (h : Inv s r C) (hd : C ≤ D) : Inv s r D := ⟨h.e, h.b, h.w, h.ok, Nat.le_trans h.len hd, Nat.le_trans h.cnt hd⟩
theorem rightF_len {num kind : Int} {val : Nat} {data : List UInt8} (hv : val < 18446744073709551616) (h : true = rightF num kind val data) : (encF ⟨num.toNat, kind.toNat, 0, val, data⟩).length ≤ data.length + 20 := by
  obtain ⟨n, rfl, h1, h2, hc⟩ := rightF_yes h
  unfold encF
  simp only [List.length_append, Int.toNat_natCast]
  rcases hc with ⟨rfl, rfl⟩ | ⟨rfl, rfl⟩ | ⟨rfl, rfl, h4⟩ | ⟨rfl, rfl, h4⟩
  · rw [if_pos (by rfl)]
    have := vbytes_ten (n := n * 8 + (0 : Int).toNat) (by simp; omega)
    have := vbytes_ten hv
    omega
  · rw [if_neg (by decide), if_pos (by rfl), littleB_len]
    have := vbytes_ten (n := n * 8 + (1 : Int).toNat) (by simp; omega)
    omega
  · rw [if_neg (by decide), if_neg (by decide), if_pos (by rfl), littleB_len]
    have := vbytes_ten (n := n * 8 + (5 : Int).toNat) (by simp; omega)
    omega
  · rw [if_neg (by decide), if_neg (by decide), if_neg (by decide), List.length_append]
    have := vbytes_ten (n := n * 8 + (2 : Int).toNat) (by simp; omega)
    have := vbytes_ten (n := data.length) (by omega)
    omega
theorem inv_step {s : List (Fld × Int) × Int} {r : List UInt8 × Int} {C : Nat} (h : Inv s r C) (f : DocF) (hv : f.v < 18446744073709551616) (hd : f.d.length ≤ 1000000000000) : Inv (stepM s f.n f.k f.v f.d) (docStep r f) (C + f.d.length + 20) := by
  obtain ⟨l, e⟩ := s
  obtain ⟨W, c⟩ := r
  obtain ⟨he, hb, hw, hok, hlen, hcnt⟩ := h
  simp only at he hb hw hok hlen hcnt
  subst he
  unfold stepM docStep
  by_cases h0 : e ≠ 0
  · rw [if_pos h0, if_pos h0]
    exact ⟨rfl, hb, hw, hok, by simp only; omega, by simp only; omega⟩
  · rw [if_neg h0, if_neg h0]
    have h0' : e = 0 := Decidable.not_not.1 h0
    by_cases hr : rightF f.n f.k f.v f.d = true
    · rw [if_pos hr, putR_yes hr.symm]
      have hl := rightF_len hv hr.symm
      have hby : bytesD (l ++ [(⟨f.n.toNat, f.k.toNat, 0, f.v, f.d⟩, 0)]) = bytesD l ++ encF ⟨f.n.toNat, f.k.toNat, 0, f.v, f.d⟩ := by
        obtain ⟨n, hn, _, _, hc⟩ := rightF_yes hr.symm
        have hk : ((f.k.toNat : Nat) : Int) = f.k := by rcases hc with ⟨h, _⟩ | ⟨h, _⟩ | ⟨h, _⟩ | ⟨h, _⟩ <;> rw [h] <;> rfl
        have hnn : ((f.n.toNat : Nat) : Int) = f.n := by rw [hn]; rfl
        unfold bytesD
        rw [List.flatMap_append]
        simp only [List.flatMap_cons, List.flatMap_nil, List.append_nil]
        unfold encM
        simp only [hk, hnn]
        rw [putR_yes hr.symm]
      refine ⟨rfl, .inl rfl, fun _ => ?_, ?_, ?_, ?_⟩
      · simp only; rw [hby, hw h0']
      · intro x hx
        rcases List.mem_append.1 hx with h9 | h9
        · exact hok x h9
        · simp at h9; subst h9; exact ⟨hv, hd⟩
      · simp only; rw [hby, List.length_append]; omega
      · simp only; rw [List.length_append, List.length_singleton]; omega
    · rw [if_neg hr, putR_no (by rw [Bool.not_eq_true] at hr; exact hr.symm)]
      exact ⟨rfl, .inr rfl, fun h9 => by simp at h9, hok, by simp only; omega, by simp only; omega⟩
def costO (o : PutO) : Nat := 20 + 10 * o.L.length + 4 * o.P.length + (o.S.map fun t => 20 + t.length).sum
theorem inv_texts {n : Int} : ∀ (ts : List (List UInt8)) {s : List (Fld × Int) × Int} {r : List UInt8 × Int} {C : Nat}, Inv s r C → (∀ t ∈ ts, t.length ≤ 1000000000000) → Inv (textsM s n ts) ((ts.map fun t => (⟨n, 2, 0, t⟩ : DocF)).foldl docStep r) (C + (ts.map fun t => 20 + t.length).sum) := by
  intro ts
  induction ts with
  | nil => intro s r C h _; exact h.mono (by omega)
  | cons t ts ih =>
    intro s r C h ht
    have h1 := inv_step h ⟨n, 2, 0, t⟩ (by simp) (ht t (List.mem_cons_self ..))
    have h2 := ih h1 (fun y hy => ht y (List.mem_cons_of_mem _ hy))
    refine h2.mono ?_
    simp only [List.map_cons, List.sum_cons]
    omega
theorem inv_op {s : List (Fld × Int) × Int} {r : List UInt8 × Int} {C : Nat} (h : Inv s r C) (o : PutO) (hv : o.v < 18446744073709551616) (ht : ∀ t ∈ o.S, t.length ≤ 1000000000000) (hL : o.L.length ≤ 1000000000) (hP : o.P.length ≤ 1000000000) : Inv (msgOp s o) (docOp r o) (C + costO o) := by
  unfold msgOp docOp docF wideO
  by_cases h1 : o.k = 1
  · rw [if_pos h1, if_pos h1, if_pos h1]
    have h9 := inv_step h ⟨o.n, 0, o.v, []⟩ hv (by simp)
    refine Inv.mono (C := C + 0 + 20) ?_ (by unfold costO; omega)
    simpa [docWide] using h9
  · rw [if_neg h1, if_neg h1, if_neg h1]
    by_cases h2 : o.k = 2
    · rw [if_pos h2, if_pos h2, if_pos h2]
      have h9 := inv_texts (n := o.n) o.S h ht
      refine Inv.mono (C := C + (o.S.map fun t => 20 + t.length).sum) ?_ (by unfold costO; omega)
      simpa [docWide] using h9
    · rw [if_neg h2, if_neg h2, if_neg h2]
      by_cases h3 : o.k = 3
      · rw [if_pos h3, if_pos h3, if_pos h3]
        unfold intsM
        by_cases hz : o.L.length = 0
        · rw [if_pos hz, if_pos hz]
          simpa [docWide] using h.mono (D := C + costO o) (by omega)
        · rw [if_neg hz, if_neg hz]
          have hl := intsD_len o.L
          have h9 := inv_step h ⟨o.n, 2, 0, intsD o.L⟩ (by simp) (by simp only; omega)
          refine Inv.mono (C := C + (intsD o.L).length + 20) ?_ (by unfold costO; omega)
          simpa [docWide] using h9
      · rw [if_neg h3, if_neg h3, if_neg h3]
        unfold floatsM
        by_cases hw : wideP o.P = true
        · rw [if_pos hw, hw]
          have hrf : rightF 0 0 0 [] = false := by rfl
          have hbad : Inv (stepM s 0 0 0 []) (docWide r true) C := by
            obtain ⟨l, e⟩ := s
            obtain ⟨W, c⟩ := r
            obtain ⟨he, hb, hww, hok, hlen, hcnt⟩ := h
            simp only at he hb hww hok hlen hcnt
            subst he
            unfold stepM docWide
            by_cases h0 : e ≠ 0
            · rw [if_pos h0, if_neg (by simp; exact h0)]
              exact ⟨rfl, hb, hww, hok, hlen, hcnt⟩
            · have h0' : e = 0 := Decidable.not_not.1 h0
              rw [if_neg h0, if_neg (by rw [hrf]; simp), if_pos ⟨rfl, h0'⟩]
              exact ⟨rfl, .inr rfl, fun h9 => by simp at h9, hok, hlen, hcnt⟩
          have hne : (docWide r true).2 ≠ 0 := by
            unfold docWide
            by_cases h0 : r.2 = 0
            · rw [if_pos ⟨rfl, h0⟩]; simp
            · rw [if_neg (by simp [h0])]; exact h0
          by_cases hz : o.P.length = 0
          · rw [if_pos hz]; exact hbad.mono (by omega)
          · rw [if_neg hz]
            show Inv _ (docStep (docWide r true) _) _
            unfold docStep
            rw [if_pos hne]
            exact hbad.mono (by omega)
        · rw [if_neg hw]
          rw [Bool.not_eq_true] at hw
          rw [hw]
          by_cases hz : o.P.length = 0
          · rw [if_pos hz, if_pos hz]
            simpa [docWide] using h.mono (D := C + costO o) (by omega)
          · rw [if_neg hz, if_neg hz]
            have hl := floatsD_len o.P
            have h9 := inv_step h ⟨o.n, 2, 0, floatsD o.P⟩ (by simp) (by simp only; omega)
            refine Inv.mono (C := C + (floatsD o.P).length + 20) ?_ (by unfold costO; omega)
            simpa [docWide] using h9
/-- What Bytes tells is what the document says. -/
theorem inv_bytes {s : List (Fld × Int) × Int} {r : List UInt8 × Int} {C : Nat} (h : Inv s r C) (hC : C ≤ 60000) : bytesR s.1 s.2 = (if r.2 = 0 then r.1 else [], r.2) := by
  obtain ⟨he, hb, hw, hok, hlen, hcnt⟩ := h
  unfold bytesR
  by_cases h0 : s.2 = 0
  · rw [if_neg (by simp [h0]), if_neg (by omega), if_pos (by rw [← he]; exact h0), hw h0, ← he, h0]
  · rw [if_pos h0, if_neg (by rw [← he]; exact h0), he]
end Go.Proofs.Ytjcldnkgidfifaa
