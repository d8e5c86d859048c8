/-
  Plain facts on texts of decimal digits.
-/
import Derived.Test.YtegneoaoodddoaaDoorMathC
namespace Go.Proofs.YtegneoaoodddoaaDoor
set_option linter.unusedVariables false
set_option linter.unusedSimpArgs false

def isDig (c : UInt8) : Bool := decide (48 ≤ c.toNat) && decide (c.toNat ≤ 57)
/-- Is a text the digits of a number, without a nought ahead? -/
def numOk (l : List UInt8) : Bool := l.all isDig && (l == [48] || (!l.isEmpty && l.headD 0 != 48))
def dnum (l : List UInt8) : Nat := l.foldl (fun a c => a * 10 + (c.toNat - 48)) 0

theorem dnum_snoc (l : List UInt8) (c : UInt8) : dnum (l ++ [c]) = dnum l * 10 + (c.toNat - 48) := by simp [dnum]

theorem dnum_rev (l : List UInt8) : dnum l = dval ((l.map fun c => c.toNat - 48).reverse) := by
  generalize hn : l.length = n
  induction n generalizing l with
  | zero =>
    have : l = [] := List.eq_nil_of_length_eq_zero hn
    subst this; rfl
  | succ n ih =>
    have hne : l ≠ [] := by rintro rfl; simp at hn
    have e : l = l.dropLast ++ [l.getLast hne] := (List.dropLast_concat_getLast hne).symm
    have := ih l.dropLast (by simp [hn])
    rw [e, dnum_snoc, this]
    simp only [List.map_append, List.map_cons, List.map_nil, List.reverse_append, List.reverse_cons, List.reverse_nil, List.nil_append, List.cons_append, dval]
    omega

theorem isDig_iff {c : UInt8} : isDig c = true ↔ 48 ≤ c.toNat ∧ c.toNat ≤ 57 := by simp [isDig]

theorem dnum_lt (l : List UInt8) (h : l.all isDig = true) : dnum l < 10 ^ l.length := by
  generalize hn : l.length = n
  induction n generalizing l with
  | zero =>
    have : l = [] := List.eq_nil_of_length_eq_zero hn
    subst this; simp [dnum]
  | succ n ih =>
    have hne : l ≠ [] := by rintro rfl; simp at hn
    have e : l = l.dropLast ++ [l.getLast hne] := (List.dropLast_concat_getLast hne).symm
    have h1 : l.dropLast.all isDig = true := by
      rw [List.all_eq_true] at h ⊢; exact fun x hx => h x (List.dropLast_subset _ hx)
    have h2 : isDig (l.getLast hne) = true := by rw [List.all_eq_true] at h; exact h _ (List.getLast_mem hne)
    have := ih l.dropLast h1 (by simp [hn])
    rw [isDig_iff] at h2
    rw [e, dnum_snoc, Nat.pow_succ]
    omega

/-- The text of the number that a text reads as is that text. -/
theorem dec_dnum (l : List UInt8) (h : numOk l = true) : (dec (dnum l)).map UInt8.ofNat = l := by
  simp only [numOk, Bool.and_eq_true, Bool.or_eq_true] at h
  obtain ⟨hd, h⟩ := h
  rw [List.all_eq_true] at hd
  rcases h with h | ⟨h1, h2⟩
  · have : l = [48] := by simpa using h
    subst this
    rfl
  · have hne : l ≠ [] := by rintro rfl; simp at h1
    have hds : ∀ x ∈ (l.map fun c => c.toNat - 48).reverse, x < 10 := by
      intro x hx
      simp only [List.mem_reverse, List.mem_map] at hx
      obtain ⟨c, hc, rfl⟩ := hx
      have := isDig_iff.1 (hd c hc)
      omega
    have hhead : l.head hne ≠ 48 := by
      cases l with
      | nil => exact absurd rfl hne
      | cons c l => simpa using h2
    have hlast : ∀ hn : (l.map fun c => c.toNat - 48).reverse ≠ [], ((l.map fun c => c.toNat - 48).reverse).getLast hn ≠ 0 := by
      intro hn
      rw [List.getLast_reverse, List.head_map]
      have h3 := isDig_iff.1 (hd _ (List.head_mem hne))
      intro h0
      apply hhead
      rw [← UInt8.toNat_inj]
      show (l.head hne).toNat = 48
      omega
    have e := dig_dval _ hds hlast
    rw [← dnum_rev] at e
    have hpos : 0 < dnum l := by
      rcases Nat.eq_zero_or_pos (dnum l) with h0 | h0
      · rw [h0, dig_zero] at e
        have := congrArg List.length e
        simp at this
        exact absurd (List.eq_nil_of_length_eq_zero this.symm) hne
      · exact h0
    rw [dec_pos hpos, e, List.reverse_reverse, List.map_map, List.map_map]
    conv => rhs; rw [← List.map_id l]
    apply List.map_congr_left
    intro c hc
    have h3 := isDig_iff.1 (hd c hc)
    simp only [Function.comp, id]
    rw [← UInt8.toNat_inj]
    simp
    omega

end Go.Proofs.YtegneoaoodddoaaDoor
