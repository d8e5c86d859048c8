/-
  Truths (0 no, 1 yes, else unknown), put together: plain facts.
-/
namespace Go.Proofs.YtafmhoeammbemaaDoor
set_option linter.unusedVariables false
set_option linter.unusedSimpArgs false

def andF (out : Int) : List Int → Int
  | [] => out
  | a :: l => if a = 0 then 0 else andF (if a = 1 then out else 2) l
def orF (out : Int) : List Int → Int
  | [] => out
  | a :: l => if a = 1 then 1 else orF (if a = 0 then out else 2) l
def notI (a : Int) : Int := if a = 0 then 1 else if a = 1 then 0 else 2
def xorF (out : Int) : List Int → Int
  | [] => out
  | a :: l => if a ≠ 0 ∧ a ≠ 1 then 2 else xorF (if a = 1 then notI out else out) l
def firstF : List Int → Int
  | [] => 2
  | a :: l => if a = 0 ∨ a = 1 then a else firstF l
def foldV (how : Int) (no yes un : Nat) (fi : Int) : Int :=
  if (how = 0 ∧ 0 < no) ∨ (how = 1 ∧ yes = 0 ∧ un = 0) then 0 else if (how = 1 ∧ 0 < yes) ∨ (how = 0 ∧ un = 0) then 1 else if how = 3 then fi else if 0 < un then 2 else ((yes % 2 : Nat) : Int)
def foldF (how : Int) (no yes un : Nat) (fi : Int) : List Int → Int
  | [] => foldV how no yes un fi
  | a :: l => if a = 0 then foldF how (no + 1) yes un (if fi = 2 then a else fi) l else if a = 1 then foldF how no (yes + 1) un (if fi = 2 then a else fi) l else foldF how no yes (un + 1) fi l
theorem foldF_and (l : List Int) : ∀ (no yes un : Nat) (fi : Int), foldF 0 no yes un fi l = if 0 < no then 0 else andF (if un = 0 then 1 else 2) l := by
  induction l with
  | nil =>
    intro no yes un fi
    unfold foldF foldV andF
    by_cases h1 : 0 < no <;> by_cases h2 : un = 0 <;> simp [h1, h2] <;> omega
  | cons a l ih =>
    intro no yes un fi
    unfold foldF andF
    by_cases h0 : a = 0
    · rw [if_pos h0, ih, if_pos h0]; simp
    · rw [if_neg h0, if_neg h0]
      by_cases h1 : a = 1
      · rw [if_pos h1, if_pos h1, ih]
      · rw [if_neg h1, if_neg h1, ih]; simp
theorem foldF_or (l : List Int) : ∀ (no yes un : Nat) (fi : Int), foldF 1 no yes un fi l = if 0 < yes then 1 else orF (if un = 0 then 0 else 2) l := by
  induction l with
  | nil =>
    intro no yes un fi
    unfold foldF foldV orF
    by_cases h1 : 0 < yes <;> by_cases h2 : un = 0 <;> by_cases h3 : yes = 0 <;> simp [h1, h2, h3] <;> omega
  | cons a l ih =>
    intro no yes un fi
    unfold foldF orF
    by_cases h0 : a = 0
    · subst h0; simp [ih]
    · rw [if_neg h0, if_neg h0]
      by_cases h1 : a = 1
      · rw [if_pos h1, if_pos h1, ih]; simp
      · rw [if_neg h1, if_neg h1, ih]; simp
theorem foldF_xor (l : List Int) : ∀ (no yes un : Nat) (fi : Int), foldF 2 no yes un fi l = if 0 < un then 2 else xorF ((yes % 2 : Nat) : Int) l := by
  induction l with
  | nil =>
    intro no yes un fi
    unfold foldF foldV xorF
    simp
  | cons a l ih =>
    intro no yes un fi
    unfold foldF xorF
    by_cases h0 : a = 0
    · subst h0; simp [ih]
    · rw [if_neg h0]
      by_cases h1 : a = 1
      · subst h1
        rw [if_pos rfl, ih]
        have hn : notI ((yes % 2 : Nat) : Int) = (((yes + 1) % 2 : Nat) : Int) := by
          unfold notI
          rcases Nat.mod_two_eq_zero_or_one yes with h | h
          · rw [h, show (yes + 1) % 2 = 1 by omega]; rfl
          · rw [h, show (yes + 1) % 2 = 0 by omega]; rfl
        rw [if_neg (show ¬ ((1 : Int) ≠ 0 ∧ (1 : Int) ≠ 1) by decide), if_pos (show (1 : Int) = 1 from rfl), hn]
      · rw [if_neg h1, ih]; simp [h0, h1]
theorem foldF_first (l : List Int) : ∀ (no yes un : Nat) (fi : Int), foldF 3 no yes un fi l = if fi = 2 then firstF l else fi := by
  induction l with
  | nil =>
    intro no yes un fi
    unfold foldF foldV firstF
    by_cases h : fi = 2 <;> simp [h]
  | cons a l ih =>
    intro no yes un fi
    unfold foldF firstF
    by_cases h0 : a = 0
    · subst h0; rw [if_pos rfl, ih]; by_cases h : fi = 2 <;> simp [h]
    · rw [if_neg h0]
      by_cases h1 : a = 1
      · subst h1; rw [if_pos rfl, ih]; by_cases h : fi = 2 <;> simp [h]
      · rw [if_neg h1, ih]; simp [h0, h1]
theorem andF_eq (l : List Int) : ∀ out : Int, andF out l = if (0 : Int) ∈ l then 0 else if ∀ a ∈ l, a = 1 then out else 2 := by
  induction l with
  | nil => intro out; simp [andF]
  | cons a l ih =>
    intro out
    unfold andF
    by_cases h0 : a = 0
    · subst h0; simp
    · rw [if_neg h0, ih]
      have h0' : ¬ (0 : Int) = a := fun e => h0 e.symm
      by_cases h1 : a = 1
      · subst h1; simp
      · simp [h0', h1]
theorem orF_eq (l : List Int) : ∀ out : Int, orF out l = if (1 : Int) ∈ l then 1 else if ∀ a ∈ l, a = 0 then out else 2 := by
  induction l with
  | nil => intro out; simp [orF]
  | cons a l ih =>
    intro out
    unfold orF
    by_cases h0 : a = 1
    · subst h0; simp
    · rw [if_neg h0, ih]
      have h0' : ¬ (1 : Int) = a := fun e => h0 e.symm
      by_cases h1 : a = 0
      · subst h1; simp
      · simp [h0', h1]
theorem xorF_unknown (l : List Int) : ∀ out : Int, (∃ a ∈ l, a ≠ 0 ∧ a ≠ 1) → xorF out l = 2 := by
  induction l with
  | nil => intro out h; obtain ⟨a, h, _⟩ := h; simp at h
  | cons a l ih =>
    intro out h
    unfold xorF
    by_cases h0 : a ≠ 0 ∧ a ≠ 1
    · rw [if_pos h0]
    · rw [if_neg h0]
      obtain ⟨c, hc, hk⟩ := h
      rcases List.mem_cons.1 hc with rfl | hc
      · exact (h0 hk).elim
      · exact ih _ ⟨c, hc, hk⟩
theorem mem_set2 {l : List Int} {k : Nat} (hk : k < l.length) : (2 : Int) ∈ l.set k 2 := by
  have : (l.set k 2)[k]? = some 2 := by simp [hk]
  exact List.mem_of_getElem? this
theorem mem_other {l : List Int} {k : Nat} {u v x : Int} (hu : x ≠ u) (h : x ∈ l.set k u) : x ∈ l.set k v := by
  obtain ⟨j, hj⟩ := List.mem_iff_getElem?.1 h
  by_cases hjk : j = k
  · subst hjk
    rw [List.getElem?_set_self' ] at hj
    cases hl : l[j]? with
    | none => rw [hl] at hj; simp at hj
    | some y => rw [hl] at hj; simp at hj; exact (hu hj.symm).elim
  · rw [List.getElem?_set_ne (fun e => hjk e.symm)] at hj
    exact List.mem_iff_getElem?.2 ⟨j, by rw [List.getElem?_set_ne (fun e => hjk e.symm)]; exact hj⟩
theorem kleene_and {l : List Int} {k : Nat} (v : Int) (hk : k < l.length) : andF 1 (l.set k 2) = 2 ∨ andF 1 (l.set k 2) = andF 1 (l.set k v) := by
  rw [andF_eq, andF_eq]
  by_cases h0 : (0 : Int) ∈ l.set k 2
  · right
    rw [if_pos h0, if_pos (mem_other (by decide) h0)]
  · left
    rw [if_neg h0, if_neg]
    intro h
    exact absurd (h 2 (mem_set2 hk)) (by decide)
theorem kleene_or {l : List Int} {k : Nat} (v : Int) (hk : k < l.length) : orF 0 (l.set k 2) = 2 ∨ orF 0 (l.set k 2) = orF 0 (l.set k v) := by
  rw [orF_eq, orF_eq]
  by_cases h0 : (1 : Int) ∈ l.set k 2
  · right
    rw [if_pos h0, if_pos (mem_other (by decide) h0)]
  · left
    rw [if_neg h0, if_neg]
    intro h
    exact absurd (h 2 (mem_set2 hk)) (by decide)
theorem kleene_xor {l : List Int} {k : Nat} (hk : k < l.length) : xorF 0 (l.set k 2) = 2 := xorF_unknown _ _ ⟨2, mem_set2 hk, by decide, by decide⟩
end Go.Proofs.YtafmhoeammbemaaDoor
