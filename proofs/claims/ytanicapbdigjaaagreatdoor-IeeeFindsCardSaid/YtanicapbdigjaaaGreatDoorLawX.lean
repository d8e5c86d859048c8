import Derived.Test.YtanicapbdigjaaaGreatDoorIeeeE
namespace Go.Proofs.YtanicapbdigjaaaGreatDoor
open Go.RowKit
set_option linter.unusedVariables false
set_option linter.unusedSimpArgs false
attribute [local go_sem] field_nat
theorem size_sign {E F n : Nat} (hn : n < fsgn E F) : fsize E F (n + fsgn E F) = n := by
  unfold fsize fsgn at *; rw [Nat.add_mod_right]; exact Nat.mod_eq_of_lt hn
theorem neg_sign {E F n : Nat} (hn : n < fsgn E F) : fneg E F (n + fsgn E F) = true := by
  unfold fneg fsgn at *; rw [Nat.add_comm, Nat.testBit_two_pow_add_eq, Nat.testBit_lt_two_pow hn]; rfl
theorem or_sign {E F n : Nat} (hE : E ≤ 11) (hF : F ≤ 52) (hn : n < fsgn E F) : bits .or .u64 (n : Int) (fsgn E F : Int) = ((n + fsgn E F : Nat) : Int) := or_top hn (by omega)
theorem order_nan {E F n : Nat} (hn : n < fsgn E F) (h : finf E F < n) : dkind E F n = 4 ∧ dkind E F (n + fsgn E F) = 4 :=
  ⟨(dk_nan (by rw [size_self hn]; exact h)).1, (dk_nan (by rw [size_sign hn]; exact h)).1⟩
theorem order_inf {E F n : Nat} (hn : n < fsgn E F) (h : n = finf E F) : dkind E F n = 2 ∧ dkind E F (n + fsgn E F) = 3 := by
  have h1 := dk_inf (E := E) (F := F) (b := n) (by rw [size_self hn]; exact h)
  have h2 := dk_inf (E := E) (F := F) (b := n + fsgn E F) (by rw [size_sign hn]; exact h)
  rw [neg_self hn] at h1
  rw [neg_sign hn] at h2
  exact ⟨h1.1, h2.1⟩
theorem order_fin {E F n : Nat} (hn : n < fsgn E F) (h : n < finf E F) : (dkind E F n = 1 ∧ dval' E F n = fval E F n) ∧ (dkind E F (n + fsgn E F) = 1 ∧ dval' E F (n + fsgn E F) = 0 - fval E F n) := by
  have h1 := dk_fin (E := E) (F := F) (b := n) (by rw [size_self hn]; exact h)
  have h2 := dk_fin (E := E) (F := F) (b := n + fsgn E F) (by rw [size_sign hn]; exact h)
  rw [neg_self hn, size_self hn] at h1
  rw [neg_sign hn, size_sign hn] at h2
  refine ⟨⟨h1.1, h1.2⟩, h2.1, ?_⟩
  rw [h2.2, if_pos rfl, Rat.sub_eq_add_neg, Rat.zero_add]
theorem decode_x (E F b : Nat) (x : Int) (w : World) (hx : x = b) (hE2 : 2 ≤ E) (hE : E ≤ 11) (hF1 : 1 ≤ F) (hF : F ≤ 52) (hb64 : b < 18446744073709551616) :
    Calls Tryz.prog 18 #[formV (E : Int) (F : Int), .int .u64 x] w (QPostC w (dval' E F b) (dkind E F b)) := by
  rw [hx]; exact decode_any E F b w hE2 hE hF1 hF hb64
/-- The forms that most laws look at. -/
def Looked (x : Int) (E F : Nat) : Prop := x = 0 ∧ E = 8 ∧ F = 23 ∨ x = 2 ∧ E = 4 ∧ F = 3
theorem Looked.ok {x : Int} {E F : Nat} (h : Looked x E F) : 2 ≤ E ∧ E ≤ 8 ∧ 1 ≤ F ∧ F ≤ 23 := by
  rcases h with ⟨_, rfl, rfl⟩ | ⟨_, rfl, rfl⟩ <;> decide
theorem looked (how : Int) : ∃ E F, Looked (bits .and .i64 how 2) E F := by
  rcases and_two_i how with h | h
  · exact ⟨8, 23, .inl ⟨h, rfl, rfl⟩⟩
  · exact ⟨4, 3, .inr ⟨h, rfl, rfl⟩⟩
theorem form_fix (x : Int) (E F : Nat) (w : World) (hx : Hid (Looked x E F)) : Calls Tryz.prog 4 #[.int .i64 x, .int .i64 0, .int .i64 0] w fun e w' => e = .returned (formV (E : Int) (F : Int)) ∧ Below w.heap.size w w' := by
  rcases hx.out with ⟨rfl, rfl, rfl⟩ | ⟨rfl, rfl, rfl⟩
  · exact form_any 0 0 0 w
  · exact form_any 2 0 0 w
theorem lt_cmp {E F n m : Nat} : (qcmp (fval E F n) (fval E F m) < 0) ↔ n < m := by
  unfold qcmp
  constructor
  · intro h
    split at h
    · rename_i h1; exact fval_lt.1 h1
    · split at h <;> simp at h
  · intro h; rw [if_pos (fval_lt.2 h)]; decide
end Go.Proofs.YtanicapbdigjaaaGreatDoor
