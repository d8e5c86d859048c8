/-
  The laws' own functions (2): alive.
-/
import Derived.Test.YtegneoaoodddoaaDoorNatN
import Derived.Test.YtegneoaoodddoaaDoorNatP
import Derived.Test.YtegneoaoodddoaaDoorNatI
import Derived.Test.YtegneoaoodddoaaDoorNatE
import Derived.Test.YtegneoaoodddoaaDoorNatJ
namespace Go.Proofs.YtegneoaoodddoaaDoor
open Go.RowKit Go.Shelf
set_option linter.unusedVariables false
set_option linter.unusedSimpArgs false
attribute [local go_sem] field_nat


theorem Iter.up {α : Type} {P : Program} {gf : Nat} {lb : Array Value} {Enc : World → Value → α → Prop} {xs : List α} {B B' : Nat} {Kp : World → World → Prop} {w w' : World} (h : Iter P gf lb Enc xs B Kp w) (hb : Below w.heap.size w w') (hB : B ≤ B') :
    Iter P gf lb Enc xs B' Kp w' := fun l J Jx S0 W1 hW hS => h l J Jx S0 W1 (hb.trans (hW.mono hb.size)) (fun k hk => ⟨Nat.le_trans hB (hS k hk).1, (hS k hk).2⟩)

theorem str_dec {l : List UInt8} (h : numOk l = true) : str (dec (dnum l)) = l := dec_dnum l h

theorem NatsIs.shape {W : World} {v : Value} {ns : List Nat} (h : NatsIs W v ns) : ∃ ao cap, v = .slice ao ns.length cap := by
  obtain ⟨base, svs, h1, h2⟩ := h
  rcases h1.shape with ⟨rfl, rfl⟩ | ⟨g, cap, rfl, _⟩
  · exact ⟨none, 0, by rw [← h2.1]; rfl⟩
  · exact ⟨_, cap, by rw [h2.1]⟩

theorem held1 {wr w1 w2 : World} {p : Addr} {u : Value} (hb : Below w1.heap.size w1 w2) (h : w1.cell? p = some u ∧ Below wr.heap.size wr w1) :
    w2.cell? p = some u ∧ Below wr.heap.size wr w2 :=
  ⟨(hb.cell (p := p) (World.block_lt_of_cell? w1 p h.1)).trans h.1, h.2.trans (hb.mono h.2.size)⟩
theorem held1_nat {wr w1 : World} {p : Addr} {u x : Value} {n : Nat} (hn : NatIs wr x n) (h : w1.cell? p = some u ∧ Below wr.heap.size wr w1) : NatIs w1 x n := hn.below h.2

theorem limbs_small {n : Nat} (h : n < 4294967296) : (limbs n).length ≤ 100000000 := Nat.le_trans (limbs_length_le (k := 1) (by omega)) (by omega)

/-- Twenty nines. -/
def nines20 : List UInt8 := [57, 57, 57, 57, 57, 57, 57, 57, 57, 57, 57, 57, 57, 57, 57, 57, 57, 57, 57, 57]

set_option maxRecDepth 100000 in
/-- Halves hands back an iterator. -/
theorem halves_any (va : Value) (a : Nat) (w : World) (ha : NatIs w va a) (hla : (limbs a).length ≤ 1000000) :
    Calls Tryd.prog 23 #[va] w fun e w' => ∃ b, e = .returned (.func (.func 54) #[] #[.pointer (some ⟨b, 0, none⟩)]) ∧
      Iter Tryd.prog 54 #[.pointer (some ⟨b, 0, none⟩)] NatIs (halvesL a) w'.heap.size KeepNat w' ∧ Below w.heap.size w w' := by
  obtain ⟨ao, ca, rfl, ha1, ha2, ha3, ha4⟩ := ha.open
  go_enter Tryd.func23, Tryd.ntmps23
  go_wp2
  go_ret
  have hb : Below w.heap.size w (w.alloc (.cells #[.slice ao (limbs a).length ca] 25)) := (Below.refl _ w).alloc (Nat.le_refl _) _
  exact ⟨w.heap.size, rfl, halves1_iter _ a w.heap.size _ _ (ha.below hb) hla (by go_simp) (by simp) (Nat.le_refl _), hb⟩

theorem enters_halves1 : ∀ args w, (callFunc 54 args).run Tryd.prog w = .ok (.enter 54 args) w := enters_of Tryd.func54 (by kernel_rfl) rfl

theorem eq_nilfunc (w : World) (f : FuncId) (rs cs : Array Value) : (binOp .eql 47 (.func (.func f) rs cs) .nilFunc).run Tryd.prog w = .ok (.bool false) w := by kernel_rfl

attribute [local go_sem] eq_nilfunc
set_option maxRecDepth 100000 in
set_option maxHeartbeats 1000000 in
theorem alive_any (w : World) : Calls Tryd.prog 10 #[] w fun e w' => e = .returned (.bool true) ∧ Below w.heap.size w w' := by
  go_enter Tryd.func10, Tryd.ntmps10
  go_wp2_with fail
  refine (parse_any nines20 w (by decide)).mono ?_
  rintro e w1 ⟨r, rfl, hn1, hb1⟩
  have hc : pcode nines20 = 0 := by decide
  have hv : pval nines20 = 99999999999999999999 := by decide
  obtain ⟨A, hA⟩ : ∃ A, A = pval nines20 := ⟨_, rfl⟩
  rw [← hA] at hn1
  have hA2 : A = 99999999999999999999 := hA.trans hv
  have hAl : (limbs A).length ≤ 3 := limbs_length_le (by omega)
  have HA := Lib.hid hA2
  clear hA2
  rw [hc]
  clear hc hv hA
  obtain ⟨ao, ca, rfl, _, _, _, _⟩ := hn1.open
  obtain ⟨w2, hw2⟩ : ∃ w2, w2 = w1.alloc (.cells #[Value.slice ao (limbs A).length ca] 25) := ⟨_, rfl⟩
  have hbx : Box w2 w1.heap.size (Value.slice ao (limbs A).length ca) := by rw [hw2]; exact ⟨by go_simp, by go_simp, by simp⟩
  have hb12 : Below w1.heap.size w1 w2 := by rw [hw2]; exact (Below.refl _ w1).alloc (Nat.le_refl _) _
  have hb2 : Below w.heap.size w w2 := hb1.trans (hb12.mono hb1.size)
  have hn2 := hn1.below hb12
  have HW := Lib.hid hw2; clear hw2
  go_wp2_with fail
  rw [← HW.out]
  refine (of_any 6 w2 (by omega)).mono ?_
  rintro e w3 ⟨r, rfl, hn6, hb3⟩
  go_wp2_with fail
  refine (halves_any r 6 w3 hn6 (Nat.le_trans (limbs_length_le (k := 1) (by omega)) (by omega))).mono ?_
  rintro e w4 ⟨b, rfl, hit, hb4⟩
  have hbx4 := (hbx.kept hb3).kept hb4
  have hb24 := hb3.trans (hb4.mono hb3.size)
  go_wp2_with fail
  refine (halves_list _ _ (halvesL 6) 0 w4 hit enters_halves1 (by rw [halvesL_length]; exact Nat.le_trans (blen_le (k := 3) (by omega)) (by omega)) (by omega) (by omega)).mono ?_
  rintro e w5 ⟨v5, rfl, hv5, hb5⟩
  have h3 : (takeStop (halvesL 6) 0).length = 3 := by
    unfold takeStop
    rw [if_neg (by omega), halvesL_length]
    exact blen_unique (by omega) (by omega)
  obtain ⟨o5, c5, rfl⟩ := hv5.shape
  rw [h3]
  clear h3
  have hbx5 := hbx4.kept hb5
  have hb25 := hb24.trans (hb5.mono hb24.size)
  go_wp2_with fail
  refine (of_any 7 w5 (by omega)).mono ?_
  rintro e w6 ⟨r, rfl, hn7, hb6⟩
  go_wp2_with fail
  refine (small_any r 7 w6 hn7 (Nat.le_trans (limbs_length_le (k := 1) (by omega)) (by omega))).mono ?_
  rintro e w7 ⟨rfl, hb7⟩
  have hbx7 := (hbx5.kept hb6).kept hb7
  have hb67 := hb6.trans (hb7.mono hb6.size)
  have hb27 := hb25.trans (hb67.mono hb25.size)
  have hn9 := hn2.below hb27
  have e7 := hbx7.cell
  have s1 : smallV 7 = 7 := by decide
  have s2 : smallB 7 = true := by decide
  rw [s1, s2]
  clear s1 s2
  have hAm : (limbs (A * 10)).length ≤ 100000 := Nat.le_trans (limbs_length_le (k := 3) (by have := HA.out; omega)) (by omega)
  have hT : str (dec (A * 10)) = nines20 ++ [48] := by
    have h1 : A * 10 = dnum (nines20 ++ [48]) := by rw [HA.out]; decide
    rw [h1]; exact str_dec (by decide)
  have HT := Lib.hid hT; clear hT
  have hB : blen 6 = 3 := blen_unique (by omega) (by omega)
  have HB := Lib.hid hB; clear hB
  go_wp2_with fail
  go_region_held3 (fun w' => w'.cell? ⟨w1.heap.size, 0, none⟩ = some (Value.slice ao (limbs A).length ca) ∧ Below w7.heap.size w7 w')
    (first | assumption | exact ⟨e7, (Below.refl _ _).drew⟩)
    (first
      | (go_at_call_of 16 (Value.int IntKind.u64 10); refine (of_any 10 _ (by omega)).mono ?_; rintro e w' ⟨r10, rfl, hn10, hb'⟩; have hS := held1 hb' (by assumption))
      | (go_at_call 36; refine (mul_any _ _ A 10 _ (held1_nat hn9 (by assumption)) (by assumption) (by omega) (limbs_small (by omega))).mono ?_; rintro e w' ⟨rm, rfl, hnm, hb'⟩; have hS := held1 hb' (by assumption))
      | (go_at_call 13; refine (text_any _ _ _ (by assumption) hAm).mono ?_; rintro e w' ⟨rfl, hb'⟩; rw [HT.out]; have hS := held1 hb' (by assumption))
      | (go_at_call_of 16 (Value.int IntKind.u64 6); refine (of_any 6 _ (by omega)).mono ?_; rintro e w' ⟨r6, rfl, hn6', hb'⟩; have hS := held1 hb' (by assumption))
      | (go_at_call 37; refine (bits_any _ 6 _ (by assumption) (limbs_small (by omega))).mono ?_; rintro e w' ⟨rfl, hb'⟩; rw [HB.out]; have hS := held1 hb' (by assumption)))
  go_wp2
  go_ret
  exact ⟨rfl, (hb2.trans (hb27.mono hb2.size)).trans (hS.2.mono (hb2.trans (hb27.mono hb2.size)).size)⟩
end Go.Proofs.YtegneoaoodddoaaDoor
