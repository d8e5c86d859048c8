import Derived.Test.YtieffhkfefimeaaGreatDoorRangeN
import Derived.Test.YtieffhkfefimeaaGreatDoorNatN5
import Derived.Test.YtieffhkfefimeaaGreatDoorRefN
namespace Go.Proofs.YtieffhkfefimeaaGreatDoor
open Go.RowKit Go.Shelf
set_option linter.unusedVariables false
set_option linter.unusedSimpArgs false
attribute [local go_sem] Oper.semAt_some
attribute [local go_sem] field_nat
/-- Numbers lie on. -/
def KeepNat (W W' : World) : Prop := ∀ v n, NatIs W v n → NatIs W' v n
theorem KeepNat.trans {A C D : World} (h : KeepNat A C) (h' : KeepNat C D) : KeepNat A D := fun v n hn => h' v n (h v n hn)
/-- All cells that hold limbs hold them still. -/
theorem KeepNat.of_cells {A C : World} (hs : A.heap.size ≤ C.heap.size) (h : ∀ p n, A.cell? p = some (.int .u32 n) → C.cell? p = some (.int .u32 n)) : KeepNat A C := by
  rintro v n ⟨sv, rfl, ao, cap, h1, h2, h3, h4, h5⟩
  refine ⟨sv, rfl, ao, cap, h1, h2, h3, h4, ?_⟩
  rcases h5 with h5 | ⟨b, off, h6, h7, h8⟩
  · exact .inl h5
  · refine .inr ⟨b, off, h6, Nat.lt_of_lt_of_le h7 hs, fun i hi => ?_⟩
    exact h _ _ (h8 i hi)
theorem KeepNat.below {A C : World} (h : Below A.heap.size A C) : KeepNat A C := fun v n hn => hn.below h
theorem Ext.block {B : Nat} {A C : World} (h : Ext B A C) {p : Addr} {v : Value} (hp : A.cell? p = some v) : C.heap[p.block]? = A.heap[p.block]? := by
  unfold World.cell? at hp
  split at hp
  · rename_i hb
    rw [hb]; exact h.cells _ _ hb rfl
  · cases hp
theorem Ext.cell {B : Nat} {A C : World} (h : Ext B A C) {p : Addr} {v : Value} (hp : A.cell? p = some v) : C.cell? p = some v :=
  (World.cell?_of_block (h.block hp)).trans hp
theorem KeepNat.ext {B : Nat} {A C : World} (h : Ext B A C) : KeepNat A C := KeepNat.of_cells h.size fun p n hp => h.cell hp
theorem Box.ext {B : Nat} {A C : World} {b : Nat} {v : Value} (hx : Box A b v) (h : Ext B A C) : Box C b v :=
  ⟨h.cell hx.cell, (World.frozen?_of_block (h.block hx.cell)).trans hx.free, Nat.lt_of_lt_of_le hx.lt h.size⟩
theorem Box.foot {S S' : Nat → Prop} {A C : World} {b : Nat} {v : Value} (hx : Box A b v) (h : Foot S S' A C) (hs : ¬ S b) : Box C b v :=
  have e := h.same b hx.lt hs
  ⟨(World.cell?_of_block (a := ⟨b, 0, none⟩) e).trans hx.cell, (World.frozen?_of_block (a := ⟨b, 0, none⟩) e).trans hx.free, Nat.lt_of_lt_of_le hx.lt h.size⟩
theorem limbs_div_le {a k m : Nat} (h : (limbs a).length ≤ m) : (limbs (a / 2 ^ k)).length ≤ m :=
  Nat.le_trans (limbs_length_mono (Nat.div_le_self _ _)) h
theorem Owns.of_block {base : Nat} {e : TypeId} {w w' : World} {v : Value} {xs : List Value} (h : Owns base e w v xs) (hb : ∀ g, v.ownBlock = some g → w'.heap[g]? = w.heap[g]?) : Owns base e w' v xs := by
  refine ⟨h.1, ?_⟩
  rcases h.2 with h1 | ⟨g, cap, cur, rfl, h2, h3, h4⟩
  · exact .inl h1
  · exact .inr ⟨g, cap, cur, rfl, h2, (hb g rfl).trans h3, h4⟩
theorem Owns.ext {B base : Nat} {e : TypeId} {w w' : World} {v : Value} {xs : List Value} (h : Owns base e w v xs) (hx : Ext B w w') : Owns base e w' v xs := by
  refine ⟨h.1, ?_⟩
  rcases h.2 with h1 | ⟨g, cap, cur, rfl, h2, h3, h4⟩
  · exact .inl h1
  · exact .inr ⟨g, cap, cur, rfl, h2, hx.cells _ _ h3 rfl, h4⟩
theorem below_ext {B D : Nat} {w W W' : World} (h : Below B w W) (hx : Ext D W W') (hD : B ≤ D) (hBw : B ≤ W.heap.size) : Below B w W' :=
  ⟨hx.os.trans h.os, hx.tape.trans h.tape, hx.output.trans h.output, Nat.le_trans h.size hx.size, fun k hk => (hx.low k (by omega) (by omega)).trans (h.block k hk)⟩
theorem Iter.mono {α : Type} {P : Program} {gf : Nat} {lb : Array Value} {Enc : World → Value → α → Prop} {xs : List α} {B : Nat} {Kp : World → World → Prop} {w w' : World} (h : Iter P gf lb Enc xs B Kp w) (hb : Below w.heap.size w w') :
    Iter P gf lb Enc xs B Kp w' := fun l J Jx S0 W1 hW => h l J Jx S0 W1 (hb.trans (hW.mono hb.size))
/-- A row that an append has made, and the box into which it goes: what lies elsewhere lies on. -/
theorem grown_foot {W w1 : World} {bx : Nat} {v v' : Value} (hg : W.grownBy w1 v.ownBlock) (hlt : bx < W.heap.size) (ho : ∀ g, v'.ownBlock = some g → v.ownBlock = some g ∨ W.heap.size ≤ g) (u : Value) :
    Foot (fun k => k = bx ∨ v.ownBlock = some k) (fun k => k = bx ∨ v'.ownBlock = some k) W (w1.setCell ⟨bx, 0, none⟩ u) where
  os := hg.os
  tape := hg.tape
  output := hg.output
  size := by simpa using hg.size
  same k hk hs := by
    have h1 : k ≠ bx := fun e => hs (.inl e)
    have h2 : ¬ (some k = v.ownBlock) := fun e => hs (.inr e.symm)
    have := (grownBy_set (grownBy_refl w1 (some bx)) 0 u).block k (Nat.lt_of_lt_of_le hk hg.size) (by simpa using h1)
    exact this.trans (hg.block k hk h2)
  fresh k h := by
    rcases h with h | h
    · exact .inl (.inl h)
    · rcases ho k h with h1 | h1
      · exact .inl (.inr h1)
      · exact .inr h1
theorem owns_snoc {base : Nat} {e : TypeId} {w : World} {v u : Value} {xs : List Value} (h : Owns base e w v (xs ++ [u])) : ∃ g cap, v = .slice (some ⟨g, 0, none⟩) (xs.length + 1) cap := by
  rcases h.shape with ⟨_, h1⟩ | ⟨g, cap, h1, _⟩
  · simp at h1
  · exact ⟨g, cap, by rw [h1]; simp⟩
/-- No limb. -/
def NotInt (c : Value) : Prop := ∀ n, c ≠ .int .u32 n
theorem RowAll.block {p : Value → Prop} {W W' : World} {v : Value} (h : RowAll p W v) (hb : ∀ g, v.ownBlock = some g → W'.heap[g]? = W.heap[g]?) : RowAll p W' v :=
  fun g hg j c hc => h g hg j c ((World.cell?_of_block (a := ⟨g, j, none⟩) (hb g hg)).symm.trans hc)
theorem Owns.at_cells {base : Nat} {e : TypeId} {w : World} {v : Value} {xs : List Value} (h : Owns base e w v xs) : ∀ g, v.ownBlock = some g → base ≤ g ∧ g < w.heap.size ∧ ∃ o : Obj, w.heap[g]? = some o ∧ o.isCells = true := by
  intro g hg
  rcases h.2 with ⟨rfl, _⟩ | ⟨g', cap, cur, rfl, h2, h3, h4⟩
  · simp [Value.ownBlock] at hg
  · simp [Value.ownBlock] at hg
    subst hg
    exact ⟨h2, (Array.getElem?_eq_some_iff.1 h3).1, _, h3, rfl⟩
theorem RowAll.ext {p : Value → Prop} {B base : Nat} {e : TypeId} {W W' : World} {v : Value} {xs : List Value} (h : RowAll p W v) (hx : Ext B W W') (hO : Owns base e W v xs) : RowAll p W' v :=
  h.block fun g hg => by obtain ⟨_, _, o, h1, h2⟩ := hO.at_cells g hg; rw [h1]; exact hx.cells _ _ h1 h2
theorem RowAll.below {p : Value → Prop} {base : Nat} {e : TypeId} {W W' : World} {v : Value} {xs : List Value} (h : RowAll p W v) (hb : Below W.heap.size W W') (hO : Owns base e W v xs) : RowAll p W' v := h.ext (B := 0) (Ext.of_below hb) hO
theorem List.take_eq_of_prefix {α : Type} {a b : List α} (h : a <+: b) : b.take a.length = a := by
  obtain ⟨t, rfl⟩ := h
  simp
theorem keep_grown {W w1 : World} {bx : Nat} {v b0 u : Value} (hg : W.grownBy w1 v.ownBlock) (ha : RowAll NotInt W v) (hB1 : Box w1 bx b0) (h0 : NotInt b0) : KeepNat W (w1.setCell ⟨bx, 0, none⟩ u) := by
  have h1 : KeepNat W w1 := by
    refine KeepNat.of_cells hg.size ?_
    intro p n hp
    refine hg.cell hp ?_
    intro e
    obtain ⟨blk, off, spot⟩ := p
    have : spot = none := by
      unfold World.cell? at hp
      split at hp
      · cases spot with
        | none => rfl
        | some x => simp at hp
      · cases hp
    subst this
    exact ha blk e.symm off _ hp n rfl
  exact fun v' n hn => (h1 v' n hn).set _ _ (fun n e => by rw [hB1.cell] at e; exact h0 n (by injection e))
theorem ext_deferred {W : World} {D : Nat} (hD : W.heap[D]? = some (.deferred (some []))) : Ext D W (W.putObj D (.deferred none)) := Ext.put (Nat.le_refl _) hD rfl
theorem Iter.up {α : Type} {P : Program} {gf : Nat} {lb : Array Value} {Enc : World → Value → α → Prop} {xs : List α} {B B' : Nat} {Kp : World → World → Prop} {w w' : World} (h : Iter P gf lb Enc xs B Kp w) (hb : Below w.heap.size w w') (hB : B ≤ B') :
    Iter P gf lb Enc xs B' Kp w' := fun l J Jx S0 W1 hW hS => h l J Jx S0 W1 (hb.trans (hW.mono hb.size)) (fun k hk => ⟨Nat.le_trans hB (hS k hk).1, (hS k hk).2⟩)
theorem str_dec {l : List UInt8} (h : numOk l = true) : str (dec (dnum l)) = l := dec_dnum l h
theorem held1 {wr w1 w2 : World} {p : Addr} {u : Value} (hb : Below w1.heap.size w1 w2) (h : w1.cell? p = some u ∧ Below wr.heap.size wr w1) :
    w2.cell? p = some u ∧ Below wr.heap.size wr w2 :=
  ⟨(hb.cell (p := p) (World.block_lt_of_cell? w1 p h.1)).trans h.1, h.2.trans (hb.mono h.2.size)⟩
theorem held1_nat {wr w1 : World} {p : Addr} {u x : Value} {n : Nat} (hn : NatIs wr x n) (h : w1.cell? p = some u ∧ Below wr.heap.size wr w1) : NatIs w1 x n := hn.below h.2
theorem limbs_small {n : Nat} (h : n < 4294967296) : (limbs n).length ≤ 100000000 := Nat.le_trans (limbs_length_le (k := 1) (by omega)) (by omega)
theorem bytes_of (b : ByteArray) : ∃ l : List UInt8, b = ⟨l.toArray⟩ ∧ b.size = l.length := by
  obtain ⟨⟨l⟩⟩ := b
  exact ⟨l, rfl, by simp [ByteArray.size]⟩
theorem str_dec_zero : str (dec 0) = [48] := by decide
theorem pcode_nought {l : List UInt8} (h : numOk l = true) : pcode (48 :: l) = 3 := by
  have h2 : numOk (48 :: l) = false := by
    cases l with
    | nil => simp [numOk] at h
    | cons c l => simp [numOk]
  unfold pcode; rw [h2]; rfl
theorem pcode_minus (l : List UInt8) : pcode (45 :: l) = 3 := by
  have h2 : numOk (45 :: l) = false := by simp [numOk, isDig]
  unfold pcode; rw [h2]; rfl
theorem cons_bytes (c : UInt8) (l : List UInt8) : (⟨#[c]⟩ ++ ⟨l.toArray⟩ : ByteArray) = ⟨(c :: l).toArray⟩ := by
  apply ByteArray.ext
  simp
theorem dec_length {l : List UInt8} (h : numOk l = true) : (dec (dnum l)).length = l.length := by
  have := congrArg List.length (dec_dnum l h)
  simpa using this
theorem foldl_lt (l : List UInt8) (hd : l.all isDig = true) : ∀ a, l.foldl (fun a c => a * 10 + (c.toNat - 48)) a < (a + 1) * 10 ^ l.length := by
  induction l with
  | nil => intro a; simp
  | cons c l ih =>
    intro a
    simp only [List.all_cons, Bool.and_eq_true, isDig, decide_eq_true_eq] at hd
    rw [List.foldl_cons, List.length_cons, Nat.pow_succ]
    refine Nat.lt_of_lt_of_le (ih (by simpa [isDig] using hd.2) _) ?_
    rw [Nat.mul_comm (10 ^ l.length) 10, ← Nat.mul_assoc]
    exact Nat.mul_le_mul_right _ (by omega)
theorem limbs_dnum {l : List UInt8} {m : Nat} (hd : l.all isDig = true) (h : l.length ≤ m) : (limbs (dnum l)).length ≤ m := by
  refine limbs_length_le ?_
  have h1 : dnum l < 10 ^ l.length := by
    have := foldl_lt l hd 0
    simpa [dnum] using this
  exact Nat.lt_of_lt_of_le h1 (Nat.le_trans (Nat.pow_le_pow_left (by omega) _) (Nat.pow_le_pow_right (by omega) h))
/-- A number parsed goes into a box of its own. -/
theorem box_nat {w2 : World} {n : Nat} {r : Value} (hn : NatIs w2 r n) : ∃ sv, r = .agg #[sv] ∧ (∃ ao len cap, sv = .slice ao len cap) ∧ Box (w2.alloc (.cells #[sv] 79)) w2.heap.size sv ∧ Below w2.heap.size w2 (w2.alloc (.cells #[sv] 79)) ∧ NatIs (w2.alloc (.cells #[sv] 79)) r n := by
  obtain ⟨ao, ca, rfl, _, _, _, _⟩ := hn.open
  have hb : Below w2.heap.size w2 (w2.alloc (.cells #[.slice ao (limbs n).length ca] 79)) := (Below.refl _ w2).alloc (Nat.le_refl _) _
  exact ⟨_, rfl, ⟨_, _, _, rfl⟩, ⟨by go_simp, by go_simp, by simp⟩, hb, hn.below hb⟩
theorem heldS {W : World} {S : World → Prop} (hmk : ∀ w', Below W.heap.size W w' → S w') (hb : ∀ w', S w' → Below W.heap.size W w') {w1 w2 : World} (h : Below w1.heap.size w1 w2) (hs : S w1) : S w2 := hmk _ ((hb _ hs).trans (h.mono (hb _ hs).size))
theorem gcd_parts {a b : Nat} (h : 0 < a) : Nat.gcd (a / Nat.gcd a b) (b / Nat.gcd a b) = 1 := by
  have h0 : 0 < Nat.gcd a b := Nat.gcd_pos_of_pos_left _ h
  have := Nat.gcd_div (Nat.gcd_dvd_left a b) (Nat.gcd_dvd_right a b)
  rw [this, Nat.div_self h0]
theorem str_dec_one : str (dec 1) = [49] := str_dec (l := [49]) (by decide)
theorem zero_yes (v : Value) (w : World) (h : NatIs w v 0) : Calls Tryz.prog 160 #[v] w fun e w' => e = .returned (.bool true) ∧ Below w.heap.size w w' := zero_any v 0 w h
theorem zero_no (v : Value) (n : Nat) (w : World) (h : NatIs w v n) (hn : n ≠ 0) : Calls Tryz.prog 160 #[v] w fun e w' => e = .returned (.bool false) ∧ Below w.heap.size w w' := by
  have := zero_any v n w h
  rwa [decide_eq_false hn] at this
theorem pval_limbs {l : List UInt8} (h : l.length ≤ 1000) : (limbs (pval l)).length ≤ 1000 := by
  unfold pval
  split
  · rename_i hok
    split
    · rw [limbs_zero]; simp
    · refine limbs_dnum ?_ h
      simp only [numOk, Bool.and_eq_true] at hok
      exact hok.1
  · rw [limbs_zero]; simp
/-- Two numbers go into boxes of their own. -/
theorem box_nat2 {w2 : World} {n m : Nat} {r s : Value} (hn : NatIs w2 r n) (hm : NatIs w2 s m) : ∃ sv tv, r = .agg #[sv] ∧ s = .agg #[tv] ∧ (∃ ao len cap, sv = .slice ao len cap) ∧ (∃ ao len cap, tv = .slice ao len cap) ∧
    Box ((w2.alloc (.cells #[sv] 79)).alloc (.cells #[tv] 79)) w2.heap.size sv ∧ Box ((w2.alloc (.cells #[sv] 79)).alloc (.cells #[tv] 79)) (w2.heap.size + 1) tv ∧
    Below w2.heap.size w2 ((w2.alloc (.cells #[sv] 79)).alloc (.cells #[tv] 79)) ∧ NatIs ((w2.alloc (.cells #[sv] 79)).alloc (.cells #[tv] 79)) r n ∧ NatIs ((w2.alloc (.cells #[sv] 79)).alloc (.cells #[tv] 79)) s m := by
  obtain ⟨ao, ca, rfl, _, _, _, _⟩ := hn.open
  obtain ⟨bo, cb, rfl, _, _, _, _⟩ := hm.open
  have hb : Below w2.heap.size w2 ((w2.alloc (.cells #[.slice ao (limbs n).length ca] 79)).alloc (.cells #[.slice bo (limbs m).length cb] 79)) := ((Below.refl _ w2).alloc (Nat.le_refl _) _).alloc (by simp) _
  exact ⟨_, _, rfl, rfl, ⟨_, _, _, rfl⟩, ⟨_, _, _, rfl⟩, ⟨by go_simp, by go_simp, by simp <;> omega⟩, ⟨by go_simp, by go_simp, by simp <;> omega⟩, hb, hn.below hb, hm.below hb⟩
theorem cmp_same (va vb : Value) (a : Nat) (w : World) (ha : NatIs w va a) (hb : NatIs w vb a) :
    Calls Tryz.prog 141 #[va, vb] w fun e w' => e = .returned (.int .i64 0) ∧ Below w.heap.size w w' := by
  have := cmp_any va vb a a w ha hb
  unfold cmpI at this
  rwa [if_neg (Nat.lt_irrefl a), if_neg (Nat.lt_irrefl a)] at this
theorem shift_down (va : Value) (a s : Nat) (w : World) (ha : NatIs w va a) (hla : (limbs a).length ≤ 1000000) (hs : s ≤ 20000) :
    Calls Tryz.prog 171 #[va, .int .i64 (-(s : Int))] w fun e w' => ∃ r, e = .returned r ∧ NatIs w' r (a / 2 ^ s) ∧ Below w.heap.size w w' := by
  rcases Nat.eq_zero_or_pos s with rfl | h0
  · have := shift_any va a 0 w ha hla (by omega)
    simpa using this
  · exact shift_neg va a s w ha hla (by omega) h0
theorem blen_shift {a : Nat} (h : 0 < a) (k : Nat) : blen (a * 2 ^ k) = blen a + k := by
  have h1 := two_blen_le h
  have h2 := lt_two_blen a
  have h3 := blen_pos h
  have h4 := blen_unique (n := a * 2 ^ k) (k := blen a - 1 + k) (by rw [Nat.pow_add]; exact Nat.mul_le_mul_right _ h1) (by
    rw [show blen a - 1 + k + 1 = blen a + k by omega, Nat.pow_add]
    exact Nat.mul_lt_mul_of_pos_right h2 (Nat.two_pow_pos k))
  omega
theorem limbs_mul {a b m n : Nat} (ha : (limbs a).length ≤ m) (hb : (limbs b).length ≤ n) : (limbs (a * b)).length ≤ m + n := by
  have h1 := lt_pow_limbs a
  have h2 := lt_pow_limbs b
  refine Nat.le_trans (limbs_length_le (k := (limbs a).length + (limbs b).length) ?_) (by omega)
  rw [Nat.pow_add]
  rcases Nat.eq_zero_or_pos b with h0 | h0
  · subst h0; rw [Nat.mul_zero]; exact Nat.mul_pos (Nat.pow_pos (by decide)) (Nat.pow_pos (by decide))
  · exact Nat.lt_of_lt_of_le (Nat.mul_lt_mul_of_pos_right h1 h0) (Nat.mul_le_mul_left _ (Nat.le_of_lt h2))
theorem limbs_add {a b m : Nat} (ha : (limbs a).length ≤ m) (hb : (limbs b).length ≤ m) : (limbs (a + b)).length ≤ m + 1 := by
  have h1 : a < 4294967296 ^ m := Nat.lt_of_lt_of_le (lt_pow_limbs a) (Nat.pow_le_pow_right (by decide) ha)
  have h2 : b < 4294967296 ^ m := Nat.lt_of_lt_of_le (lt_pow_limbs b) (Nat.pow_le_pow_right (by decide) hb)
  refine limbs_length_le ?_
  rw [Nat.pow_succ]
  omega
theorem box_of {w : World} {p : Nat} {v : Value} (hc : w.cell? ⟨p, 0, none⟩ = some v) (hf : w.frozen? ⟨p, 0, none⟩ = false) : Box w p v := ⟨hc, hf, World.block_lt_of_cell? w ⟨p, 0, none⟩ hc⟩
theorem NatIs.setBox {w : World} {v u : Value} {n : Nat} {p : Addr} (h : NatIs w v n) (hc : w.cell? p = some (.slice none 0 0)) : NatIs (w.setCell p u) v n := h.set _ _ (fun n e => by rw [hc] at e; cases e)
theorem zero_is (v : Value) (n : Nat) (w : World) (h : NatIs w v n) (hn : n = 0) : Calls Tryz.prog 160 #[v] w fun e w' => e = .returned (.bool true) ∧ Below w.heap.size w w' := by
  have := zero_any v n w h
  rwa [decide_eq_true hn] at this
theorem NatIs.alloc {w : World} {v : Value} {n : Nat} (h : NatIs w v n) (o : Obj) : NatIs (w.alloc o) v n := h.below ((Below.refl _ _).alloc (Nat.le_refl _) _)
theorem limbs_of_rlimbs {n k : Nat} (h : (rlimbs n).length ≤ k) : (limbs n).length ≤ k := by
  have h1 := lt_pow_rlimbs n
  refine limbs_length_le (Nat.lt_of_lt_of_le h1 ?_)
  exact Nat.le_trans (Nat.pow_le_pow_left (by decide) _) (Nat.pow_le_pow_right (by decide) h)
/-- No number. -/
def NotI (c : Value) : Prop := ∀ k n, c ≠ .int k n
/-- All cells that hold integers hold them still. -/
structure KeepI (W W' : World) : Prop where
  size : W.heap.size ≤ W'.heap.size
  cell : ∀ k p n, W.cell? p = some (.int k n) → W'.cell? p = some (.int k n)
theorem KeepI.trans {A C D : World} (h : KeepI A C) (h' : KeepI C D) : KeepI A D := ⟨Nat.le_trans h.size h'.size, fun k p n hp => h'.cell k p n (h.cell k p n hp)⟩
theorem KeepI.below {A C : World} (h : Below A.heap.size A C) : KeepI A C := ⟨h.size, fun k p n hp => (h.cell (p := p) (World.block_lt_of_cell? A p hp)).trans hp⟩
theorem Cells.keepI {k : IntKind} {w w' : World} {ao : Option Addr} {xs : List Nat} (h : Cells k w ao xs) (hk : KeepI w w') : Cells k w' ao xs := by
  rcases h with h | ⟨b, off, h1, h2, h3⟩
  · exact .inl h
  · exact .inr ⟨b, off, h1, Nat.lt_of_lt_of_le h2 hk.size, fun i hi => hk.cell _ _ _ (h3 i hi)⟩
theorem RIs.keepI {w w' : World} {v : Value} {n : Nat} (h : RIs w v n) (hk : KeepI w w') : RIs w' v n := by
  obtain ⟨ao, cap, h1, h2, h3, h4, h5⟩ := h
  exact ⟨ao, cap, h1, h2, h3, h4, h5.keepI hk⟩
theorem NatIs.keepI {w w' : World} {v : Value} {n : Nat} (h : NatIs w v n) (hk : KeepI w w') : NatIs w' v n := by
  obtain ⟨sv, h0, ao, cap, h1, h2, h3, h4, h5⟩ := h
  exact ⟨sv, h0, ao, cap, h1, h2, h3, h4, h5.keepI hk⟩
theorem KeepI.grown {W w1 : World} {v : Value} (hg : W.grownBy w1 v.ownBlock) (ha : RowAll NotI W v) : KeepI W w1 := by
  refine ⟨hg.size, fun k p n hp => ?_⟩
  refine hg.cell hp ?_
  intro e
  obtain ⟨blk, off, spot⟩ := p
  have : spot = none := by
    unfold World.cell? at hp
    split at hp
    · cases spot with
      | none => rfl
      | some x => simp at hp
    · cases hp
  subst this
  exact ha blk e.symm off _ hp k n rfl
/-- Cells that read, each, as one of these numbers. -/
def ListAt (R : World → Value → Nat → Prop) (W : World) (svs : List Value) (ns : List Nat) : Prop := svs.length = ns.length ∧ ∀ (i : Nat) (sv : Value), svs[i]? = some sv → R W sv (ns[i]?.getD 0)
theorem ListAt.nil (R : World → Value → Nat → Prop) (W : World) : ListAt R W [] [] := ⟨rfl, fun i sv h => by simp at h⟩
theorem ListAt.keep {R : World → Value → Nat → Prop} {W W' : World} {svs : List Value} {ns : List Nat} (h : ListAt R W svs ns) (hk : ∀ v n, R W v n → R W' v n) : ListAt R W' svs ns :=
  ⟨h.1, fun i sv hi => hk _ _ (h.2 i sv hi)⟩
theorem ListAt.snoc {R : World → Value → Nat → Prop} {W : World} {svs : List Value} {ns : List Nat} {sv : Value} {n : Nat} (h : ListAt R W svs ns) (hn : R W sv n) : ListAt R W (svs ++ [sv]) (ns ++ [n]) := by
  refine ⟨by simp [h.1], fun i u hi => ?_⟩
  by_cases hlt : i < svs.length
  · rw [List.getElem?_append_left hlt] at hi
    rw [List.getElem?_append_left (by rw [← h.1]; exact hlt)]
    exact h.2 i u hi
  · have hie : i = svs.length := by
      have := (List.getElem?_eq_some_iff.1 hi).1
      simp at this; omega
    subst hie
    simp at hi
    subst hi
    rw [h.1]; simpa using hn
/-- A number in a cell of a row of numbers. -/
def NatC (W : World) (sv : Value) (n : Nat) : Prop := NatIs W (.agg #[sv]) n
/-- append(a, x), and where the row lies. -/
theorem append1At {P : Program} {t e : TypeId} {z : Value} {bytes : Nat} (E : Elem P t e z bytes) {w : World} {ops : Array Oper} {rest : List Oper} {o : Oper} {a : Act} {Q : Exit → Act → World → Prop} {s x : Operand} {u : Value} {base : Nat} {v : Value} {xs : List Value}
    (hown : Owns base e w v xs) (hra : RowAll NotI w v) (hu : NotI u) (hz : ∀ c ∈ z.cells, NotI c) (hgd : o.guard = none) (ho : o.op = .call { callee := .builtin .append, args := #[s, x], argTypes := #[t, t] }) (hs : a.eval s = v)
    (hx : a.eval x = .slice (some ⟨w.heap.size, 0, none⟩) 1 1) (h1 : u.oneCell' = true) (hl : (xs.length + 1) * bytes ≤ 140737488355328) (hm : xs.length + 1 ≤ maxLen) (hbase : base ≤ w.heap.size)
    (h : ∀ v' w', Owns base e w' v' (xs ++ [u]) → Below base w w' → w.grownBy w' v.ownBlock → (∀ g, v'.ownBlock = some g → v.ownBlock = some g ∨ w.heap.size ≤ g) → RowAll NotI w' v' → wpList P ops Q rest (a.put o.dst v') w') : wpList P ops Q (o :: rest) a (w.alloc (.cells #[u] e)) := by
  have hra' : RowAll NotI (w.alloc (.cells #[u] e)) v := by
    intro g hg j c hc
    have hlt := World.ownsRow.lt hown g hg
    rw [World.cell?_alloc_past _ _ _ hlt.2] at hc
    exact hra g hg j c hc
  obtain ⟨v', w', hrun, r1, r2, r3, r4⟩ := run_append1 (P := P) E o.type (w := w.alloc (.cells #[u] e)) (hown.alloc _) ⟨w.heap.size, 0, none⟩ 1 u (by go_simp) h1 hl hm (by simp; omega)
  refine wpList_plain hgd fun K hK => ?_
  unfold Oper.wp
  simp [execOp, ho, resolve, invoke, builtin, hs, hx, hrun, Result.andThen]
  have hg : w.grownBy w' v.ownBlock := ⟨r2.os, r2.tape, r2.output, Nat.le_trans (by simp) r2.size, fun k hk hne => (r2.block k (by simp; omega) hne).trans (Below.heap_alloc _ _ _ hk)⟩
  refine hK _ _ (h v' w' r1 ⟨hg.os, hg.tape, hg.output, hg.size, fun k hk => hg.block k (by omega) (fun e' => ?_)⟩ hg ?_ (r4 NotI hra' hu hz))
  · have := World.ownsRow.lt hown k e'.symm
    have h3 := hown.at_cells k e'.symm
    omega
  · intro g hg'
    rcases r3 g hg' with h4 | h4
    · exact .inl h4
    · exact .inr (by simp at h4; omega)
theorem notI_slice {ao : Option Addr} {l c : Nat} : NotI (.slice ao l c) := fun k n e => by cases e
/-- A list of strings in memory. -/
def Strs (w : World) (v : Value) (ls : List (List UInt8)) : Prop :=
  ∃ ao cap, v = .slice ao ls.length cap ∧ ls.length ≤ cap ∧ cap ≤ maxLen ∧ (ls = [] ∨ ∃ b off, ao = some ⟨b, off, none⟩ ∧ b < w.heap.size ∧ ∀ i, i < ls.length → w.cell? ⟨b, off + i, none⟩ = some (.string ⟨(ls[i]?.getD []).toArray⟩))
theorem Strs.below {w w' : World} {v : Value} {ls : List (List UInt8)} (h : Strs w v ls) (hb : Below w.heap.size w w') : Strs w' v ls := by
  obtain ⟨ao, cap, h1, h2, h3, h4⟩ := h
  refine ⟨ao, cap, h1, h2, h3, ?_⟩
  rcases h4 with h4 | ⟨b, off, h5, h6, h7⟩
  · exact .inl h4
  · exact .inr ⟨b, off, h5, Nat.lt_of_lt_of_le h6 hb.size, fun i hi => (hb.cell (p := ⟨b, off + i, none⟩) h6).trans (h7 i hi)⟩
theorem RowAll.grown {p : Value → Prop} {base : Nat} {e : TypeId} {W W' : World} {v u : Value} {xs : List Value} (h : RowAll p W v) (hO : Owns base e W v xs) (hg : W.grownBy W' u.ownBlock) (hne : ∀ g, v.ownBlock = some g → u.ownBlock ≠ some g) : RowAll p W' v :=
  h.block fun g hg' => hg.block g (hO.at_cells g hg').2.1 (fun e => hne g hg' e.symm)
theorem Owns.grownOther {base : Nat} {e : TypeId} {w w' : World} {v u : Value} {xs : List Value} (h : Owns base e w v xs) (hg : w.grownBy w' u.ownBlock) (hne : ∀ g, v.ownBlock = some g → u.ownBlock ≠ some g) : Owns base e w' v xs :=
  h.of_block fun g hg' => hg.block g (h.at_cells g hg').2.1 (fun e => hne g hg' e.symm)
theorem rdnum_limbs {l : List UInt8} {K : Nat} (hd : l.all isDig = true) (h : l.length ≤ K) : (rlimbs (dnum l)).length ≤ K := by
  refine rlimbs_length_le ?_
  exact Nat.lt_of_lt_of_le (dnum_lt l hd) (Nat.le_trans (Nat.pow_le_pow_left (by decide) _) (Nat.pow_le_pow_right (by decide) h))
theorem rpval_limbs (l : List UInt8) : (rlimbs (pval l)).length ≤ 1200 := by
  unfold pval
  split
  · rename_i hok
    split
    · rw [rlimbs_zero]; simp
    · rename_i hl
      simp only [numOk, Bool.and_eq_true] at hok
      exact rdnum_limbs hok.1 (by omega)
  · rw [rlimbs_zero]; simp
end Go.Proofs.YtieffhkfefimeaaGreatDoor
