/-
  The laws' own functions (3): same, nats.
-/
import Derived.Test.YtegneoaoodddoaaDoorRefN
import Derived.Test.YtegneoaoodddoaaDoorNatN4
import Derived.Test.YtegneoaoodddoaaDoorLawD
namespace Go.Proofs.YtegneoaoodddoaaDoor
open Go.RowKit
set_option linter.unusedVariables false
set_option linter.unusedSimpArgs false
attribute [local go_sem] field_nat

theorem limbs_of_rlimbs {n k : Nat} (h : (rlimbs n).length ≤ k) : (limbs n).length ≤ k := by
  have h1 := lt_pow_rlimbs n
  refine limbs_length_le (Nat.lt_of_lt_of_le h1 ?_)
  exact Nat.le_trans (Nat.pow_le_pow_left (by decide) _) (Nat.pow_le_pow_right (by decide) h)

set_option maxRecDepth 100000 in
/-- same: one number in both forms. -/
theorem same_any (va vb : Value) (n : Nat) (w : World) (ha : NatIs w va n) (hb : RIs w vb n) (hl : (rlimbs n).length ≤ 100000) :
    Calls Tryd.prog 20 #[va, vb] w fun e w' => e = .returned (.bool true) ∧ Below w.heap.size w w' := by
  have hla := limbs_of_rlimbs hl
  obtain ⟨sv, rfl, ⟨ao, al, ac, rfl⟩, hbx, hb3, na⟩ := box_nat ha
  obtain ⟨w3, hw3⟩ : ∃ w3, w3 = w.alloc (.cells #[Value.slice ao al ac] 25) := ⟨_, rfl⟩
  rw [← hw3] at hbx hb3 na
  have HW := Lib.hid hw3; clear hw3 ha
  obtain ⟨T, hT⟩ : ∃ T, T = str (dec n) := ⟨_, rfl⟩
  have HT := Lib.hid hT.symm; clear hT
  have e1 := hbx.cell
  go_enter Tryd.func20, Tryd.ntmps20
  go_upto_region 1 with fail
  rw [← HW.out]
  go_wp2_with fail
  refine (text_any _ n w3 na hla).mono ?_
  rintro e w4 ⟨rfl, hb4⟩
  rw [HT.out]
  have hb34 := hb3.trans (hb4.mono hb3.size)
  clear e1
  go_wp2_with fail
  refine (rtext_any _ n w4 (hb.below hb34) hl).mono ?_
  rintro e w5 ⟨rfl, hb5⟩
  rw [HT.out]
  go_wp2
  go_ret
  exact ⟨rfl, hb34.trans (hb5.mono hb34.size)⟩

/-- No number. -/
def NotI (c : Value) : Prop := ∀ k n, c ≠ .int k n
/-- All cells that hold integers hold them still. -/
structure KeepI (W W' : World) : Prop where
  size : W.heap.size ≤ W'.heap.size
  cell : ∀ k p n, W.cell? p = some (.int k n) → W'.cell? p = some (.int k n)
theorem KeepI.trans {A C D : World} (h : KeepI A C) (h' : KeepI C D) : KeepI A D := ⟨Nat.le_trans h.size h'.size, fun k p n hp => h'.cell k p n (h.cell k p n hp)⟩
theorem KeepI.below {A C : World} (h : Below A.heap.size A C) : KeepI A C := ⟨h.size, fun k p n hp => (h.cell (p := p) (World.block_lt_of_cell? A p hp)).trans hp⟩
theorem Cells.keepI {k : IntKind} {w w' : World} {ao : Option Addr} {xs : List Nat} (h : Cells k w ao xs) (hk : KeepI w w') : Cells k w' ao xs := by
  rcases h with h | ⟨b, off, h1, h2, h3⟩
  · exact .inl h
  · exact .inr ⟨b, off, h1, Nat.lt_of_lt_of_le h2 hk.size, fun i hi => hk.cell _ _ _ (h3 i hi)⟩
theorem RIs.keepI {w w' : World} {v : Value} {n : Nat} (h : RIs w v n) (hk : KeepI w w') : RIs w' v n := by
  obtain ⟨ao, cap, h1, h2, h3, h4, h5⟩ := h
  exact ⟨ao, cap, h1, h2, h3, h4, h5.keepI hk⟩
theorem NatIs.keepI {w w' : World} {v : Value} {n : Nat} (h : NatIs w v n) (hk : KeepI w w') : NatIs w' v n := by
  obtain ⟨sv, h0, ao, cap, h1, h2, h3, h4, h5⟩ := h
  exact ⟨sv, h0, ao, cap, h1, h2, h3, h4, h5.keepI hk⟩
theorem KeepI.grown {W w1 : World} {v : Value} (hg : W.grownBy w1 v.ownBlock) (ha : RowAll NotI W v) : KeepI W w1 := by
  refine ⟨hg.size, fun k p n hp => ?_⟩
  refine hg.cell hp ?_
  intro e
  obtain ⟨blk, off, spot⟩ := p
  have : spot = none := by
    unfold World.cell? at hp
    split at hp
    · cases spot with
      | none => rfl
      | some x => simp at hp
    · cases hp
  subst this
  exact ha blk e.symm off _ hp k n rfl

/-- Cells that read, each, as one of these numbers. -/
def ListAt (R : World → Value → Nat → Prop) (W : World) (svs : List Value) (ns : List Nat) : Prop := svs.length = ns.length ∧ ∀ (i : Nat) (sv : Value), svs[i]? = some sv → R W sv (ns[i]?.getD 0)
theorem ListAt.nil (R : World → Value → Nat → Prop) (W : World) : ListAt R W [] [] := ⟨rfl, fun i sv h => by simp at h⟩
theorem ListAt.keep {R : World → Value → Nat → Prop} {W W' : World} {svs : List Value} {ns : List Nat} (h : ListAt R W svs ns) (hk : ∀ v n, R W v n → R W' v n) : ListAt R W' svs ns :=
  ⟨h.1, fun i sv hi => hk _ _ (h.2 i sv hi)⟩
theorem ListAt.snoc {R : World → Value → Nat → Prop} {W : World} {svs : List Value} {ns : List Nat} {sv : Value} {n : Nat} (h : ListAt R W svs ns) (hn : R W sv n) : ListAt R W (svs ++ [sv]) (ns ++ [n]) := by
  refine ⟨by simp [h.1], fun i u hi => ?_⟩
  by_cases hlt : i < svs.length
  · rw [List.getElem?_append_left hlt] at hi
    rw [List.getElem?_append_left (by rw [← h.1]; exact hlt)]
    exact h.2 i u hi
  · have hie : i = svs.length := by
      have := (List.getElem?_eq_some_iff.1 hi).1
      simp at this; omega
    subst hie
    simp at hi
    subst hi
    rw [h.1]; simpa using hn
/-- A number in a cell of a row of numbers. -/
def NatC (W : World) (sv : Value) (n : Nat) : Prop := NatIs W (.agg #[sv]) n

/-- append(a, x), and where the row lies. -/
theorem append1At {P : Program} {t e : TypeId} {z : Value} {bytes : Nat} (E : Elem P t e z bytes) {w : World} {ops : Array Oper} {rest : List Oper} {o : Oper} {a : Act} {Q : Exit → Act → World → Prop} {s x : Operand} {u : Value} {base : Nat} {v : Value} {xs : List Value}
    (hown : Owns base e w v xs) (hra : RowAll NotI w v) (hu : NotI u) (hz : ∀ c ∈ z.cells, NotI c) (hgd : o.guard = none) (ho : o.op = .call { callee := .builtin .append, args := #[s, x], argTypes := #[t, t] }) (hs : a.eval s = v)
    (hx : a.eval x = .slice (some ⟨w.heap.size, 0, none⟩) 1 1) (h1 : u.oneCell' = true) (hl : (xs.length + 1) * bytes ≤ 140737488355328) (hm : xs.length + 1 ≤ maxLen) (hbase : base ≤ w.heap.size)
    (h : ∀ v' w', Owns base e w' v' (xs ++ [u]) → Below base w w' → w.grownBy w' v.ownBlock → (∀ g, v'.ownBlock = some g → v.ownBlock = some g ∨ w.heap.size ≤ g) → RowAll NotI w' v' → wpList P ops Q rest (a.put o.dst v') w') : wpList P ops Q (o :: rest) a (w.alloc (.cells #[u] e)) := by
  have hra' : RowAll NotI (w.alloc (.cells #[u] e)) v := by
    intro g hg j c hc
    have hlt := World.ownsRow.lt hown g hg
    rw [World.cell?_alloc_past _ _ _ hlt.2] at hc
    exact hra g hg j c hc
  obtain ⟨v', w', hrun, r1, r2, r3, r4⟩ := run_append1 (P := P) E o.type (w := w.alloc (.cells #[u] e)) (hown.alloc _) ⟨w.heap.size, 0, none⟩ 1 u (by go_simp) h1 hl hm (by simp; omega)
  refine wpList_plain hgd fun K hK => ?_
  unfold Oper.wp
  simp [execOp, ho, resolve, invoke, builtin, hs, hx, hrun, Result.andThen]
  have hg : w.grownBy w' v.ownBlock := ⟨r2.os, r2.tape, r2.output, Nat.le_trans (by simp) r2.size, fun k hk hne => (r2.block k (by simp; omega) hne).trans (Below.heap_alloc _ _ _ hk)⟩
  refine hK _ _ (h v' w' r1 ⟨hg.os, hg.tape, hg.output, hg.size, fun k hk => hg.block k (by omega) (fun e' => ?_)⟩ hg ?_ (r4 NotI hra' hu hz))
  · have := World.ownsRow.lt hown k e'.symm
    have h3 := hown.at_cells k e'.symm
    omega
  · intro g hg'
    rcases r3 g hg' with h4 | h4
    · exact .inl h4
    · exact .inr (by simp at h4; omega)

theorem Tryd.info43 : (Tryd.prog.info? 43).map (fun i => (i.zero, i.size, i.bytes)) = some (some (.slice none 0 0), 1, 24) := by kernel_rfl
theorem ERs : Elem Tryd.prog 39 43 (.slice none 0 0) 24 := elem_of Tryd.underlying39 Tryd.info43 rfl
theorem notI_slice {ao : Option Addr} {l c : Nat} : NotI (.slice ao l c) := fun k n e => by cases e

theorem zNat : ∀ c ∈ (Value.agg #[.slice none 0 0]).cells, NotI c := by
  intro c hc
  have : c = .slice none 0 0 := by simpa [Value.cells] using hc
  rw [this]; exact notI_slice
theorem zRef : ∀ c ∈ (Value.slice none 0 0).cells, NotI c := by
  intro c hc
  have : c = .slice none 0 0 := by simpa [Value.cells] using hc
  rw [this]; exact notI_slice
/-- A list of strings in memory. -/
def Strs (w : World) (v : Value) (ls : List (List UInt8)) : Prop :=
  ∃ ao cap, v = .slice ao ls.length cap ∧ ls.length ≤ cap ∧ cap ≤ maxLen ∧ (ls = [] ∨ ∃ b off, ao = some ⟨b, off, none⟩ ∧ b < w.heap.size ∧ ∀ i, i < ls.length → w.cell? ⟨b, off + i, none⟩ = some (.string ⟨(ls[i]?.getD []).toArray⟩))
theorem Strs.below {w w' : World} {v : Value} {ls : List (List UInt8)} (h : Strs w v ls) (hb : Below w.heap.size w w') : Strs w' v ls := by
  obtain ⟨ao, cap, h1, h2, h3, h4⟩ := h
  refine ⟨ao, cap, h1, h2, h3, ?_⟩
  rcases h4 with h4 | ⟨b, off, h5, h6, h7⟩
  · exact .inl h4
  · exact .inr ⟨b, off, h5, Nat.lt_of_lt_of_le h6 hb.size, fun i hi => (hb.cell (p := ⟨b, off + i, none⟩) h6).trans (h7 i hi)⟩

/-- Rows of numbers in both forms. -/
structure Rows2 (base : Nat) (W : World) (va vb : Value) (ns : List Nat) : Prop where
  a : ∃ svs, Owns base 25 W va svs ∧ ListAt NatC W svs ns
  b : ∃ svs, Owns base 43 W vb svs ∧ ListAt RIs W svs ns
  ra : RowAll NotI W va
  rb : RowAll NotI W vb
  apart : ∀ g, va.ownBlock = some g → vb.ownBlock ≠ some g
theorem Rows2.nil (base : Nat) (W : World) : Rows2 base W (.slice none 0 0) (.slice none 0 0) [] :=
  ⟨⟨[], Owns.nil _ _ _, ListAt.nil _ _⟩, ⟨[], Owns.nil _ _ _, ListAt.nil _ _⟩, fun g h => by simp [Value.ownBlock] at h, fun g h => by simp [Value.ownBlock] at h, fun g h => by simp [Value.ownBlock] at h⟩
theorem Rows2.below {base : Nat} {W W' : World} {va vb : Value} {ns : List Nat} (h : Rows2 base W va vb ns) (hb : Below W.heap.size W W') : Rows2 base W' va vb ns := by
  obtain ⟨sa, h1, h2⟩ := h.a
  obtain ⟨sb, h3, h4⟩ := h.b
  exact ⟨⟨sa, h1.kept hb, h2.keep fun v n hn => NatIs.below hn hb⟩, ⟨sb, h3.kept hb, h4.keep fun v n hn => hn.below hb⟩, h.ra.below hb h1, h.rb.below hb h3, h.apart⟩

theorem RowAll.grown {p : Value → Prop} {base : Nat} {e : TypeId} {W W' : World} {v u : Value} {xs : List Value} (h : RowAll p W v) (hO : Owns base e W v xs) (hg : W.grownBy W' u.ownBlock) (hne : ∀ g, v.ownBlock = some g → u.ownBlock ≠ some g) : RowAll p W' v :=
  h.block fun g hg' => hg.block g (hO.at_cells g hg').2.1 (fun e => hne g hg' e.symm)
theorem Owns.grownOther {base : Nat} {e : TypeId} {w w' : World} {v u : Value} {xs : List Value} (h : Owns base e w v xs) (hg : w.grownBy w' u.ownBlock) (hne : ∀ g, v.ownBlock = some g → u.ownBlock ≠ some g) : Owns base e w' v xs :=
  h.of_block fun g hg' => hg.block g (h.at_cells g hg').2.1 (fun e => hne g hg' e.symm)

theorem rdnum_limbs {l : List UInt8} {K : Nat} (hd : l.all isDig = true) (h : l.length ≤ K) : (rlimbs (dnum l)).length ≤ K := by
  refine rlimbs_length_le ?_
  exact Nat.lt_of_lt_of_le (dnum_lt l hd) (Nat.le_trans (Nat.pow_le_pow_left (by decide) _) (Nat.pow_le_pow_right (by decide) h))
theorem rpval_limbs (l : List UInt8) : (rlimbs (pval l)).length ≤ 1200 := by
  unfold pval
  split
  · rename_i hok
    split
    · rw [rlimbs_zero]; simp
    · rename_i hl
      simp only [numOk, Bool.and_eq_true] at hok
      exact rdnum_limbs hok.1 (by omega)
  · rw [rlimbs_zero]; simp

theorem Rows2.push {base : Nat} {W W7 W8 : World} {va vb v7 v8 x y : Value} {sa sb : List Value} {ns : List Nat} {n : Nat}
    (oa : Owns base 25 W va sa) (la : ListAt NatC W sa ns) (ob : Owns base 43 W vb sb) (lb : ListAt RIs W sb ns) (hra : RowAll NotI W va) (hrb : RowAll NotI W vb) (hap : ∀ g, va.ownBlock = some g → vb.ownBlock ≠ some g)
    (na : NatIs W (.agg #[x]) n) (ny : RIs W y n) (o7 : Owns base 25 W7 v7 (sa ++ [x])) (g7 : W.grownBy W7 va.ownBlock) (wh7 : ∀ g, v7.ownBlock = some g → va.ownBlock = some g ∨ W.heap.size ≤ g) (r7 : RowAll NotI W7 v7)
    (o8 : Owns base 43 W8 v8 (sb ++ [y])) (g8 : W7.grownBy W8 vb.ownBlock) (wh8 : ∀ g, v8.ownBlock = some g → vb.ownBlock = some g ∨ W7.heap.size ≤ g) (r8 : RowAll NotI W8 v8) : Rows2 base W8 v7 v8 (ns ++ [n]) := by
  have hba : ∀ g, vb.ownBlock = some g → va.ownBlock ≠ some g := fun g h1 h2 => hap g h2 h1
  have rb7 : RowAll NotI W7 vb := hrb.grown ob g7 hba
  have k1 : KeepI W W7 := KeepI.grown g7 hra
  have k2 : KeepI W7 W8 := KeepI.grown g8 rb7
  have k := k1.trans k2
  have h7b : ∀ g, v7.ownBlock = some g → vb.ownBlock ≠ some g := fun g h1 h2 => by
    rcases wh7 g h1 with h3 | h3
    · exact hap g h3 h2
    · have := (ob.at_cells g h2).2.1; omega
  refine ⟨⟨_, o7.grownOther g8 h7b, (la.keep fun v m hm => NatIs.keepI hm k).snoc (NatIs.keepI na k)⟩, ⟨_, o8, (lb.keep fun v m hm => hm.keepI k).snoc (ny.keepI k)⟩, r7.grown o7 g8 h7b, r8, fun g h1 h2 => ?_⟩
  rcases wh8 g h2 with h3 | h3
  · exact h7b g h1 h3
  · have := (o7.at_cells g h1).2.1; omega

set_option maxRecDepth 100000 in
set_option maxHeartbeats 2000000 in
theorem nats_any (sv : Value) (ls : List (List UInt8)) (w : World) (hs : Strs w sv ls) (hlen : ls.length ≤ 100000) (hl : ∀ l ∈ ls, l.length ≤ 100000) :
    Calls Tryd.prog 18 #[sv] w fun e w' => ∃ va vb, e = .returned (.tuple #[va, vb, .bool true]) ∧ Rows2 w.heap.size w' va vb (ls.map pval) ∧ Below w.heap.size w w' := by
  obtain ⟨so, sc, rfl, hs1, hs2, hs3⟩ := hs
  unfold maxLen at hs2
  go_enter Tryd.func18, Tryd.ntmps18
  go_wp2_with fail
  go_loopg [5, 6, 7] ls.length (fun gg av bv iv wr => ∃ (i : Nat), i + gg = ls.length ∧ iv = .int .i64 (i : Int) ∧ Rows2 w.heap.size wr av bv ((ls.take i).map pval) ∧ Below w.heap.size w wr)
  case atStart => exact ⟨0, by omega, rfl, Rows2.nil _ _, Below.refl _ _⟩
  case round =>
    obtain ⟨i, hi, rfl, hrows, hbr⟩ := hrel
    by_cases hil : i < ls.length
    · rcases hs3 with h | ⟨b, off, rfl, hb, hc⟩
      · rw [h] at hil; simp at hil
      have cs := (hbr.cell (p := ⟨b, off + i, none⟩) hb).trans (hc i hil)
      have hll : (ls[i]?.getD []).length ≤ 100000 := by
        rw [List.getElem?_eq_getElem hil]; exact hl _ (List.getElem_mem hil)
      have htk : (ls.take (i + 1)).map pval = (ls.take i).map pval ++ [pval (ls[i]?.getD [])] := by
        rw [List.take_add_one, List.map_append, List.getElem?_eq_getElem hil]; rfl
      have HTK := Lib.hid htk
      have HC := Lib.hid hc
      obtain ⟨l, hle⟩ : ∃ l, l = ls[i]?.getD [] := ⟨_, rfl⟩
      rw [← hle] at cs hll
      have HLE := Lib.hid hle
      have q1 : (0 : Int) ≤ (i : Int) := by omega
      have q2 : (i : Int) < (ls.length : Int) := by omega
      clear htk hc hle
      go_wp2_with fail
      refine (parse_any l wr (by omega)).mono ?_
      rintro e w2 ⟨rv, rfl, hn2, hb2⟩
      obtain ⟨sv, rfl, ⟨ao, al, ac, rfl⟩, hbx, hb3, na⟩ := box_nat hn2
      obtain ⟨w3, hw3⟩ : ∃ w3, w3 = w2.alloc (.cells #[Value.slice ao al ac] 25) := ⟨_, rfl⟩
      rw [← hw3] at hbx hb3 na
      have hb23 := hb2.trans (hb3.mono hb2.size)
      obtain ⟨pa, hpa⟩ : ∃ p, p = w2.heap.size := ⟨_, rfl⟩
      have cs3 := (hb23.cell (p := ⟨b, off + i, none⟩) (Nat.lt_of_lt_of_le hb hbr.size)).trans cs
      have HW := Lib.hid hw3; clear hw3 hn2
      go_upto_region 7 with fail
      rw [← HW.out]
      rw [← hpa] at hbx ⊢
      clear hpa cs
      go_wp2_with fail
      refine (rparse_any l w3 (by omega)).mono ?_
      rintro e w4 ⟨yv, rfl, ny, hb4⟩
      obtain ⟨yo, yc, rfl, _, _, _, _⟩ := ny.open
      have hb24 := hb23.trans (hb4.mono hb23.size)
      replace hbx := hbx.kept hb4
      replace na := na.below hb4
      have hlA : (rlimbs (pval l)).length ≤ 100000 := Nat.le_trans (rpval_limbs l) (by omega)
      obtain ⟨N, hN⟩ : ∃ N, N = pval l := ⟨_, rfl⟩
      rw [← hN] at na ny hlA ⊢
      have HN := Lib.hid hN
      obtain ⟨T, hT⟩ : ∃ T, T = str (dec N) := ⟨_, rfl⟩
      have HT := Lib.hid hT.symm
      obtain ⟨c, hcc⟩ : ∃ c, c = pcode l := ⟨_, rfl⟩
      rw [← hcc]
      have hcn : (c != c) = false := by simp
      clear hN hT hcc cs3
      have e1 := hbx.cell
      have hlA2 := limbs_of_rlimbs hlA
      have HLA := Lib.hid hlA
      go_wp2_with fail
      refine (text_any _ N w4 na hlA2).mono ?_
      rintro e w5 ⟨rfl, hb5⟩
      rw [HT.out]
      replace hbx := hbx.kept hb5
      replace na := na.below hb5
      replace ny := ny.below hb5
      have hb25 := hb24.trans (hb5.mono hb24.size)
      clear e1
      go_wp2_with fail
      refine (rtext_any _ N w5 ny HLA.out).mono ?_
      rintro e w6 ⟨rfl, hb6⟩
      rw [HT.out]
      replace hbx := hbx.kept hb6
      replace na := na.below hb6
      replace ny := ny.below hb6
      have hb26 := hb25.trans (hb6.mono hb25.size)
      have hrows6 := hrows.below hb26
      have hbr6 := hbr.trans (hb26.mono hbr.size)
      clear hrows hb4 hb5 hb6 hb23 hb24 hb25 hb26 hb2 hb3 hlA
      generalize (rlimbs N).length = yl at *
      have e1 := hbx.cell
      obtain ⟨sa, oa, la⟩ := hrows6.a
      obtain ⟨sb, ob, lb⟩ := hrows6.b
      have hra := hrows6.ra
      have hrb := hrows6.rb
      have hap := hrows6.apart
      have hsl : sa.length = i := by rw [la.1]; simp; omega
      have hsl2 : sb.length = i := by rw [lb.1]; simp; omega
      have hsa : sa.length ≤ 100000 := by omega
      have hsb : sb.length ≤ 100000 := by omega
      have hwb := hbr6.size
      have HAP := Lib.hid hap
      clear hrows6 hsl hsl2 hap
      go_upto_region 10 with fail
      have ob7 := fun W7 g7 => ob.grownOther (w' := W7) (u := u5) g7 (fun g h1 h2 => HAP.out g h2 h1)
      have rb7 := fun W7 g7 => hrb.grown (W' := W7) (u := u5) ob g7 (fun g h1 h2 => HAP.out g h2 h1)
      have OB7 := Lib.hid ob7
      have RB7 := Lib.hid rb7
      clear ob7 rb7
      have tok1 : True := trivial
      go_wp2_with (first
        | (at_builtin; have _t := tok1; refine append1At ENat oa hra notI_slice zNat rfl rfl rfl rfl rfl (by omega) (by unfold maxLen; omega) hwb ?_; intro v7 w7 o7 b7 g7 wh7 r7; clear tok1; have hwb7 : w.heap.size ≤ w7.heap.size := Nat.le_trans hwb g7.size)
        | (at_builtin; refine append1At ERs (OB7.out _ g7) (RB7.out _ g7) notI_slice zRef rfl rfl rfl rfl rfl (by omega) (by unfold maxLen; omega) hwb7 ?_; intro v8 w8 o8 b8 g8 wh8 r8))
      go_roundg (gk - 1)
      case measure => omega
      case rel =>
        refine ⟨i + 1, by omega, by go_num, ?_, (hbr6.trans b7).trans b8⟩
        rw [HTK.out, ← HLE.out, ← HN.out]
        exact Rows2.push oa la ob lb hra hrb HAP.out na ny o7 g7 wh7 r7 o8 g8 wh8 r8
    · have hiq : ls.take i = ls := List.take_of_length_le (by omega)
      rw [hiq] at hrows
      clear hiq
      go_wp2
      go_ret3
      exact ⟨_, _, rfl, hrows, hbr⟩
end Go.Proofs.YtegneoaoodddoaaDoor
