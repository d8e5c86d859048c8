/-
  Pc28: OpenE LawBd BookT ScoreX (what is needed of them).
-/
import Derived.Test.YtieffhkfefimeaaGreatDoorPc06
import Derived.Test.YtieffhkfefimeaaGreatDoorPc07
import Derived.Test.YtieffhkfefimeaaGreatDoorPc08
import Derived.Test.YtieffhkfefimeaaGreatDoorPc21
import Derived.Test.YtieffhkfefimeaaGreatDoorPc23
import Derived.Test.YtieffhkfefimeaaGreatDoorPc26
import Derived.Test.YtieffhkfefimeaaGreatDoorPc27
import Derived.WalkKit
import Derived.ProofKit
import Derived.OpenShut
import Derived.ShutString
import Derived.Carry
import Derived.Deep.Slices
import Derived.Deep.Fields
import Derived.BigQuiet
import Derived.Deep.LoopGhost
set_option maxRecDepth 100000
set_option linter.unusedVariables false
set_option linter.unusedSimpArgs false

namespace Go.Proofs.YtieffhkfefimeaaGreatDoor
open Go.ChangeShapes Go.WideShapes Go.ChangeAt Go.RowKit Go.Deep

theorem laidOutN : laidOutB Tryz.prog = true := by kernel_rfl
theorem hone_at {P : Program} {t : TypeId} {fs : Array Field} (_ : P.underlying t = some (.struct fs)) (h : oneCellFields P fs = true) : ∀ (i : Nat) (f : Field), fs[i]? = some f → f.offset = i ∧ P.cellsOf f.type = 1 := fun i f hi => hone_of h i f hi
theorem struct_of_trod {H : Type} {enc : TypeId × Value → H} {P : Program} {W : World} {r : Reach} {b0 base : Nat} {spare : Nat → Bool} {held : Bool} {t : TypeId} {fs : Array Field} {v : Value} {d : DataW H} {p : List MemPlace} (hs : P.underlying t = some (.struct fs)) (hone : oneCellFields P fs = true) (hC : P.cellsOf t = fs.size)
  (hv : Value.okWide P W r b0 t v) (h : DataW.Trod enc P W base spare held t v d p) :
  ∃ l : List Value, v = .agg l.toArray ∧ l.length = fs.size ∧ ∀ (i : Nat) (f : Field), fs[i]? = some f → ∃ u n y, l[i]? = some u ∧ DataW.trod enc P W base spare held n f.type [u] = some y := by
 obtain ⟨⟨l⟩, rfl, hsz⟩ := okWide_struct hs hv
 obtain ⟨fuel, hf⟩ := h
 obtain ⟨xs, n, _, _, _, hlen, hg⟩ := DataW.trod_struct hs hf
 refine ⟨l, rfl, by rw [← hC, ← hsz]; simp, fun i f hi => ?_⟩
 obtain ⟨ho, hk⟩ := hone_of hone i f hi
 have hil : i < fs.size := (Array.getElem?_eq_some_iff.1 hi).1
 have hll : l.length = fs.size := by rw [← hC, ← hsz]; simp
 have h1 := hg i f hi
 rw [ho, hk] at h1
 have h2 : ((Value.agg ⟨l⟩).cells.toList.drop i).take 1 = [l[i]'(by omega)] := by
  show (l.drop i).take 1 = _
  rw [List.drop_eq_getElem_cons (by omega)]; rfl
 rw [h2] at h1
 exact ⟨_, n, xs[i]'(by omega), List.getElem?_eq_getElem (by omega), by rw [h1]; exact List.getElem?_eq_getElem (by omega)⟩
theorem string_field {H : Type} {enc : TypeId × Value → H} {P : Program} {W : World} {base : Nat} {spare : Nat → Bool} {held : Bool} {n : Nat} {t : TypeId} {u : Value} {y : DataW H × List MemPlace} (ht : P.underlying t = some .string) (h : DataW.trod enc P W base spare held n t [u] = some y) :
  ∃ l : List UInt8, u = .string ⟨l.toArray⟩ ∧ l.length ≤ 9223372036854775807 := by
 obtain ⟨s, hs, _, hm⟩ := DataW.trod_string ht h
 obtain ⟨⟨l⟩⟩ := s
 simp at hs
 refine ⟨l, hs, ?_⟩
 unfold maxLen at hm
 have h9 : (⟨⟨l⟩⟩ : ByteArray).size = l.length := rfl
 omega
theorem u64_nat {n : Int} (h : (Lit.int .u64 n).wf = true) : ∃ m : Nat, n = (m : Int) ∧ m < 18446744073709551616 := by
 simp [Lit.wf] at h
 have h1 : IntKind.u64.min = 0 := rfl
 have h2 : IntKind.u64.max = 18446744073709551615 := rfl
 rw [h1, h2] at h
 exact ⟨n.toNat, by omega, by omega⟩
theorem row_field {α : Type} [Inhabited α] {k : Nat} {enc : α → List Value} {good : α → Prop} (hk0 : 0 < k) (henc : ∀ x, (enc x).length = k) {t el : TypeId} {H : Type} {eh : TypeId × Value → H} {W : World} {u : Value} {n : Nat} {y : DataW H × List MemPlace} (ht : Tryz.prog.underlying t = some (.slice el)) (hc : Tryz.prog.cellsOf el = k)
  (each : ∀ (m : Nat) (cs : List Value) (x : DataW H × List MemPlace), cs.length = k → DataW.trod eh Tryz.prog W 0 (fun _ => true) true m el cs = some x → ∃ z, good z ∧ cs = enc z)
  (hf : DataW.trod eh Tryz.prog W 0 (fun _ => true) true n t [u] = some y) :
  ∃ (ao : Option Addr) (cap : Nat) (xs : List α), u = .slice ao xs.length cap ∧ RowC k enc W ao xs ∧ xs.length ≤ cap ∧ cap ≤ maxLen ∧ (ao = none → cap = 0) ∧ ∀ x ∈ xs, good x := by
 rcases open_slice ht hf with ⟨hcs, _⟩ | ⟨a, len, cap, m, n', D, Pl, hcs, _, hl, hm, hmm, _, hx⟩
 ·injection hcs with h1 _
  subst h1
  exact ⟨none, 0, [], rfl, .inl rfl, Nat.le_refl _, Nat.zero_le _, fun _ => rfl, by simp⟩
 ·injection hcs with h1 _
  subst h1
  rw [hc] at hx
  have hmm2 : len ≤ m := by rw [hmm]; simp only [if_true]; exact hl
  have each2 : ∀ i, i < len → ∃ z : α, good z ∧ ∀ j c, (enc z)[j]? = some c → W.cell? (a.add (i * k + j)) = some c := by
   intro i hi
   obtain ⟨cs', h1, h2⟩ := hx i (by omega)
   obtain ⟨_, hlen, hcell⟩ := World.cells?_some h1
   obtain ⟨z, hg, rfl⟩ := each _ _ _ hlen h2
   refine ⟨z, hg, fun j c hj => ?_⟩
   have hjk : j < k := by rw [← henc z]; exact (List.getElem?_eq_some_iff.1 hj).1
   have e := hcell j (by omega)
   rw [add_add] at e
   rw [e]
   exact hj
  obtain ⟨V, hV⟩ := choose_lt each2
  have hlV : ((List.range len).map V).length = len := by simp
  refine ⟨some a, cap, (List.range len).map V, by rw [hlV], ?_, by rw [hlV]; exact hl, hm, fun h => (Option.some_ne_none _ h).elim, ?_⟩
  ·rcases Nat.eq_zero_or_pos len with h0 | h0
   ·left; subst h0; rfl
   ·right
    have c0 := (hV 0 h0).2 0 _ (List.getElem?_eq_getElem (by rw [henc]; exact hk0))
    obtain ⟨blk, off, spot⟩ := a
    have hsp : spot = none := by
     unfold World.cell? at c0
     split at c0
     ·cases spot with
      | none => rfl
      | some x => simp [Addr.add] at c0
     ·cases c0
    subst hsp
    rw [Addr.add_lit] at c0
    refine ⟨blk, off, rfl, World.block_lt_of_cell? W ⟨blk, off + (0 * k + 0), none⟩ c0, fun i o hi j c hj => ?_⟩
    have hil : i < len := by
     have := (List.getElem?_eq_some_iff.1 hi).1
     rwa [hlV] at this
    have hv : o = V i := by
     rw [List.getElem?_map, List.getElem?_range hil] at hi
     simpa using hi.symm
    subst hv
    have h9 := (hV i hil).2 j c hj
    rw [Addr.add_lit, ← Nat.add_assoc] at h9
    exact h9
  ·intro o ho
   obtain ⟨i, hi, rfl⟩ := List.mem_map.1 ho
   exact (hV i (List.mem_range.1 hi)).1
theorem Cells.of_row {w : World} {ao : Option Addr} {xs : List Nat} (h : RowC 1 (fun n : Nat => [.int .u64 (n : Int)]) w ao xs) : Cells .u64 w ao xs := by
 rcases h with h | ⟨b, off, h1, h2, h3⟩
 ·exact .inl h
 ·refine .inr ⟨b, off, h1, h2, fun i hi => ?_⟩
  have h4 := h3 i _ (List.getElem?_eq_getElem hi) 0 _ rfl
  rw [List.getElem?_eq_getElem hi]
  rw [Nat.mul_one, Nat.add_zero] at h4
  exact h4
instance : Inhabited EN := ⟨⟨0, 0, 0, 0, 0, 0, 0, false⟩⟩
instance : Inhabited EL := ⟨⟨0, 0, 0, 0⟩⟩
theorem en_of_trod {H : Type} {eh : TypeId × Value → H} {W : World} (m : Nat) (cs : List Value) (x : DataW H × List MemPlace) (hlen : cs.length = 8) (h2 : DataW.trod eh Tryz.prog W 0 (fun _ => true) true m 55 cs = some x) : ∃ z, ENW z ∧ cs = enC z := by
 obtain ⟨xs, k, _, hxe, _, hxl, hff⟩ := DataW.trod_struct Tryz.underlying55 h2
 have hone := hone_at Tryz.underlying55 (by kernel_rfl)
 have hxl8 : xs.length = 8 := hxl
 match xs, hxl8, cs, hlen, hff with
 | [y0, y1, y2, y3, y4, y5, y6, y7], _, [v0, v1, v2, v3, v4, v5, v6, v7], _, hff =>
  have g0 := hff 0 _ rfl
  have g1 := hff 1 _ rfl
  have g2 := hff 2 _ rfl
  have g3 := hff 3 _ rfl
  have g4 := hff 4 _ rfl
  have g5 := hff 5 _ rfl
  have g6 := hff 6 _ rfl
  have g7 := hff 7 _ rfl
  have t0 := hone 0 _ rfl
  have t1 := hone 1 _ rfl
  have t2 := hone 2 _ rfl
  have t3 := hone 3 _ rfl
  have t4 := hone 4 _ rfl
  have t5 := hone 5 _ rfl
  have t6 := hone 6 _ rfl
  have t7 := hone 7 _ rfl
  rw [t0.1, t0.2] at g0
  rw [t1.1, t1.2] at g1
  rw [t2.1, t2.2] at g2
  rw [t3.1, t3.2] at g3
  rw [t4.1, t4.2] at g4
  rw [t5.1, t5.2] at g5
  rw [t6.1, t6.2] at g6
  rw [t7.1, t7.2] at g7
  simp at g0 g1 g2 g3 g4 g5 g6 g7
  obtain ⟨c0, hc0, _, hw0⟩ := DataW.trod_int Tryz.underlying3 g0
  obtain ⟨c1, hc1, _, hw1⟩ := DataW.trod_int Tryz.underlying3 g1
  obtain ⟨c2, hc2, _, hw2⟩ := DataW.trod_int Tryz.underlying3 g2
  obtain ⟨c3, hc3, _, hw3⟩ := DataW.trod_int Tryz.underlying3 g3
  obtain ⟨c4, hc4, _, hw4⟩ := DataW.trod_int Tryz.underlying22 g4
  obtain ⟨c5, hc5, _, hw5⟩ := DataW.trod_int Tryz.underlying3 g5
  obtain ⟨c6, hc6, _, hw6⟩ := DataW.trod_int Tryz.underlying3 g6
  obtain ⟨c7, hc7, _⟩ := DataW.trod_bool Tryz.underlying4 g7
  simp at hc0 hc1 hc2 hc3 hc4 hc5 hc6 hc7
  obtain ⟨m4, rfl, hm4⟩ := u64_nat hw4
  subst hc0 hc1 hc2 hc3 hc4 hc5 hc6 hc7
  exact ⟨⟨c0, c1, c2, c3, m4, c5, c6, c7⟩, ⟨hm4, hw0, hw1, hw2, hw3, hw5, hw6⟩, rfl⟩
theorem el_of_trod {H : Type} {eh : TypeId × Value → H} {W : World} (m : Nat) (cs : List Value) (x : DataW H × List MemPlace) (hlen : cs.length = 4) (h2 : DataW.trod eh Tryz.prog W 0 (fun _ => true) true m 95 cs = some x) : ∃ z, ELW z ∧ cs = elC z := by
 obtain ⟨xs, k, _, hxe, _, hxl, hff⟩ := DataW.trod_struct Tryz.underlying95 h2
 have hone := hone_at Tryz.underlying95 (by kernel_rfl)
 have hxl4 : xs.length = 4 := hxl
 match xs, hxl4, cs, hlen, hff with
 | [y0, y1, y2, y3], _, [v0, v1, v2, v3], _, hff =>
  have g0 := hff 0 _ rfl
  have g1 := hff 1 _ rfl
  have g2 := hff 2 _ rfl
  have g3 := hff 3 _ rfl
  have t0 := hone 0 _ rfl
  have t1 := hone 1 _ rfl
  have t2 := hone 2 _ rfl
  have t3 := hone 3 _ rfl
  rw [t0.1, t0.2] at g0
  rw [t1.1, t1.2] at g1
  rw [t2.1, t2.2] at g2
  rw [t3.1, t3.2] at g3
  simp at g0 g1 g2 g3
  obtain ⟨c0, hc0, _, hw0⟩ := DataW.trod_int Tryz.underlying3 g0
  obtain ⟨c1, hc1, _, hw1⟩ := DataW.trod_int Tryz.underlying3 g1
  obtain ⟨c2, hc2, _, hw2⟩ := DataW.trod_int Tryz.underlying3 g2
  obtain ⟨c3, hc3, _, hw3⟩ := DataW.trod_int Tryz.underlying22 g3
  simp at hc0 hc1 hc2 hc3
  obtain ⟨m3, rfl, hm3⟩ := u64_nat hw3
  subst hc0 hc1 hc2 hc3
  exact ⟨⟨c0, c1, c2, m3⟩, ⟨hm3, hw0, hw1, hw2⟩, rfl⟩
def EnsIn (w : World) (v : Value) : Prop := ∃ (e : EE) (bo : Option Addr) (bc : Nat) (no : Option Addr) (nc : Nat) (lo : Option Addr) (lc : Nat), EnsIs w v e bo bc no nc lo lc ∧ (bo = none → bc = 0) ∧ (no = none → nc = 0) ∧ (lo = none → lc = 0) ∧ e.base.length ≤ bc ∧ bc ≤ maxLen ∧ e.nodes.length ≤ nc ∧ nc ≤ maxLen ∧ e.leaves.length ≤ lc ∧ lc ≤ maxLen ∧ IW e.feats ∧ IW e.tgts ∧ e.agg.length ≤ 9223372036854775807 ∧ e.post.length ≤ 9223372036854775807
theorem ens_of_trod {H : Type} {eh : TypeId × Value → H} {W : World} {base : Nat} {v : Value} {d : DataW H} {p : List MemPlace} (hok : Value.okWide Tryz.prog W .any base 33 v) (h : DataW.Trod eh Tryz.prog W 0 (fun _ => true) true 33 v d p) : EnsIn W v := by
 obtain ⟨l, rfl, hl, hf⟩ := struct_of_trod Tryz.underlying33 (by kernel_rfl) (by kernel_rfl) hok h
 have hl7 : l.length = 7 := hl
 match l, hl7 with
 | [c0, c1, c2, c3, c4, c5, c6], _ =>
  obtain ⟨u0, n0, y0, e0, h0⟩ := hf 0 _ rfl
  obtain ⟨u1, n1, y1, e1, h1⟩ := hf 1 _ rfl
  obtain ⟨u2, n2, y2, e2, h2⟩ := hf 2 _ rfl
  obtain ⟨u3, n3, y3, e3, h3⟩ := hf 3 _ rfl
  obtain ⟨u4, n4, y4, e4, h4⟩ := hf 4 _ rfl
  obtain ⟨u5, n5, y5, e5, h5⟩ := hf 5 _ rfl
  obtain ⟨u6, n6, y6, e6, h6⟩ := hf 6 _ rfl
  simp at e0 e1 e2 e3 e4 e5 e6
  subst e0 e1 e2 e3 e4 e5 e6
  obtain ⟨a0, hc0, _, w0⟩ := DataW.trod_int Tryz.underlying3 h0
  obtain ⟨a1, hc1, _, w1⟩ := DataW.trod_int Tryz.underlying3 h1
  simp at hc0 hc1
  subst hc0 hc1
  obtain ⟨l2, rfl, m2⟩ := string_field Tryz.underlying9 h2
  obtain ⟨l3, rfl, m3⟩ := string_field Tryz.underlying9 h3
  obtain ⟨bo, bc, bs, rfl, hbr, hbl, hbm, hbz, hbg⟩ := row_field (α := Nat) (k := 1) (enc := fun n : Nat => [.int .u64 (n : Int)]) (good := fun n => n < 18446744073709551616) (by decide) (fun _ => rfl) Tryz.underlying29 (by kernel_rfl) (fun m cs x hcs hx => by
   obtain ⟨c, hc, _, hw⟩ := DataW.trod_int Tryz.underlying22 hx
   obtain ⟨z, rfl, hz⟩ := u64_nat hw
   exact ⟨z, hz, hc⟩) h4
  obtain ⟨no, nc, ns, rfl, hnr, hnl, hnm, hnz, hng⟩ := row_field (k := 8) (enc := enC) (good := ENW) (by decide) enC_len Tryz.underlying30 (by kernel_rfl) en_of_trod h5
  obtain ⟨lo, lc, ls, rfl, hlr, hll, hlm, hlz, hlg⟩ := row_field (k := 4) (enc := elC) (good := ELW) (by decide) elC_len Tryz.underlying31 (by kernel_rfl) el_of_trod h6
  exact ⟨⟨a0, a1, l2, l3, bs, ns, ls⟩, bo, bc, no, nc, lo, lc, ⟨rfl, Cells.of_row hbr, hnr, hlr, Nat.le_trans hbl hbm, Nat.le_trans hnl hnm, Nat.le_trans hll hlm, hbg, hng, hlg⟩, hbz, hnz, hlz, hbl, hbm, hnl, hnm, hll, hlm, w0, w1, m2, m3⟩
end Go.Proofs.YtieffhkfefimeaaGreatDoor

namespace Go.Proofs.YtieffhkfefimeaaGreatDoor
open Go.RowKit Go.Shelf


theorem togE_small {agg : List UInt8} {qs : List Rat} {m K : Nat} (hx : ∀ q ∈ qs, DY K q) (hK : K ≤ 2000) (hl : qs.length ≤ 2000) (hm1 : 1 ≤ m) (hm : m ≤ 1000000) : QB (togE agg qs m) 72 := by
 have hp : ∀ way, QB (pkL way qs).1 72 := fun way => by
  have h := List.prefix_refl qs
  rcases Decidable.em (way = 0) with h0 | h0
  ·subst h0
   suffices h : ∀ l : List Rat, (∀ q ∈ l, DY K q) → QB (pkL 0 l).1 72 from h qs hx
   intro l
   induction l using snocRec with
   | nil => intro _; exact QB.zero _ (by decide)
   | snoc l x ih =>
    intro hq
    rw [pkL_snoc]
    unfold pkStep
    split
    ·exact ((hq x (by simp)).qb (by omega)).mono (by decide)
    ·exact ih fun q h => hq q (by simp [h])
  ·rcases pkL_spec way h0 qs with ⟨_, h1⟩ | ⟨_, h1⟩
   ·rw [h1]; exact QB.zero _ (by decide)
   ·exact ((hx _ h1).qb (by omega)).mono (by decide)
 have hs : QB (qsumL qs) 67 := (DY.sum qs hx).qb (by
  have := Nat.mul_le_mul hl hK
  omega)
 unfold togE
 split
 ·exact hp _
 ·split
  ·exact hp _
  ·split
   ·refine (hs.div (int_qb m hm) ?_).mono (by decide)
    intro h0
    have h1 : ((m : Int) : Rat).num = (0 : Rat).num := by rw [h0]
    rw [Rat.num_intCast] at h1
    have h2 : (0 : Rat).num = 0 := rfl
    rw [h2] at h1
    omega
   ·exact hs.mono (by decide)
theorem score_small (e : EE) (row : List Nat) (k : Nat) (hb : e.base = []) (hl : e.leaves.length ≤ 2000) (ht1 : 1 ≤ (treesE e.nodes).length) (ht : (treesE e.nodes).length ≤ 2000) : QB (scoreQ e row k) 72 := by
 unfold scoreQ
 rw [if_pos hb]
 refine togE_small (K := e.leaves.length) giveL_dy hl ?_ ht1 (by omega)
 have := giveL_len e.leaves ((treesE e.nodes).map (lfE e.nodes row)) (k : Int)
 rw [List.length_map] at this
 omega
theorem QB.digits {q : Rat} {k : Nat} (h : QB q k) (hk : k ≤ 100) : (dec q.num.natAbs).length ≤ 1200 ∧ (dec q.den).length ≤ 1200 := by
 have key : ∀ n, (limbs n).length ≤ k → (dec n).length ≤ 1200 := fun n hn => by
  have h1 : n < 4294967296 ^ 100 := by
   refine Classical.byContradiction fun h9 => ?_
   have := lt_limbs_length (k := 100) (Nat.not_lt.1 h9)
   omega
  refine dec_le (Nat.lt_trans h1 (by decide +kernel)) (by decide)
 exact ⟨key _ h.1, key _ h.2⟩
theorem qcode_pos {l : List UInt8} (h : qcode l = 0) : 0 < l.length := by
 refine Nat.pos_of_ne_zero fun h0 => ?_
 have : l = [] := List.eq_nil_of_length_eq_zero h0
 subst this
 exact absurd h (by decide)
theorem qtext_len {q : Rat} (h1 : (dec q.num.natAbs).length ≤ 1200) (h2 : (dec q.den).length ≤ 1200) : (qtext q).length ≤ 100000000 := by
 unfold qtext
 split <;> split <;> simp [str] <;> omega
set_option maxHeartbeats 2000000 in
theorem score_bad (v : Value) (e : EE) (bo : Option Addr) (bc : Nat) (no : Option Addr) (nc : Nat) (lo : Option Addr) (lc : Nat) (ro : Option Addr) (n rc c : Nat) (w : World) (h : EnsIs w v e bo bc no nc lo lc) (hc : Hid (checkE e = c)) (hc0 : c ≠ 0) (hn2 : e.nodes.length ≤ 100000) :
  Calls Tryz.prog 13 #[v, .slice ro n rc] w fun e9 w' => e9 = .returned (.tuple #[.slice none 0 0, .int .i64 1]) ∧ Below w.heap.size w w' := by
 obtain ⟨rfl, h1, h2, h4, h5, h3, h6, h7, h8, h9⟩ := h
 obtain ⟨w0, hw0, hbf, pe, hpe, hbe⟩ := boxE w e bo bc no nc lo lc
 have HP : Hid (w.heap.size ≤ pe) := Lib.hid (by omega)
 have HW := Lib.hid hw0; clear hw0
 go_enter Tryz.func13, Tryz.ntmps13
 go_upto_region 1 with fail
 rw [← HW.out, ← hpe]
 clear hpe HW
 have hE : EnsIs w0 (ensV e bo bc no nc lo lc) e bo bc no nc lo lc := EnsIs.below ⟨rfl, h1, h2, h4, h5, h3, h6, h7, h8, h9⟩ hbf
 have hC := check_any _ e _ _ _ _ _ _ w0 hE hn2 c hc
 rw [decide_eq_false hc0] at hC
 obtain ⟨ee0, ee1, ee2, ee3, ee4, ee5, ee6⟩ := hbe.c7
 go_wp2_with (go_at_call 39; refine hC.mono ?_; rintro e9 w1 ⟨rfl, hb⟩)
 go_ret2
 exact ⟨rfl, hbf.trans (hb.mono hbf.size)⟩
theorem u64_ofB {n : Int} (h : (Lit.int .u64 n).wf = true) : ∃ m : Nat, n = (m : Int) ∧ m < 18446744073709551616 := by
 simp [Lit.wf] at h
 have h1 : IntKind.u64.min = 0 := rfl
 have h2 : IntKind.u64.max = 18446744073709551615 := rfl
 rw [h1, h2] at h
 exact ⟨n.toNat, by omega, by omega⟩
theorem row_of {w : World} {v : Value} {ls : List Int} (h : IntsN .u64 w v ls) (hm : ∀ n ∈ ls, (Lit.int .u64 n).wf = true) : ∃ (ro : Option Addr) (rc : Nat) (row : List Nat), v = .slice ro row.length rc ∧ row.length ≤ rc ∧ rc ≤ maxLen ∧ Cells .u64 w ro row ∧ (∀ x ∈ row, x < 18446744073709551616) ∧ (ro = none → rc = 0) ∧ ls = row.map (fun n : Nat => (n : Int)) := by
 obtain ⟨⟨ao, cap, rfl, h1, h2, h3⟩, h4⟩ := h
 have key : ls = (ls.map Int.toNat).map (fun n : Nat => (n : Int)) := by
  rw [List.map_map]
  conv => lhs; rw [← List.map_id ls]
  refine List.map_congr_left fun n hn => ?_
  obtain ⟨m, rfl, _⟩ := u64_ofB (hm n hn)
  simp
 refine ⟨ao, cap, ls.map Int.toNat, by rw [List.length_map], by rw [List.length_map]; exact h1, h2, ?_, ?_, fun h0 => h4 _ _ (by rw [h0]), key⟩
 ·rcases h3 with rfl | ⟨b, off, e1, e2, e3⟩
  ·exact .inl rfl
  ·refine .inr ⟨b, off, e1, e2, fun i hi => ?_⟩
   rw [List.length_map] at hi
   rw [e3 i hi, List.getElem?_map, List.getElem?_eq_getElem hi]
   obtain ⟨m, hm9, _⟩ := u64_ofB (hm ls[i] (List.getElem_mem hi))
   simp [hm9]
 ·intro x hx
  obtain ⟨n, hn, rfl⟩ := List.mem_map.1 hx
  obtain ⟨m, rfl, h9⟩ := u64_ofB (hm n hn)
  simpa using h9
end Go.Proofs.YtieffhkfefimeaaGreatDoor

namespace Go.Proofs.YtieffhkfefimeaaGreatDoor
open Go.RowKit


set_option maxHeartbeats 1000000 in
theorem same_texts (va vb : Value) (ls : List (List UInt8)) (w : World) (ha : Strs w va ls) (hb : Strs w vb ls) :
  Calls Tryz.prog 18 #[va, vb] w fun e w' => e = .returned (.bool true) ∧ Below w.heap.size w w' := by
 obtain ⟨ao, ca, rfl, ha1, ha2, ha3⟩ := ha
 obtain ⟨bo, cb, rfl, hb1, hb2, hb3⟩ := hb
 unfold maxLen at ha2 hb2
 go_enter Tryz.func18, Tryz.ntmps18
 go_wp2_with fail
 go_loopg [5] ls.length (fun gg iv wr => ∃ i : Nat, i + gg = ls.length ∧ iv = .int .i64 (i : Int) ∧ Below w.heap.size w wr)
 case atStart => exact ⟨0, by omega, rfl, Below.refl _ _⟩
 case round =>
  obtain ⟨i, hi, rfl, hbr⟩ := hrel
  by_cases hil : i < ls.length
  ·rcases ha3 with h | ⟨ga, oa, rfl, hga, hca⟩
   ·rw [h] at hil; simp at hil
   rcases hb3 with h | ⟨gb, ob, rfl, hgb, hcb⟩
   ·rw [h] at hil; simp at hil
   have ea := (hbr.cell (p := ⟨ga, oa + i, none⟩) hga).trans (hca i hil)
   have eb := (hbr.cell (p := ⟨gb, ob + i, none⟩) hgb).trans (hcb i hil)
   clear hca hcb
   generalize ls[i]?.getD [] = s at *
   have hss : (s == s) = true := beq_self_eq_true _
   have q1 : (i : Int) < (ls.length : Int) := by omega
   have q2 : (0 : Int) ≤ (i : Int) := by omega
   go_wp2_with fail
   go_quiet (fail)
   go_wp2_with fail
   go_roundg (gk - 1)
   case measure => omega
   case rel => exact ⟨i + 1, by omega, by first | rfl | go_num, ⟨hbr.os, hbr.tape, hbr.output, hbr.size, hbr.block⟩⟩
  ·have q1 : ¬ (i : Int) < (ls.length : Int) := by omega
   go_wp2_with fail
   go_ret
   exact ⟨rfl, hbr⟩
end Go.Proofs.YtieffhkfefimeaaGreatDoor

namespace Go.Proofs.YtieffhkfefimeaaGreatDoor
open Go.RowKit Go.Shelf


def scoreC (e : EE) (row : List Nat) : Nat × List (List UInt8) := if checkE e ≠ 0 then (1, []) else if (row.length : Int) ≠ e.feats then (16, []) else (0, scoreT e row e.tgts.toNat)
theorem strs_own {B : Nat} {W : World} {r : Value} {L : List (List UInt8)} (h : Owns B 9 W r (stv L)) : Strs W r L := by
 rcases OwnsK.shape (K := 1) h with ⟨rfl, h0⟩ | ⟨g, cap, rfl, k1, k2, k3, k4, k5, k6⟩
 ·rw [stv_len] at h0
  have : L = [] := List.eq_nil_of_length_eq_zero h0
  subst this
  exact ⟨none, 0, rfl, Nat.le_refl _, Nat.zero_le _, .inl rfl⟩
 ·rw [stv_len] at k3 k5 ⊢
  refine ⟨some ⟨g, 0, none⟩, cap, rfl, k3, k4, .inr ⟨g, 0, rfl, k2, fun i hi => ?_⟩⟩
  rw [Nat.zero_add, k5 i (by omega)]
  unfold stv
  rw [List.getElem?_map, List.getElem?_eq_getElem hi]; rfl
theorem ok_facts {e : EE} (h : checkE e = 0) : 1 ≤ e.nodes.length ∧ e.nodes.length ≤ 2000 ∧ e.leaves.length ≤ 2000 ∧ 1 ≤ (treesE e.nodes).length ∧ (treesE e.nodes).length ≤ 2000 ∧ 1 ≤ e.tgts ∧ e.tgts ≤ 20 := by
 have h1 : sizeE e = true := (check_ok h).size
 unfold sizeE at h1
 simp only [Bool.and_eq_true, decide_eq_true_eq] at h1
 obtain ⟨_, _, h3, h4, h5, h6, h7, h8⟩ := h1
 refine ⟨h5, h6, h7, ?_, by omega, h3, h4⟩
 have h9 := tree_mem (ns := e.nodes) (k := 0) (by omega)
 exact List.length_pos_of_mem h9
theorem score_any (v : Value) (e : EE) (bo : Option Addr) (bc : Nat) (no : Option Addr) (nc : Nat) (lo : Option Addr) (lc : Nat) (ro : Option Addr) (rc : Nat) (row : List Nat) (c : Nat) (L : List (List UInt8)) (w : World) (h : EnsIs w v e bo bc no nc lo lc) (hrl : row.length ≤ rc) (hrx : rc ≤ maxLen) (hrow : Cells .u64 w ro row) (hrm : ∀ x ∈ row, x < 18446744073709551616) (hn2 : e.nodes.length ≤ 2000) (hq : Hid (scoreC e row = (c, L))) :
  Calls Tryz.prog 13 #[v, .slice ro row.length rc] w fun e9 w' => ∃ r, e9 = .returned (.tuple #[r, .int .i64 (c : Int)]) ∧ Owns w.heap.size 9 w' r (stv L) ∧ Below w.heap.size w w' := by
 have hq' := hq.out
 unfold scoreC at hq'
 obtain ⟨c0, hc0⟩ : ∃ c, checkE e = c := ⟨_, rfl⟩
 by_cases h0 : c0 = 0
 ·subst h0
  rw [if_neg (by rw [hc0]; simp)] at hq'
  by_cases h1 : (row.length : Int) = e.feats
  ·rw [if_neg (by simpa using h1)] at hq'
   injection hq' with e1 e2
   subst e1 e2
   obtain ⟨a1, a2, a3, a4, a5, a6, a7⟩ := ok_facts hc0
   exact score_ok v e bo bc no nc lo lc ro rc row w h hrl hrx hrow hrm (Lib.hid hc0) (Lib.hid h1) (Lib.hid (Int.le_of_eq h1.symm)) a1 a2 a3 e.tgts.toNat (Lib.hid (by omega)) (by omega) a5 a4 (Lib.hid (check_ok hc0).agg)
  ·rw [if_pos h1] at hq'
   injection hq' with e1 e2
   subst e1 e2
   refine (score_arity v e bo bc no nc lo lc ro row.length rc w h (Lib.hid hc0) (Lib.hid h1) hn2).mono ?_
   rintro e9 w' ⟨rfl, hb⟩
   exact ⟨_, rfl, Owns.nil _ _ _, hb⟩
 ·rw [if_pos (by rw [hc0]; exact h0)] at hq'
  injection hq' with e1 e2
  subst e1 e2
  refine (score_bad v e bo bc no nc lo lc ro row.length rc c0 w h (Lib.hid hc0) h0 (by omega)).mono ?_
  rintro e9 w' ⟨rfl, hb⟩
  exact ⟨_, rfl, Owns.nil _ _ _, hb⟩
end Go.Proofs.YtieffhkfefimeaaGreatDoor
