/-
  Pk31: OpenE (what is needed of them).
-/
import Derived.Test.YtcpfanpcdkoiaaaGreatPk09
import Derived.WalkKit
import Derived.ProofKit
import Derived.OpenShut
import Derived.ShutString
import Derived.Carry
import Derived.Deep.Slices
import Derived.Deep.Fields
set_option maxRecDepth 100000
set_option linter.unusedVariables false
set_option linter.unusedSimpArgs false

namespace Go.Proofs.YtcpfanpcdkoiaaaGreat
open Go.ChangeShapes Go.WideShapes Go.ChangeAt Go.RowKit Go.Deep

theorem laidOutN : laidOutB Tryz.prog = true := by kernel_rfl
theorem hone_at {P : Program} {t : TypeId} {fs : Array Field} (_ : P.underlying t = some (.struct fs)) (h : oneCellFields P fs = true) : ∀ (i : Nat) (f : Field), fs[i]? = some f → f.offset = i ∧ P.cellsOf f.type = 1 := fun i f hi => hone_of h i f hi
theorem struct_of_trod {H : Type} {enc : TypeId × Value → H} {P : Program} {W : World} {r : Reach} {b0 base : Nat} {spare : Nat → Bool} {held : Bool} {t : TypeId} {fs : Array Field} {v : Value} {d : DataW H} {p : List MemPlace} (hs : P.underlying t = some (.struct fs)) (hone : oneCellFields P fs = true) (hC : P.cellsOf t = fs.size)
  (hv : Value.okWide P W r b0 t v) (h : DataW.Trod enc P W base spare held t v d p) :
  ∃ l : List Value, v = .agg l.toArray ∧ l.length = fs.size ∧ ∀ (i : Nat) (f : Field), fs[i]? = some f → ∃ u n y, l[i]? = some u ∧ DataW.trod enc P W base spare held n f.type [u] = some y := by
 obtain ⟨⟨l⟩, rfl, hsz⟩ := okWide_struct hs hv
 obtain ⟨fuel, hf⟩ := h
 obtain ⟨xs, n, _, _, _, hlen, hg⟩ := DataW.trod_struct hs hf
 refine ⟨l, rfl, by rw [← hC, ← hsz]; simp, fun i f hi => ?_⟩
 obtain ⟨ho, hk⟩ := hone_of hone i f hi
 have hil : i < fs.size := (Array.getElem?_eq_some_iff.1 hi).1
 have hll : l.length = fs.size := by rw [← hC, ← hsz]; simp
 have h1 := hg i f hi
 rw [ho, hk] at h1
 have h2 : ((Value.agg ⟨l⟩).cells.toList.drop i).take 1 = [l[i]'(by omega)] := by
  show (l.drop i).take 1 = _
  rw [List.drop_eq_getElem_cons (by omega)]; rfl
 rw [h2] at h1
 exact ⟨_, n, xs[i]'(by omega), List.getElem?_eq_getElem (by omega), by rw [h1]; exact List.getElem?_eq_getElem (by omega)⟩
theorem string_field {H : Type} {enc : TypeId × Value → H} {P : Program} {W : World} {base : Nat} {spare : Nat → Bool} {held : Bool} {n : Nat} {t : TypeId} {u : Value} {y : DataW H × List MemPlace} (ht : P.underlying t = some .string) (h : DataW.trod enc P W base spare held n t [u] = some y) :
  ∃ l : List UInt8, u = .string ⟨l.toArray⟩ ∧ l.length ≤ 9223372036854775807 := by
 obtain ⟨s, hs, _, hm⟩ := DataW.trod_string ht h
 obtain ⟨⟨l⟩⟩ := s
 simp at hs
 refine ⟨l, hs, ?_⟩
 unfold maxLen at hm
 have h9 : (⟨⟨l⟩⟩ : ByteArray).size = l.length := rfl
 omega
theorem u64_nat {n : Int} (h : (Lit.int .u64 n).wf = true) : ∃ m : Nat, n = (m : Int) ∧ m < 18446744073709551616 := by
 simp [Lit.wf] at h
 have h1 : IntKind.u64.min = 0 := rfl
 have h2 : IntKind.u64.max = 18446744073709551615 := rfl
 rw [h1, h2] at h
 exact ⟨n.toNat, by omega, by omega⟩
theorem row_field {α : Type} [Inhabited α] {k : Nat} {enc : α → List Value} {good : α → Prop} (hk0 : 0 < k) (henc : ∀ x, (enc x).length = k) {t el : TypeId} {H : Type} {eh : TypeId × Value → H} {W : World} {u : Value} {n : Nat} {y : DataW H × List MemPlace} (ht : Tryz.prog.underlying t = some (.slice el)) (hc : Tryz.prog.cellsOf el = k)
  (each : ∀ (m : Nat) (cs : List Value) (x : DataW H × List MemPlace), cs.length = k → DataW.trod eh Tryz.prog W 0 (fun _ => true) true m el cs = some x → ∃ z, good z ∧ cs = enc z)
  (hf : DataW.trod eh Tryz.prog W 0 (fun _ => true) true n t [u] = some y) :
  ∃ (ao : Option Addr) (cap : Nat) (xs : List α), u = .slice ao xs.length cap ∧ RowC k enc W ao xs ∧ xs.length ≤ cap ∧ cap ≤ maxLen ∧ (ao = none → cap = 0) ∧ ∀ x ∈ xs, good x := by
 rcases open_slice ht hf with ⟨hcs, _⟩ | ⟨a, len, cap, m, n', D, Pl, hcs, _, hl, hm, hmm, _, hx⟩
 ·injection hcs with h1 _
  subst h1
  exact ⟨none, 0, [], rfl, .inl rfl, Nat.le_refl _, Nat.zero_le _, fun _ => rfl, by simp⟩
 ·injection hcs with h1 _
  subst h1
  rw [hc] at hx
  have hmm2 : len ≤ m := by rw [hmm]; simp only [if_true]; exact hl
  have each2 : ∀ i, i < len → ∃ z : α, good z ∧ ∀ j c, (enc z)[j]? = some c → W.cell? (a.add (i * k + j)) = some c := by
   intro i hi
   obtain ⟨cs', h1, h2⟩ := hx i (by omega)
   obtain ⟨_, hlen, hcell⟩ := World.cells?_some h1
   obtain ⟨z, hg, rfl⟩ := each _ _ _ hlen h2
   refine ⟨z, hg, fun j c hj => ?_⟩
   have hjk : j < k := by rw [← henc z]; exact (List.getElem?_eq_some_iff.1 hj).1
   have e := hcell j (by omega)
   rw [add_add] at e
   rw [e]
   exact hj
  obtain ⟨V, hV⟩ := choose_lt each2
  have hlV : ((List.range len).map V).length = len := by simp
  refine ⟨some a, cap, (List.range len).map V, by rw [hlV], ?_, by rw [hlV]; exact hl, hm, fun h => (Option.some_ne_none _ h).elim, ?_⟩
  ·rcases Nat.eq_zero_or_pos len with h0 | h0
   ·left; subst h0; rfl
   ·right
    have c0 := (hV 0 h0).2 0 _ (List.getElem?_eq_getElem (by rw [henc]; exact hk0))
    obtain ⟨blk, off, spot⟩ := a
    have hsp : spot = none := by
     unfold World.cell? at c0
     split at c0
     ·cases spot with
      | none => rfl
      | some x => simp [Addr.add] at c0
     ·cases c0
    subst hsp
    rw [Addr.add_lit] at c0
    refine ⟨blk, off, rfl, World.block_lt_of_cell? W ⟨blk, off + (0 * k + 0), none⟩ c0, fun i o hi j c hj => ?_⟩
    have hil : i < len := by
     have := (List.getElem?_eq_some_iff.1 hi).1
     rwa [hlV] at this
    have hv : o = V i := by
     rw [List.getElem?_map, List.getElem?_range hil] at hi
     simpa using hi.symm
    subst hv
    have h9 := (hV i hil).2 j c hj
    rw [Addr.add_lit, ← Nat.add_assoc] at h9
    exact h9
  ·intro o ho
   obtain ⟨i, hi, rfl⟩ := List.mem_map.1 ho
   exact (hV i (List.mem_range.1 hi)).1
theorem Cells.of_row {w : World} {ao : Option Addr} {xs : List Nat} (h : RowC 1 (fun n : Nat => [.int .u64 (n : Int)]) w ao xs) : Cells .u64 w ao xs := by
 rcases h with h | ⟨b, off, h1, h2, h3⟩
 ·exact .inl h
 ·refine .inr ⟨b, off, h1, h2, fun i hi => ?_⟩
  have h4 := h3 i _ (List.getElem?_eq_getElem hi) 0 _ rfl
  rw [List.getElem?_eq_getElem hi]
  rw [Nat.mul_one, Nat.add_zero] at h4
  exact h4
instance : Inhabited EN := ⟨⟨0, 0, 0, 0, 0, 0, 0, false⟩⟩
instance : Inhabited EL := ⟨⟨0, 0, 0, 0⟩⟩
theorem en_of_trod {H : Type} {eh : TypeId × Value → H} {W : World} (m : Nat) (cs : List Value) (x : DataW H × List MemPlace) (hlen : cs.length = 8) (h2 : DataW.trod eh Tryz.prog W 0 (fun _ => true) true m 131 cs = some x) : ∃ z, ENW z ∧ cs = enC z := by
 obtain ⟨xs, k, _, hxe, _, hxl, hff⟩ := DataW.trod_struct Tryz.underlying131 h2
 have hone := hone_at Tryz.underlying131 (by kernel_rfl)
 have hxl8 : xs.length = 8 := hxl
 match xs, hxl8, cs, hlen, hff with
 | [y0, y1, y2, y3, y4, y5, y6, y7], _, [v0, v1, v2, v3, v4, v5, v6, v7], _, hff =>
  have g0 := hff 0 _ rfl
  have g1 := hff 1 _ rfl
  have g2 := hff 2 _ rfl
  have g3 := hff 3 _ rfl
  have g4 := hff 4 _ rfl
  have g5 := hff 5 _ rfl
  have g6 := hff 6 _ rfl
  have g7 := hff 7 _ rfl
  have t0 := hone 0 _ rfl
  have t1 := hone 1 _ rfl
  have t2 := hone 2 _ rfl
  have t3 := hone 3 _ rfl
  have t4 := hone 4 _ rfl
  have t5 := hone 5 _ rfl
  have t6 := hone 6 _ rfl
  have t7 := hone 7 _ rfl
  rw [t0.1, t0.2] at g0
  rw [t1.1, t1.2] at g1
  rw [t2.1, t2.2] at g2
  rw [t3.1, t3.2] at g3
  rw [t4.1, t4.2] at g4
  rw [t5.1, t5.2] at g5
  rw [t6.1, t6.2] at g6
  rw [t7.1, t7.2] at g7
  simp at g0 g1 g2 g3 g4 g5 g6 g7
  obtain ⟨c0, hc0, _, hw0⟩ := DataW.trod_int Tryz.underlying3 g0
  obtain ⟨c1, hc1, _, hw1⟩ := DataW.trod_int Tryz.underlying3 g1
  obtain ⟨c2, hc2, _, hw2⟩ := DataW.trod_int Tryz.underlying3 g2
  obtain ⟨c3, hc3, _, hw3⟩ := DataW.trod_int Tryz.underlying3 g3
  obtain ⟨c4, hc4, _, hw4⟩ := DataW.trod_int Tryz.underlying41 g4
  obtain ⟨c5, hc5, _, hw5⟩ := DataW.trod_int Tryz.underlying3 g5
  obtain ⟨c6, hc6, _, hw6⟩ := DataW.trod_int Tryz.underlying3 g6
  obtain ⟨c7, hc7, _⟩ := DataW.trod_bool Tryz.underlying4 g7
  simp at hc0 hc1 hc2 hc3 hc4 hc5 hc6 hc7
  obtain ⟨m4, rfl, hm4⟩ := u64_nat hw4
  subst hc0 hc1 hc2 hc3 hc4 hc5 hc6 hc7
  exact ⟨⟨c0, c1, c2, c3, m4, c5, c6, c7⟩, ⟨hm4, hw0, hw1, hw2, hw3, hw5, hw6⟩, rfl⟩
theorem el_of_trod {H : Type} {eh : TypeId × Value → H} {W : World} (m : Nat) (cs : List Value) (x : DataW H × List MemPlace) (hlen : cs.length = 4) (h2 : DataW.trod eh Tryz.prog W 0 (fun _ => true) true m 137 cs = some x) : ∃ z, ELW z ∧ cs = elC z := by
 obtain ⟨xs, k, _, hxe, _, hxl, hff⟩ := DataW.trod_struct Tryz.underlying137 h2
 have hone := hone_at Tryz.underlying137 (by kernel_rfl)
 have hxl4 : xs.length = 4 := hxl
 match xs, hxl4, cs, hlen, hff with
 | [y0, y1, y2, y3], _, [v0, v1, v2, v3], _, hff =>
  have g0 := hff 0 _ rfl
  have g1 := hff 1 _ rfl
  have g2 := hff 2 _ rfl
  have g3 := hff 3 _ rfl
  have t0 := hone 0 _ rfl
  have t1 := hone 1 _ rfl
  have t2 := hone 2 _ rfl
  have t3 := hone 3 _ rfl
  rw [t0.1, t0.2] at g0
  rw [t1.1, t1.2] at g1
  rw [t2.1, t2.2] at g2
  rw [t3.1, t3.2] at g3
  simp at g0 g1 g2 g3
  obtain ⟨c0, hc0, _, hw0⟩ := DataW.trod_int Tryz.underlying3 g0
  obtain ⟨c1, hc1, _, hw1⟩ := DataW.trod_int Tryz.underlying3 g1
  obtain ⟨c2, hc2, _, hw2⟩ := DataW.trod_int Tryz.underlying3 g2
  obtain ⟨c3, hc3, _, hw3⟩ := DataW.trod_int Tryz.underlying41 g3
  simp at hc0 hc1 hc2 hc3
  obtain ⟨m3, rfl, hm3⟩ := u64_nat hw3
  subst hc0 hc1 hc2 hc3
  exact ⟨⟨c0, c1, c2, m3⟩, ⟨hm3, hw0, hw1, hw2⟩, rfl⟩
def EnsIn (w : World) (v : Value) : Prop := ∃ (e : EE) (bo : Option Addr) (bc : Nat) (no : Option Addr) (nc : Nat) (lo : Option Addr) (lc : Nat), EnsIs w v e bo bc no nc lo lc ∧ (bo = none → bc = 0) ∧ (no = none → nc = 0) ∧ (lo = none → lc = 0) ∧ e.base.length ≤ bc ∧ bc ≤ maxLen ∧ e.nodes.length ≤ nc ∧ nc ≤ maxLen ∧ e.leaves.length ≤ lc ∧ lc ≤ maxLen ∧ IW e.feats ∧ IW e.tgts ∧ e.agg.length ≤ 9223372036854775807 ∧ e.post.length ≤ 9223372036854775807
theorem ens_of_trod {H : Type} {eh : TypeId × Value → H} {W : World} {base : Nat} {v : Value} {d : DataW H} {p : List MemPlace} (hok : Value.okWide Tryz.prog W .any base 75 v) (h : DataW.Trod eh Tryz.prog W 0 (fun _ => true) true 75 v d p) : EnsIn W v := by
 obtain ⟨l, rfl, hl, hf⟩ := struct_of_trod Tryz.underlying75 (by kernel_rfl) (by kernel_rfl) hok h
 have hl7 : l.length = 7 := hl
 match l, hl7 with
 | [c0, c1, c2, c3, c4, c5, c6], _ =>
  obtain ⟨u0, n0, y0, e0, h0⟩ := hf 0 _ rfl
  obtain ⟨u1, n1, y1, e1, h1⟩ := hf 1 _ rfl
  obtain ⟨u2, n2, y2, e2, h2⟩ := hf 2 _ rfl
  obtain ⟨u3, n3, y3, e3, h3⟩ := hf 3 _ rfl
  obtain ⟨u4, n4, y4, e4, h4⟩ := hf 4 _ rfl
  obtain ⟨u5, n5, y5, e5, h5⟩ := hf 5 _ rfl
  obtain ⟨u6, n6, y6, e6, h6⟩ := hf 6 _ rfl
  simp at e0 e1 e2 e3 e4 e5 e6
  subst e0 e1 e2 e3 e4 e5 e6
  obtain ⟨a0, hc0, _, w0⟩ := DataW.trod_int Tryz.underlying3 h0
  obtain ⟨a1, hc1, _, w1⟩ := DataW.trod_int Tryz.underlying3 h1
  simp at hc0 hc1
  subst hc0 hc1
  obtain ⟨l2, rfl, m2⟩ := string_field Tryz.underlying9 h2
  obtain ⟨l3, rfl, m3⟩ := string_field Tryz.underlying9 h3
  obtain ⟨bo, bc, bs, rfl, hbr, hbl, hbm, hbz, hbg⟩ := row_field (α := Nat) (k := 1) (enc := fun n : Nat => [.int .u64 (n : Int)]) (good := fun n => n < 18446744073709551616) (by decide) (fun _ => rfl) Tryz.underlying58 (by kernel_rfl) (fun m cs x hcs hx => by
   obtain ⟨c, hc, _, hw⟩ := DataW.trod_int Tryz.underlying41 hx
   obtain ⟨z, rfl, hz⟩ := u64_nat hw
   exact ⟨z, hz, hc⟩) h4
  obtain ⟨no, nc, ns, rfl, hnr, hnl, hnm, hnz, hng⟩ := row_field (k := 8) (enc := enC) (good := ENW) (by decide) enC_len Tryz.underlying72 (by kernel_rfl) en_of_trod h5
  obtain ⟨lo, lc, ls, rfl, hlr, hll, hlm, hlz, hlg⟩ := row_field (k := 4) (enc := elC) (good := ELW) (by decide) elC_len Tryz.underlying73 (by kernel_rfl) el_of_trod h6
  exact ⟨⟨a0, a1, l2, l3, bs, ns, ls⟩, bo, bc, no, nc, lo, lc, ⟨rfl, Cells.of_row hbr, hnr, hlr, Nat.le_trans hbl hbm, Nat.le_trans hnl hnm, Nat.le_trans hll hlm, hbg, hng, hlg⟩, hbz, hnz, hlz, hbl, hbm, hnl, hnm, hll, hlm, w0, w1, m2, m3⟩
end Go.Proofs.YtcpfanpcdkoiaaaGreat
