/-
  Ph23: TreN (what is needed of them).
-/
import Derived.Test.YtlmjkbdodecbmaaGreatDoorPh06
import Derived.Test.YtlmjkbdodecbmaaGreatDoorPh22
import Derived.Deep.RegionHeld

namespace Go.Proofs.YtlmjkbdodecbmaaGreatDoor
open Go.RowKit Go.Shelf
set_option linter.unusedVariables false
set_option linter.unusedSimpArgs false
/-- A row of ints that lies between two bounds. -/
structure IntsQ (lo hi : Nat) (w : World) (io : Option Addr) (ic : Nat) (ns : List Int) : Prop where
  cap : ns.length ≤ ic ∧ ic ≤ maxLen
  no : io = none → ic = 0
  at_ : ∀ (i : Nat) (n : Int), ns[i]? = some n → ∃ b off, io = some ⟨b, off, none⟩ ∧ lo ≤ b ∧ b < hi ∧ w.cell? ⟨b, off + i, none⟩ = some (.int .i64 n)
theorem IntsQ.mid {lo hi : Nat} {w w' : World} {io : Option Addr} {ic : Nat} {ns : List Int} (h : IntsQ lo hi w io ic ns) (hl : Mid lo hi w w') : IntsQ lo hi w' io ic ns :=
  ⟨h.cap, h.no, fun i n hi => by obtain ⟨b, off, e, h1, h2, hc⟩ := h.at_ i n hi; exact ⟨b, off, e, h1, h2, (hl.cell h1 h2).trans hc⟩⟩
theorem IntsQ.widen {lo hi lo' hi' : Nat} {w : World} {io : Option Addr} {ic : Nat} {ns : List Int} (h : IntsQ lo hi w io ic ns) (h1 : lo' ≤ lo) (h2 : hi ≤ hi') : IntsQ lo' hi' w io ic ns :=
  ⟨h.cap, h.no, fun i n hi => by obtain ⟨b, off, e, h3, h4, hc⟩ := h.at_ i n hi; exact ⟨b, off, e, by omega, by omega, hc⟩⟩
theorem IntsQ.toB {lo hi : Nat} {w : World} {io : Option Addr} {ic : Nat} {ns : List Int} (h : IntsQ lo hi w io ic ns) : IntsB hi w io ic ns :=
  ⟨h.cap, h.no, fun i n hi => by obtain ⟨b, off, e, h1, h2, hc⟩ := h.at_ i n hi; exact ⟨b, off, e, h2, hc⟩⟩
theorem IntsQ.of_owns {base : Nat} {e : TypeId} {w : World} {io : Option Addr} {n ic : Nat} {ns : List Int} (h : OwnsK 1 base e w (.slice io n ic) n (icel ns)) (hn : ns.length = n) : IntsQ base w.heap.size w io ic ns := by
  obtain ⟨ao, cap, hv, h1, h2, h3⟩ := h.slice
  cases hv
  refine ⟨⟨by omega, h2⟩, h3, fun i x hi => ?_⟩
  rcases h.shape with ⟨h4, h5⟩ | ⟨g, cap', e1, h6, h7, -⟩
  · cases h4
    have := (List.getElem?_eq_some_iff.1 hi).1
    omega
  · cases e1
    exact ⟨g, 0, rfl, h6, h7, by rw [Nat.zero_add]; exact h.cellAt (icel_get hi)⟩
/-- A node whose parts lie between two bounds. -/
structure NdQ (lo hi : Nat) (w : World) (n : TN) (l : NdL) : Prop where
  p : PQt lo hi w n.p l.vo l.vc l.ko l.kc
  k : IntsQ lo hi w l.io l.ic n.kids
  sc : n.sc.length ≤ 9223372036854775807
  ct : n.ct.length ≤ 9223372036854775807
theorem NdQ.mid {lo hi : Nat} {w w' : World} {n : TN} {l : NdL} (h : NdQ lo hi w n l) (hl : Mid lo hi w w') : NdQ lo hi w' n l := ⟨h.p.mid hl, h.k.mid hl, h.sc, h.ct⟩
theorem NdQ.widen {lo hi lo' hi' : Nat} {w : World} {n : TN} {l : NdL} (h : NdQ lo hi w n l) (h1 : lo' ≤ lo) (h2 : hi ≤ hi') : NdQ lo' hi' w n l := ⟨h.p.widen h1 h2, h.k.widen h1 h2, h.sc, h.ct⟩
theorem NdQ.toB {lo hi : Nat} {w : World} {n : TN} {l : NdL} (h : NdQ lo hi w n l) : NdIs hi w n l := ⟨h.p.toP, h.k.toB, h.sc, h.ct⟩
/-- A node's cells in a list. -/
abbrev ndLs (cs : List Value) (o : Nat) (n : TN) (l : NdL) : Prop := Ls8 cs o (.int .i64 n.p.op) (.int .i64 n.p.fld) (.slice l.vo n.p.vals.length l.vc) (.slice l.ko n.p.kids.length l.kc) (.string ⟨n.sc.toArray⟩) (.string ⟨n.ct.toArray⟩) (.slice l.io n.kids.length l.ic) (.int .i64 n.df)
/-- The nodes that Order has laid so far. -/
def OdRow (t : TR) (D hi : Nat) (W : World) (cs : List Value) (i : Nat) : Prop := cs.length = t.N * 8 ∧ ∀ (j : Nat) (n : TN), j < i → t.nodes[j]? = some n → ∃ l, NdQ D hi W (newN t n) l ∧ ndLs cs (posT t j * 8) (newN t n) l
theorem OdRow.go {t : TR} {D hi hi' : Nat} {W W' : World} {cs : List Value} {i : Nat} (h : OdRow t D hi W cs i) (h1 : hi ≤ hi') (hm : Mid D hi W W') : OdRow t D hi' W' cs i :=
  ⟨h.1, fun j n hj hn => by obtain ⟨l, h3, h4⟩ := h.2 j n hj hn; exact ⟨l, (h3.mid hm).widen (Nat.le_refl _) h1, h4⟩⟩
theorem OdRow.start {t : TR} {D hi : Nat} {W : World} {cs : List Value} (h : cs.length = t.N * 8) : OdRow t D hi W cs 0 := ⟨h, fun j n hj => absurd hj (Nat.not_lt_zero _)⟩
theorem OdRow.room {t : TR} {D hi : Nat} {W : World} {cs : List Value} {i j : Nat} (hs : shapeB t = true) (h : OdRow t D hi W cs i) (hj : j < t.N) : posT t j * 8 + 8 ≤ cs.length := by
  have := posT_lt hs hj
  rw [h.1]
  omega
theorem OdRow.step {t : TR} {D hi : Nat} {W : World} {cs : List Value} {i : Nat} {n : TN} {l : NdL} (hs : shapeB t = true) (h : OdRow t D hi W cs i) (hn : t.nodes[i]? = some n) (hq : NdQ D hi W (newN t n) l) :
    OdRow t D hi W (set8 cs (posT t i * 8) (.int .i64 (newN t n).p.op) (.int .i64 (newN t n).p.fld) (.slice l.vo (newN t n).p.vals.length l.vc) (.slice l.ko (newN t n).p.kids.length l.kc) (.string ⟨(newN t n).sc.toArray⟩) (.string ⟨(newN t n).ct.toArray⟩) (.slice l.io (newN t n).kids.length l.ic) (.int .i64 (newN t n).df)) (i + 1) := by
  have hi9 : i < t.N := (List.getElem?_eq_some_iff.1 hn).1
  refine ⟨by rw [set8_len]; exact h.1, fun j m hj hm => ?_⟩
  by_cases hji : j = i
  · subst hji
    rw [hn] at hm
    cases hm
    exact ⟨l, hq, set8_at (h.room hs hi9)⟩
  · obtain ⟨l2, h3, h4⟩ := h.2 j m (by omega) hm
    refine ⟨l2, h3, Ls8.keep h4 fun c hc => ?_⟩
    have hj9 : j < t.N := (List.getElem?_eq_some_iff.1 hm).1
    have hne : posT t j ≠ posT t i := fun e => hji (posT_inj hs hj9 hi9 e)
    exact set8_ne (by omega)
theorem OdRow.done {t : TR} {D hi g : Nat} {W : World} {cs : List Value} (hs : shapeB t = true) (h : OdRow t D hi W cs t.N) (hb : BoxL W g cs) (hg : g < hi) (hN : t.N ≤ maxLen) : TrIs hi W (orderT t) (some ⟨g, 0, none⟩) t.N := by
  refine ⟨⟨by rw [orderT_len hs]; exact Nat.le_refl _, hN⟩, (fun e => by cases e), fun p y hp => ?_⟩
  obtain ⟨j, n, hj, hn, hpj, rfl⟩ := orderT_at hs hp
  obtain ⟨l, h3, h4⟩ := h.2 j n hj hn
  refine ⟨g, 0, l, rfl, hg, h3.toB, ?_⟩
  rw [Nat.zero_add, ← hpj]
  exact h4.at8 hb
/-- A full row as a block that may be written. -/
theorem BoxL.of_ownsK {K base : Nat} {e : TypeId} {w : World} {g n : Nat} {xs : List Value} (h : OwnsK K base e w (.slice (some ⟨g, 0, none⟩) n n) n xs) : BoxL w g xs := by
  obtain ⟨h1, ⟨h2, _⟩ | ⟨g', cap, cur, e1, h3, h4, h5, h6, h7, h8⟩⟩ := h
  · cases h2
  · cases e1
    have hc : cur.toList = xs := by
      rw [← h8, List.take_of_length_le]
      have := h7
      simp at this ⊢
      omega
    refine ⟨fun i x hi => ?_, fun i hi => ?_, (Array.getElem?_eq_some_iff.1 h4).1⟩
    · unfold World.cell?
      rw [h4]
      rw [← hc] at hi
      simpa using hi
    · unfold World.frozen?
      rw [h4]
      simp
theorem OwnsK.obj {K base : Nat} {e : TypeId} {w : World} {g n c : Nat} {xs : List Value} (h : OwnsK K base e w (.slice (some ⟨g, 0, none⟩) n c) n xs) : ∃ cur, w.heap[g]? = some (.cells cur e) ∧ base ≤ g := by
  obtain ⟨h1, ⟨h2, _⟩ | ⟨g', cap, cur, e1, h3, h4, h5, h6, h7, h8⟩⟩ := h
  · cases h2
  · cases e1
    exact ⟨cur, h4, h3⟩
theorem BoxL.of_obj {w : World} {g : Nat} {cs : Array Value} {e : TypeId} (h : w.heap[g]? = some (.cells cs e)) : BoxL w g cs.toList := by
  refine ⟨fun i x hi => ?_, fun i hi => ?_, (Array.getElem?_eq_some_iff.1 h).1⟩
  · unfold World.cell?
    rw [h]
    simpa using hi
  · unfold World.frozen?
    rw [h]
    simp
theorem heap_kept {w w' : World} {k : Nat} {o : Obj} (h : w.heap[k]? = some o) (hb : Below w.heap.size w w') : w'.heap[k]? = some o := (hb.block k (Array.getElem?_eq_some_iff.1 h).1).trans h
section
variable {P : Program} {t e : TypeId} {z : Value} {K bytes : Nat}
/-- make([]T, n), as an operation. -/
theorem step_makeT (E : ElemK P t e z K bytes) {w : World} {o : Oper} {a : Act} {Kn : Act → World → Prop} {Q : Exit → Act → World → Prop} {l c : Operand} {n : Nat}
    (hop : o.op = Op.makeSlice t l c) (hl : a.eval l = .int .i64 (n : Int)) (hc : a.eval c = .int .i64 (n : Int)) (b2 : bytes * n ≤ 281474976710656) (b3 : n ≤ maxLen)
    (h : ∀ w', OwnsK K w.heap.size e w' (.slice (some ⟨w.heap.size, 0, none⟩) n n) n (madeCells z.cells (n * K)).toList → Below w.heap.size w w' → Kn (a.put o.dst (.slice (some ⟨w.heap.size, 0, none⟩) n n)) w') : Oper.wp P o a w Kn Q := by
  obtain ⟨i, hi, hz, h4, h5⟩ := E.info
  subst h5
  obtain ⟨w', hrun, r1, r2⟩ := run_make_full (P := P) w w.heap.size t e i z K E.und hi hz h4 .i64 .i64 n b2 b3 (Nat.le_refl _)
  unfold Oper.wp
  simp [execOp, hop, hl, hc, hrun, Result.andThen]
  exact h w' r1 ⟨r2.os, r2.tape, r2.output, r2.size, fun k hk => r2.block k hk (by simp)⟩
end
theorem E_nodeT : ElemK Tryz.prog 22 36 (.agg #[.int .i64 0, .int .i64 0, .slice none 0 0, .slice none 0 0, .string ⟨#[]⟩, .string ⟨#[]⟩, .slice none 0 0, .int .i64 0]) 8 128 := elemK_of Tryz.underlying22 (by kernel_rfl) rfl (by decide)
theorem copied_h (p : PT) (vo : Option Addr) (vc : Nat) (ko : Option Addr) (kc : Nat) (B : Nat) (w : World) (hP : Hid (PtIs B w p vo vc ko kc)) (hB : Hid (B ≤ w.heap.size)) (hs : Hid (SmP 4000 p)) :
    Calls Tryz.prog 69 #[.agg #[.int .i64 p.op, .int .i64 p.fld, .slice vo p.vals.length vc, .slice ko p.kids.length kc]] w (CpPost p w) := copied_any p vo vc ko kc B w hP.out hB hs
/-- The body's own while nodes are numbered. -/
def OdI (pn p7 N : Nat) (pre : List (Nat × Nat)) (S : Nat → Prop) (W : World) : Prop := (S = fun k => k = pn ∨ k = p7) ∧ BoxL W pn (icel (numL N pre)) ∧ BoxL W p7 [.int .i64 ((pre.length : Nat) : Int)]
theorem OdI.oth {pn p7 N : Nat} {pre : List (Nat × Nat)} {S : Nat → Prop} {W W' : World} {D : Nat} (h : OdI pn p7 N pre S W) (ho : Oth D S W W') : OdI pn p7 N pre S W' := by
  obtain ⟨rfl, i1, i3⟩ := h
  exact ⟨rfl, i1.block (ho.same _ i1.lt (.inr (.inl rfl))), i3.block (ho.same _ i3.lt (.inr (.inr rfl)))⟩
theorem Keep.below_to {S : Nat → Prop} {a b c : World} (h : Keep S a b) (h' : Below a.heap.size b c) : Keep S a c := ⟨h'.os.trans h.os, h'.tape.trans h.tape, h'.output.trans h.output, Nat.le_trans h.size h'.size, fun k hk hs => (h'.block k hk).trans (h.same k hk hs)⟩
abbrev World.size9 (w : World) : Nat := w.heap.size
/-- No panic may come. -/
def NoPan (Q : Exit → Act → World → Prop) : Exit → Act → World → Prop
  | .panic _, _, _ => False
  | e, a, w => Q e a w
theorem NoPan.out {Q : Exit → Act → World → Prop} {e : Exit} {a : Act} {w : World} (h : NoPan Q e a w) : Q e a w := by cases e <;> first | exact h | exact h.elim
theorem NoPan.normal {Q : Exit → Act → World → Prop} {a : Act} {w : World} (h : Q .normal a w) : NoPan Q .normal a w := h
theorem wp_noPan {P : Program} {c : Code} {Q : Exit → Act → World → Prop} {a : Act} {w : World} (h : c.wp P (NoPan Q) a w) : c.wp P Q a w := Code.wp_mono (fun _ _ _ h => h.out) h
/-- What stays while nodes are numbered and laid. -/
def OdC (p1 p2 p6 pn N : Nat) (t : TR) (no : Option Addr) (nc B : Nat) (w W : World) : Prop := BoxL W p1 [.slice no t.nodes.length nc, .int .i64 t.ms, .int .i64 t.nt] ∧ BoxL W p2 [.slice none 0 0, .int .i64 0, .int .i64 0] ∧ BoxL W p6 [.slice (some ⟨pn, 0, none⟩) N N] ∧ Hid (TrIs B W t no nc) ∧ Below w.heap.size w W ∧ B ≤ W.heap.size
theorem OdC.oth {p1 p2 p6 pn N : Nat} {t : TR} {no : Option Addr} {nc B : Nat} {w W W' : World} {D : Nat} {S : Nat → Prop} (h : OdC p1 p2 p6 pn N t no nc B w W) (ho : Oth D S W W') (hw : w.heap.size ≤ D) (hB : B ≤ D) (hp : p1 < D ∧ p2 < D ∧ p6 < D) : OdC p1 p2 p6 pn N t no nc B w W' := by
  obtain ⟨c1, c2, c6, cT, cb, cB⟩ := h
  refine ⟨c1.block (ho.same _ c1.lt (.inl hp.1)), c2.block (ho.same _ c2.lt (.inl hp.2.1)), c6.block (ho.same _ c6.lt (.inl hp.2.2)), Lib.hid (cT.out.low fun k hk => ho.same k (by omega) (.inl (by omega))), ?_, Nat.le_trans cB ho.size⟩
  exact cb.trans ⟨ho.os, ho.tape, ho.output, ho.size, fun k hk => ho.same k (Nat.lt_of_lt_of_le hk cb.size) (.inl (by omega))⟩
theorem OdC.keep {p1 p2 p6 pn N : Nat} {t : TR} {no : Option Addr} {nc B : Nat} {w W W' : World} {S : Nat → Prop} (h : OdC p1 p2 p6 pn N t no nc B w W) (hk : Keep S W W') (hw : ∀ k, S k → w.heap.size ≤ k ∧ B ≤ k ∧ k ≠ p1 ∧ k ≠ p2 ∧ k ≠ p6) : OdC p1 p2 p6 pn N t no nc B w W' := by
  obtain ⟨c1, c2, c6, cT, cb, cB⟩ := h
  refine ⟨c1.keep hk (fun h => (hw _ h).2.2.1 rfl), c2.keep hk (fun h => (hw _ h).2.2.2.1 rfl), c6.keep hk (fun h => (hw _ h).2.2.2.2 rfl), Lib.hid (cT.out.low fun k hk2 => hk.same k (by omega) (fun h => by have := (hw _ h).2.1; omega)), ?_, Nat.le_trans cB hk.size⟩
  exact cb.trans (hk.below (fun k h => (hw k h).1) cb.size)
theorem OdC.kept {p1 p2 p6 pn N : Nat} {t : TR} {no : Option Addr} {nc B : Nat} {w W W' : World} (h : OdC p1 p2 p6 pn N t no nc B w W) (hb : Below W.heap.size W W') : OdC p1 p2 p6 pn N t no nc B w W' :=
  h.keep (S := fun _ => False) (Keep.of_below hb) (fun k h => h.elim)
end Go.Proofs.YtlmjkbdodecbmaaGreatDoor
