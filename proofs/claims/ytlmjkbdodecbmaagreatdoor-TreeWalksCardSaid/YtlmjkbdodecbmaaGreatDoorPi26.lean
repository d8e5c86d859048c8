/-
  Pi26: TreH TreI TreJ (what is needed of them).
-/
import Derived.Test.YtlmjkbdodecbmaaGreatDoorPi25

namespace Go.Proofs.YtlmjkbdodecbmaaGreatDoor
open Go.RowKit
set_option linter.unusedVariables false
set_option linter.unusedSimpArgs false
attribute [local go_sem] field_nat
/-- A row of values that lies between two bounds. -/
structure ValsQ (lo hi : Nat) (w : World) (vo : Option Addr) (vc : Nat) (vs : List V3) : Prop where
  v : Vals w vo vs
  cap : vs.length ≤ vc ∧ vc ≤ maxLen
  len : ∀ v ∈ vs, v.n.length ≤ 9223372036854775807 ∧ v.c.length ≤ 9223372036854775807
  lo : vs ≠ [] → ∃ b off, vo = some ⟨b, off, none⟩ ∧ lo ≤ b ∧ b < hi
  no : vo = none → vc = 0
/-- Between two bounds all is as it was. -/
def Mid (lo hi : Nat) (w w' : World) : Prop := ∀ k, lo ≤ k → k < hi → w'.heap[k]? = w.heap[k]?
theorem Mid.cell {lo hi : Nat} {w w' : World} (h : Mid lo hi w w') {b i : Nat} (h1 : lo ≤ b) (h2 : b < hi) : w'.cell? ⟨b, i, none⟩ = w.cell? ⟨b, i, none⟩ := World.cell?_of_block (a := ⟨b, i, none⟩) (h b h1 h2)
theorem Mid.of_below {lo hi D : Nat} {w w' : World} (h : Below D w w') (hD : hi ≤ D) : Mid lo hi w w' := fun k _ hk => h.block k (by omega)
theorem ValsQ.mid {lo hi : Nat} {w w' : World} {vo : Option Addr} {vc : Nat} {vs : List V3} (h : ValsQ lo hi w vo vc vs) (hl : Mid lo hi w w') : ValsQ lo hi w' vo vc vs := by
  refine ⟨fun i v hi => ?_, h.cap, h.len, h.lo, h.no⟩
  obtain ⟨b, off, e, c0, c1, c2⟩ := h.v i v hi
  obtain ⟨b2, off2, e2, h1, h2⟩ := h.lo (fun e => by rw [e] at hi; simp at hi)
  rw [e] at e2
  cases e2
  exact ⟨b, off, e, ⟨(hl.cell h1 h2).trans c0.cell⟩, ⟨(hl.cell h1 h2).trans c1.cell⟩, ⟨(hl.cell h1 h2).trans c2.cell⟩⟩
theorem ValsQ.widen {lo hi lo' hi' : Nat} {w : World} {vo : Option Addr} {vc : Nat} {vs : List V3} (h : ValsQ lo hi w vo vc vs) (h1 : lo' ≤ lo) (h2 : hi ≤ hi') : ValsQ lo' hi' w vo vc vs :=
  ⟨h.v, h.cap, h.len, fun hn => by obtain ⟨b, off, e, h3, h4⟩ := h.lo hn; exact ⟨b, off, e, by omega, by omega⟩, h.no⟩
theorem ValsQ.toB {lo hi : Nat} {w : World} {vo : Option Addr} {vc : Nat} {vs : List V3} (h : ValsQ lo hi w vo vc vs) : ValsB hi w vo vc vs :=
  ⟨h.v, h.cap, h.len, fun hn => by obtain ⟨b, off, e, h3, h4⟩ := h.lo hn; exact ⟨b, off, e, h4⟩, h.no⟩
/-- A predicate in memory: all it holds lies between two bounds. -/
inductive PQs (lo hi : Nat) (w : World) : PT → List Value → Prop
  | mk {op fld : Int} {vs : List V3} {ks : List PT} {vo : Option Addr} {vc : Nat} {ko : Option Addr} {kc : Nat} (cf : Nat → List Value) (hv : ValsQ lo hi w vo vc vs) (hkc : ks.length ≤ kc ∧ kc ≤ maxLen) (hno : ko = none → kc = 0)
      (ha : ks = [] ∨ ∃ b off, ko = some ⟨b, off, none⟩ ∧ lo ≤ b ∧ b < hi ∧ ∀ i, i < ks.length → ∀ j c, (cf i)[j]? = some c → w.cell? ⟨b, off + i * 4 + j, none⟩ = some c)
      (hk : ∀ i k, ks[i]? = some k → PQs lo hi w k (cf i)) : PQs lo hi w (.mk op fld vs ks) (pcs op fld vo vs.length vc ko ks.length kc)
theorem PQs.mid {lo hi : Nat} {w w' : World} (hl : Mid lo hi w w') {p : PT} {cs : List Value} (h : PQs lo hi w p cs) : PQs lo hi w' p cs := by
  induction h with
  | mk cf hv hkc hno ha hk ih =>
    refine .mk cf (hv.mid hl) hkc hno ?_ ih
    rcases ha with ha | ⟨b, off, h1, h2, h3, h4⟩
    · exact .inl ha
    · exact .inr ⟨b, off, h1, h2, h3, fun i hi j c hj => (hl.cell h2 h3).trans (h4 i hi j c hj)⟩
theorem PQs.widen {lo hi lo' hi' : Nat} {w : World} (h1 : lo' ≤ lo) (h2 : hi ≤ hi') {p : PT} {cs : List Value} (h : PQs lo hi w p cs) : PQs lo' hi' w p cs := by
  induction h with
  | mk cf hv hkc hno ha hk ih =>
    refine .mk cf (hv.widen h1 h2) hkc hno ?_ ih
    rcases ha with ha | ⟨b, off, h3, h4, h5, h6⟩
    · exact .inl ha
    · exact .inr ⟨b, off, h3, by omega, by omega, h6⟩
theorem PQs.toP {lo hi : Nat} {w : World} {p : PT} {cs : List Value} (h : PQs lo hi w p cs) : PIs hi w p cs := by
  induction h with
  | mk cf hv hkc hno ha hk ih =>
    refine .mk cf hv.toB hkc hno ?_ ih
    rcases ha with ha | ⟨b, off, h3, h4, h5, h6⟩
    · exact .inl ha
    · exact .inr ⟨b, off, h3, h5, h6⟩
/-- A predicate of its own, by its letters. -/
def PQt (lo hi : Nat) (w : World) (p : PT) (vo : Option Addr) (vc : Nat) (ko : Option Addr) (kc : Nat) : Prop := PQs lo hi w p (pcs p.op p.fld vo p.vals.length vc ko p.kids.length kc)
theorem PQt.mid {lo hi : Nat} {w w' : World} {p : PT} {vo : Option Addr} {vc : Nat} {ko : Option Addr} {kc : Nat} (h : PQt lo hi w p vo vc ko kc) (hl : Mid lo hi w w') : PQt lo hi w' p vo vc ko kc := PQs.mid hl h
theorem PQt.widen {lo hi lo' hi' : Nat} {w : World} {p : PT} {vo : Option Addr} {vc : Nat} {ko : Option Addr} {kc : Nat} (h : PQt lo hi w p vo vc ko kc) (h1 : lo' ≤ lo) (h2 : hi ≤ hi') : PQt lo' hi' w p vo vc ko kc := PQs.widen h1 h2 h
theorem PQt.toP {lo hi : Nat} {w : World} {p : PT} {vo : Option Addr} {vc : Nat} {ko : Option Addr} {kc : Nat} (h : PQt lo hi w p vo vc ko kc) : PtIs hi w p vo vc ko kc := PQs.toP h
/-- Predicates in a row, each in blocks of its own, none of them in G. -/
def RowQ (D hi : Nat) (G : Nat → Prop) (w : World) : List PT → List Value → Prop
  | [], xs => xs = []
  | p :: ps, xs => ∃ (a b : Nat) (vo : Option Addr) (vc : Nat) (ko : Option Addr) (kc : Nat) (r : List Value), D ≤ a ∧ b ≤ hi ∧ (∀ g, G g → ¬ (a ≤ g ∧ g < b)) ∧ PQt a b w p vo vc ko kc ∧ RowQ D hi G w ps r ∧ xs = pcs p.op p.fld vo p.vals.length vc ko p.kids.length kc ++ r
theorem RowQ.go {D hi hi' : Nat} {G G' : Nat → Prop} {w w' : World} (h1 : hi ≤ hi') (h2 : ∀ g, G' g → G g ∨ hi ≤ g) (h3 : ∀ k, D ≤ k → k < hi → ¬ G k → w'.heap[k]? = w.heap[k]?) : ∀ {ps : List PT} {xs : List Value}, RowQ D hi G w ps xs → RowQ D hi' G' w' ps xs := by
  intro ps
  induction ps with
  | nil => intro xs h; exact h
  | cons p ps ih =>
    rintro xs ⟨a, b, vo, vc, ko, kc, r, q1, q2, q3, q4, q5, q6⟩
    refine ⟨a, b, vo, vc, ko, kc, r, q1, by omega, fun g hg hab => ?_, q4.mid (fun k ha hb => h3 k (by omega) (by omega) (fun hG => q3 k hG ⟨ha, hb⟩)), ih q5, q6⟩
    rcases h2 g hg with h | h
    · exact q3 g h hab
    · omega
theorem RowQ.snoc {D hi : Nat} {G : Nat → Prop} {w : World} {p : PT} {a b : Nat} {vo : Option Addr} {vc : Nat} {ko : Option Addr} {kc : Nat} (h1 : D ≤ a) (h2 : b ≤ hi) (h3 : ∀ g, G g → ¬ (a ≤ g ∧ g < b)) (h4 : PQt a b w p vo vc ko kc) : ∀ {ps : List PT} {xs : List Value}, RowQ D hi G w ps xs → RowQ D hi G w (ps ++ [p]) (xs ++ pcs p.op p.fld vo p.vals.length vc ko p.kids.length kc) := by
  intro ps
  induction ps with
  | nil =>
    intro xs h
    have h9 : xs = [] := h
    subst h9
    exact ⟨a, b, vo, vc, ko, kc, [], h1, h2, h3, h4, rfl, by simp⟩
  | cons q ps ih =>
    rintro xs ⟨a', b', vo', vc', ko', kc', r, q1, q2, q3, q4, q5, q6⟩
    exact ⟨a', b', vo', vc', ko', kc', _, q1, q2, q3, q4, ih q5, by rw [q6, List.append_assoc]⟩
theorem RowQ.len {D hi : Nat} {G : Nat → Prop} {w : World} : ∀ {ps : List PT} {xs : List Value}, RowQ D hi G w ps xs → xs.length = ps.length * 4 := by
  intro ps
  induction ps with
  | nil => intro xs h; rw [show xs = [] from h]; rfl
  | cons p ps ih =>
    rintro xs ⟨a, b, vo, vc, ko, kc, r, q1, q2, q3, q4, q5, rfl⟩
    rw [List.length_append, ih q5, List.length_cons]
    simp [pcs]
    omega
theorem RowQ.cells {D hi : Nat} {G : Nat → Prop} {w : World} : ∀ {ps : List PT} {xs : List Value}, RowQ D hi G w ps xs → ∃ cf : Nat → List Value, (∀ i, i < ps.length → ∀ (j : Nat) (c : Value), (cf i)[j]? = some c → xs[i * 4 + j]? = some c) ∧ ∀ i k, ps[i]? = some k → PQs D hi w k (cf i) := by
  intro ps
  induction ps with
  | nil => intro xs h; exact ⟨fun _ => [], fun i hi => absurd hi (Nat.not_lt_zero _), fun i k hk => by simp at hk⟩
  | cons p ps ih =>
    rintro xs ⟨a, b, vo, vc, ko, kc, r, q1, q2, q3, q4, q5, rfl⟩
    obtain ⟨cf, c1, c2⟩ := ih q5
    refine ⟨fun i => match i with | 0 => pcs p.op p.fld vo p.vals.length vc ko p.kids.length kc | i + 1 => cf i, fun i hi j c hj => ?_, fun i k hk => ?_⟩
    · cases i with
      | zero =>
        have hj9 : (pcs p.op p.fld vo p.vals.length vc ko p.kids.length kc)[j]? = some c := hj
        rw [Nat.zero_mul, Nat.zero_add, List.getElem?_append_left (List.getElem?_eq_some_iff.1 hj9).1]
        exact hj9
      | succ i =>
        have hj9 : (cf i)[j]? = some c := hj
        have h4 : (pcs p.op p.fld vo p.vals.length vc ko p.kids.length kc).length = 4 := rfl
        rw [List.getElem?_append_right (by rw [h4]; omega), h4, show (i + 1) * 4 + j - 4 = i * 4 + j by omega]
        exact c1 i (by simpa using hi) j c hj9
    · cases i with
      | zero => simp at hk; subst hk; exact PQs.widen q1 q2 q4
      | succ i => simp at hk; exact c2 i k hk
theorem vcells_one (vs : List V3) : ∀ u ∈ vcells vs, u.oneCell' = true := by
  intro u hu
  unfold vcells at hu
  obtain ⟨v, _, hv⟩ := List.mem_flatMap.1 hu
  simp at hv
  rcases hv with rfl | rfl | rfl <;> rfl
set_option maxRecDepth 100000 in
set_option maxHeartbeats 2000000 in
/-- Clone, of values. -/
theorem cloneV_any (vo : Option Addr) (vc : Nat) (vs : List V3) (B : Nat) (w : World) (hV : ValsB B w vo vc vs) (hBw : B ≤ w.heap.size) (hl : vs.length ≤ 4000) :
    Calls Tryz.prog 95 #[.slice vo vs.length vc] w fun e w' => (∃ uo uc, e = .returned (.slice uo vs.length uc) ∧ ValsQ w.heap.size w'.heap.size w' uo uc vs) ∧ Below w.heap.size w w' := by
  have hbf : Below w.heap.size w w := Below.refl _ _
  have hnil := fun (W : World) a n c => Lib.run_eql_slice_nil (P := Tryz.prog) W 31 65 a n c 0 0 Tryz.underlying31
  cases hvo : vo with
  | none =>
    have hc := hV.no hvo
    have h0 := hV.cap.1
    have hn : vs = [] := List.eq_nil_of_length_eq_zero (by omega)
    subst hn hc hvo
    go_enter Tryz.func95, Tryz.ntmps95
    go_wp2_with fail
    go_ret
    exact ⟨⟨none, 0, ret_one rfl, ⟨fun i v hi => by simp at hi, ⟨Nat.le_refl _, Nat.zero_le _⟩, by simp, fun h => absurd rfl h, fun _ => rfl⟩⟩, hbf⟩
  | some ad =>
    subst hvo
    obtain ⟨w1, hw1⟩ : ∃ W, W = w.alloc (.cells #[] 65) := ⟨_, rfl⟩
    have hb1 : Below w.heap.size w w1 := by rw [hw1]; exact (Below.refl _ _).alloc (Nat.le_refl _) _
    have hO1 : OwnsK 3 w.heap.size 65 w1 (.slice (some ⟨w.heap.size, 0, none⟩) 0 0) 0 [] := by
      rw [hw1]
      exact ⟨rfl, .inr ⟨w.heap.size, 0, #[], rfl, Nat.le_refl _, heap_alloc_new w _, Nat.le_refl _, by decide, rfl, rfl⟩⟩
    have hvc : ∀ (j : Nat) (u : Value), (vcells vs)[j]? = some u → w1.cell? (ad.add j) = some u := fun j u hj => by
      have hjl : j < vs.length * 3 := by rw [← vcells_len]; exact (List.getElem?_eq_some_iff.1 hj).1
      obtain ⟨v, hv⟩ : ∃ v, vs[j / 3]? = some v := ⟨_, List.getElem?_eq_getElem (by omega)⟩
      obtain ⟨b, off, e, c0, c1, c2⟩ := (hV.v.below hb1) (j / 3) v hv
      cases e
      obtain ⟨g0, g1, g2⟩ := vcells_get vs (j / 3) v hv
      rw [Addr.add_lit]
      have h3 : j % 3 = 0 ∨ j % 3 = 1 ∨ j % 3 = 2 := by omega
      rcases h3 with h | h | h
      · rw [show j = j / 3 * 3 by omega] at hj ⊢
        rw [g0] at hj; cases hj
        exact c0.cell
      · rw [show j = j / 3 * 3 + 1 by omega] at hj ⊢
        rw [g1] at hj; cases hj
        have := c1.cell
        rw [Nat.add_assoc] at this
        exact this
      · rw [show j = j / 3 * 3 + 2 by omega] at hj ⊢
        rw [g2] at hj; cases hj
        have := c2.cell
        rw [Nat.add_assoc] at this
        exact this
    have HVC := Lib.hid hvc
    have HW := Lib.hid hw1
    have HV := Lib.hid hV
    clear hvc hw1 hV
    go_enter Tryz.func95, Tryz.ntmps95
    go_wp2_with (at_builtin; rw [← HW.out]; refine wpList_plain rfl (fun K' hK' => ?_); refine step_appendT E_val (news := vcells vs) hO1 rfl rfl rfl (vcells_len vs) (.inr ⟨ad, rfl, HVC.out⟩) (vcells_one vs) (by omega) (by unfold maxLen; omega) hb1.size ?_; intro v2 w2 hO2 hg2 hn2; refine hK' _ _ ?_)
    rw [Nat.zero_add, List.nil_append] at hO2
    have hlt := hO2.lt
    obtain ⟨uo, uc, rfl, -, hVu, hc1, hc2, hno⟩ := hO2.vals
    have hb2 : Below w.heap.size w w2 := hb1.trans ⟨hg2.os, hg2.tape, hg2.output, hg2.size, fun k hk => hg2.block k (Nat.lt_of_lt_of_le hk hb1.size) (by intro e; simp [Value.ownBlock] at e; omega)⟩
    have HR : Hid (ValsQ w.heap.size w2.heap.size w2 uo uc vs) := Lib.hid ⟨hVu, ⟨hc1, hc2⟩, HV.out.len, fun hn => by
      obtain ⟨v, hv⟩ : ∃ v, vs[0]? = some v := ⟨_, List.getElem?_eq_getElem (List.length_pos_iff.2 hn)⟩
      obtain ⟨b, off, e, _⟩ := hVu 0 v hv
      subst e
      have := hlt b rfl
      exact ⟨b, off, rfl, this.1, this.2⟩, hno⟩
    clear hlt hVu hc1 hc2 hno hO2 hn2 hg2
    go_wp2_with fail
    go_ret
    exact ⟨⟨uo, uc, ret_one rfl, HR.out⟩, hb2⟩
end Go.Proofs.YtlmjkbdodecbmaaGreatDoor

namespace Go.Proofs.YtlmjkbdodecbmaaGreatDoor
open Go.RowKit
set_option linter.unusedVariables false
set_option linter.unusedSimpArgs false
attribute [local go_sem] field_nat
theorem E_predT : ElemK Tryz.prog 32 34 (.agg #[.int .i64 0, .int .i64 0, .slice none 0 0, .slice none 0 0]) 4 64 := elemK_of Tryz.underlying32 (by kernel_rfl) rfl (by decide)
theorem load_p4 {w : World} {b : Nat} {x y z u : Value} (h0 : w.cell? ⟨b, 0, none⟩ = some x) (h1 : w.cell? ⟨b, 1, none⟩ = some y) (h2 : w.cell? ⟨b, 2, none⟩ = some z) (h3 : w.cell? ⟨b, 3, none⟩ = some u) : (loadVar 34 ⟨b, 0, none⟩).run Tryz.prog w = .ok (.agg #[x, y, z, u]) w := by
  simp [go_sem, h0, h1, h2, h3]
/-- The end of a function whose one result is a predicate. -/
theorem ret_p4 {fn : Func} {s : Nat} {R : Ending → World → Prop} {a : Act} {w : World} {b : Nat} {x y z u : Value} (hres : fn.results = #[.cell s 34]) (hp : a.tmps.getD s undef = .pointer (some ⟨b, 0, none⟩)) (hb : BoxL w b [x, y, z, u]) (hd : a.defers = []) (hR : R (.returned (.agg #[x, y, z, u])) w) : bodyPost Tryz.prog fn R .ret a w := by
  refine bodyPost_ret (v := .agg #[x, y, z, u]) ?_ hd hR
  have hp' : a.tmps[s]?.getD undef = .pointer (some ⟨b, 0, none⟩) := by simpa using hp
  simp only [results, hres]
  simp [Sem.run_bind, Sem.run_pure, Result.andThen, hp', asAddr, load_p4 (hb.cell 0 _ rfl) (hb.cell 1 _ rfl) (hb.cell 2 _ rfl) (hb.cell 3 _ rfl)]
/-- What copied answers. -/
def CpPost (p : PT) (w : World) (e : Ending) (w' : World) : Prop := ∃ (uo : Option Addr) (uc : Nat) (lo : Option Addr) (lc : Nat), e = .returned (.agg #[.int .i64 p.op, .int .i64 p.fld, .slice uo p.vals.length uc, .slice lo p.kids.length lc]) ∧ PQt w.heap.size w'.heap.size w' p uo uc lo lc ∧ Below w.heap.size w w'
theorem boxP2 (w : World) (op fld : Int) (vo : Option Addr) (vl vc : Nat) (ko : Option Addr) (kl kc : Nat) : ∃ w0, w0 = (w.alloc (.cells #[.int .i64 op, .int .i64 fld, .slice vo vl vc, .slice ko kl kc] 34)).alloc (.cells #[.int .i64 0, .int .i64 0, .slice none 0 0, .slice none 0 0] 34) ∧ Below w.heap.size w w0 ∧ ∃ p q, p = w.heap.size ∧ q = w.heap.size + 1 ∧ BoxL w0 p [.int .i64 op, .int .i64 fld, .slice vo vl vc, .slice ko kl kc] ∧ BoxL w0 q [.int .i64 0, .int .i64 0, .slice none 0 0, .slice none 0 0] ∧ w0.heap.size = w.heap.size + 2 :=
  ⟨_, rfl, ((Below.refl _ w).alloc (Nat.le_refl _) _).alloc (by simp <;> omega) _, _, _, rfl, rfl, (BoxL.new w _ _).kept ((Below.refl _ _).alloc (Nat.le_refl _) _), by
    have := BoxL.new (w.alloc (.cells #[.int .i64 op, .int .i64 fld, .slice vo vl vc, .slice ko kl kc] 34)) [.int .i64 0, .int .i64 0, .slice none 0 0, .slice none 0 0] 34
    simpa using this, by simp⟩
set_option maxRecDepth 100000 in
set_option maxHeartbeats 8000000 in
/-- copied. -/
theorem copied_any (p : PT) : ∀ (vo : Option Addr) (vc : Nat) (ko : Option Addr) (kc : Nat) (B : Nat) (w : World), PtIs B w p vo vc ko kc → Hid (B ≤ w.heap.size) → Hid (SmP 4000 p) →
    Calls Tryz.prog 69 #[.agg #[.int .i64 p.op, .int .i64 p.fld, .slice vo p.vals.length vc, .slice ko p.kids.length kc]] w (CpPost p w) := by
  induction p using PT.ind with
  | h op fld vs ks ih =>
  intro vo vc ko kc B w hP HBS HSM
  show Calls Tryz.prog 69 #[.agg #[.int .i64 op, .int .i64 fld, .slice vo vs.length vc, .slice ko ks.length kc]] w (CpPost (.mk op fld vs ks) w)
  have HIH := Lib.hid ih
  have HSK : Hid (∀ k ∈ ks, SmP 4000 k) := Lib.hid HSM.out.out.2.2.2
  have hvl : vs.length ≤ 4000 := HSM.out.out.1
  have hkl : ks.length ≤ 4000 := HSM.out.out.2.1
  obtain ⟨w0, hw0, hbf, p1, p2, hp1, hp2, hb1, hb2, hz0⟩ := boxP2 w op fld vo vs.length vc ko ks.length kc
  replace hP := hP.low (Low.of_below hbf HBS.out)
  have hBw0 : B ≤ w0.heap.size := Nat.le_trans HBS.out hbf.size
  have HV := Lib.hid hP.vals
  have HW := Lib.hid hw0
  have HP1 : Hid (w.heap.size ≤ p1 ∧ p1 < p2 ∧ p2 < w0.heap.size ∧ B ≤ p1) := Lib.hid (by have := HBS.out; omega)
  have H1 := Lib.hid hp1
  have H2 := Lib.hid hp2
  clear ih hw0 hp1 hp2 hz0 HSM
  go_enter Tryz.func69, Tryz.ntmps69
  go_upto_region 1 with fail
  rw [← HW.out, ← H2.out, ← H1.out]
  clear HW H1 H2
  have e2 := hb1.cell 2 _ rfl
  have f2 := hb1.free 2 (by simp)
  go_wp2_with fail
  (with_reducible refine (cloneV_any vo vc vs B _ HV.out hBw0 hvl).mono ?_)
  rintro e w1 ⟨⟨uo, uc, rfl, hU⟩, hb⟩
  replace hP := hP.low (Low.of_below hb hBw0)
  replace hbf := hbf.trans (hb.mono hbf.size)
  replace hb1 := hb1.kept hb
  replace hb2 := hb2.kept hb
  have HS1 : Hid (w0.heap.size ≤ w1.heap.size) := Lib.hid hb.size
  clear e2 f2 HV hb
  have e2 := hb1.cell 2 _ rfl
  have f2 := hb1.free 2 (by simp)
  obtain ⟨w2, hw2⟩ : ∃ W, W = w1.setCell ⟨p1, 2, none⟩ (.slice uo vs.length uc) := ⟨_, rfl⟩
  have hk2 : ∀ k, k ≠ p1 → w2.heap[k]? = w1.heap[k]? := fun k hk => by rw [hw2]; exact heap_set_ne hk
  have hs2 : w2.heap.size = w1.heap.size := by rw [hw2]; simp [World.setCell]
  have hc1 : BoxL w2 p1 [.int .i64 op, .int .i64 fld, .slice uo vs.length uc, .slice ko ks.length kc] := by rw [hw2]; exact hb1.set 2 _ (by simp)
  have hc2 : BoxL w2 p2 [.int .i64 0, .int .i64 0, .slice none 0 0, .slice none 0 0] := hb2.block (hk2 p2 (by have := HP1.out; omega))
  have hbf2 : Below w.heap.size w w2 := by rw [hw2]; exact hbf.setCell (p := ⟨p1, 2, none⟩) HP1.out.1 _
  have hP2 := hP.low (w' := w2) (fun k hk => hk2 k (by have := HP1.out; omega))
  have hU2 := hU.mid (w' := w2) (fun k h1 h2 => hk2 k (by have := HP1.out; omega))
  obtain ⟨D, hD⟩ : ∃ D, D = w1.heap.size := ⟨_, rfl⟩
  rw [← hD] at hs2 hU2
  have HW := Lib.hid hw2
  have HD : Hid (w0.heap.size ≤ D ∧ D ≤ w2.heap.size ∧ p1 < D ∧ p2 < D ∧ w.heap.size ≤ D ∧ B ≤ D) := Lib.hid (by have := HP1.out; have := HS1.out; omega)
  clear hP hU hb1 hb2 hw2 hk2 hD hs2 hbf HS1
  have e3 := hc1.cell 3 _ rfl
  go_upto_region 3 with fail
  rw [← HW.out]
  clear e2 f2 HW
  go_wp2_with fail
  clear e3
  go_loopg [3, 13] ks.length (fun gg ov iv wr => ∃ (i : Nat) (oo : Option Addr) (on oc : Nat) (xs : List Value), i + gg = ks.length ∧ ov = .slice oo on oc ∧ iv = .int .i64 (i : Int) ∧ OwnsK 4 D 34 wr (.slice oo on oc) i xs ∧ Hid (RowQ D wr.heap.size (fun k => (Value.slice oo on oc).ownBlock = some k) wr (ks.take i) xs) ∧ BoxL wr p1 [.int .i64 op, .int .i64 fld, .slice uo vs.length uc, .slice ko ks.length kc] ∧ BoxL wr p2 [.int .i64 0, .int .i64 0, .slice none 0 0, .slice none 0 0] ∧ Hid (ValsQ w0.heap.size D wr uo uc vs) ∧ PtIs B wr (.mk op fld vs ks) vo vc ko kc ∧ Below w.heap.size w wr ∧ D ≤ wr.heap.size)
  case atStart => exact ⟨0, none, 0, 0, [], by omega, rfl, rfl, OwnsK.nil _ _ _ _, Lib.hid rfl, hc1, hc2, Lib.hid hU2, hP2, hbf2, HD.out.2.1⟩
  clear hc1 hc2 hU2 hP2 hbf2
  case round =>
    obtain ⟨i, oo, on, oc, xs, hi, rfl, rfl, hO, HR, hc1, hc2, HU, hP, hbf, hDw⟩ := hrel
    by_cases hil : i < ks.length
    case pos =>
      have hii : ((i : Nat) : Int) < ((ks.length : Nat) : Int) := by omega
      have hqi : (0 : Int) ≤ (i : Int) := by omega
      obtain ⟨k, hk9⟩ : ∃ k, ks[i]? = some k := ⟨_, List.getElem?_eq_getElem hil⟩
      have hmem := List.mem_of_getElem? hk9
      have HT : Hid (ks.take (i + 1) = ks.take i ++ [k]) := Lib.hid (by rw [List.take_add_one, hk9]; rfl)
      obtain ⟨g, off, hko, hgB, kvo, kvc, kko, kkc, hX, hA⟩ := hP.kid (k := k) hk9
      obtain ⟨a0, a1, a2, a3⟩ := hA
      have HCK := HIH.out k hmem kvo kvc kko kkc B
      have HSM9 : Hid (SmP 4000 k) := Lib.hid (HSK.out k hmem)
      obtain ⟨w3, hwE, hb3, hz3, pv, hpE, hbv⟩ := boxP wr k.op k.fld kvo k.vals.length kvc kko k.kids.length kkc
      have HW := Lib.hid hwE
      clear hwE hk9 hmem hz3
      rw [hko]
      go_upto_region 6 with fail
      rw [← HW.out, ← hpE]
      clear HW hpE a0 a1 a2 a3
      have hBr : B ≤ wr.heap.size := by have := HD.out; omega
      have hX3 := hX.low (Low.of_below hb3 hBr)
      replace hP := hP.low (Low.of_below hb3 hBr)
      replace hO := hO.kept hb3
      replace HR := Lib.hid (HR.out.go (hi' := w3.heap.size) (w' := w3) (G' := (fun k => (Value.slice oo on oc).ownBlock = some k)) hb3.size (fun g h => .inl h) (fun k _ hk _ => hb3.block k hk))
      replace hc1 := hc1.kept hb3
      replace hc2 := hc2.kept hb3
      replace HU := Lib.hid (HU.out.mid (w' := w3) (Mid.of_below hb3 hDw))
      replace hbf := hbf.trans (hb3.mono hbf.size)
      replace hDw := Nat.le_trans hDw hb3.size
      have HBw3 : Hid (B ≤ w3.heap.size) := Lib.hid (Nat.le_trans hBr hb3.size)
      have v0 := hbv.cell 0 _ rfl
      have v1 := hbv.cell 1 _ rfl
      have v2 := hbv.cell 2 _ rfl
      have v3 := hbv.cell 3 _ rfl
      have hcall := HCK w3 hX3 HBw3 HSM9
      clear hb3 hbv hX hX3 HCK HSM9
      go_wp2_with fail
      (with_reducible refine hcall.mono ?_)
      rintro e w4 ⟨xo, xc, yo, yc, rfl, hQ, hb⟩
      clear hcall v0 v1 v2 v3
      have hBr : B ≤ w3.heap.size := HBw3.out
      replace hP := hP.low (Low.of_below hb hBr)
      have HLT := Lib.hid hO.lt
      replace hO := hO.kept hb
      replace HR := Lib.hid (HR.out.go (hi' := w4.heap.size) (w' := w4) (G' := (fun k => (Value.slice oo on oc).ownBlock = some k)) hb.size (fun g h => .inl h) (fun k _ hk _ => hb.block k hk))
      replace HR := Lib.hid (HR.out.snoc hDw (Nat.le_refl _) (fun g hg hab => by
        have h9 : (Value.slice oo on oc).ownBlock = some g := hg
        have := HLT.out g h9
        omega) hQ)
      replace hc1 := hc1.kept hb
      replace hc2 := hc2.kept hb
      replace HU := Lib.hid (HU.out.mid (w' := w4) (Mid.of_below hb hDw))
      replace hbf := hbf.trans (hb.mono hbf.size)
      replace hDw := Nat.le_trans hDw hb.size
      clear hb hQ HLT
      go_wp2_with (at_builtin; refine append1KO E_predT hO rfl rfl rfl rfl rfl (by simp [Value.oneCell']) (by omega) (by unfold maxLen; omega) hDw ?_; intro v9 w9 hO9 hb9 hg9 hn9; obtain ⟨ao9, cap9, rfl, -, -, -⟩ := hO9.slice)
      have hR9 := HR.out.go (hi' := w9.heap.size) (w' := w9) (G' := (fun k => (Value.slice ao9 (i + 1) cap9).ownBlock = some k)) hb9.size (fun g h => hn9 g h) (fun k _ hk hG => hg9.block k hk (fun e => hG e.symm))
      rw [← HT.out] at hR9
      have HR9 := Lib.hid hR9
      have HO9 := Lib.hid hO9
      clear hR9 hO9 hn9 hg9 hO HR
      replace hc1 := hc1.below hb9 HD.out.2.2.1
      replace hc2 := hc2.below hb9 HD.out.2.2.2.1
      replace HU := Lib.hid (HU.out.mid (w' := w9) (Mid.of_below hb9 (Nat.le_refl _)))
      replace hP := hP.low (Low.of_below hb9 HD.out.2.2.2.2.2)
      replace hbf := hbf.trans (hb9.mono HD.out.2.2.2.2.1)
      replace hDw := Nat.le_trans hDw hb9.size
      clear hb9
      rw [← hko]
      go_roundg (gk - 1)
      case measure => omega
      case rel => exact ⟨i + 1, ao9, _, cap9, _, by omega, rfl, by go_num, HO9.out, HR9, hc1, hc2, HU, hP, hbf, hDw⟩
    case neg =>
      have hie : i = ks.length := by omega
      have hii : ¬ ((i : Nat) : Int) < ((ks.length : Nat) : Int) := by omega
      obtain ⟨ao1, cap1, hv1, hcap1, hcap2, hno1⟩ := hO.slice
      cases hv1
      have HCAP : Hid (i ≤ oc ∧ oc ≤ maxLen ∧ (oo = none → oc = 0)) := Lib.hid ⟨hcap1, hcap2, hno1⟩
      have HO := Lib.hid hO
      have HIE := Lib.hid hie
      clear hcap1 hcap2 hno1 hO hie hP hil hi
      have e0 := hc1.cell 0 _ rfl
      have e1 := hc1.cell 1 _ rfl
      have e2 := hc1.cell 2 _ rfl
      have e3 := hc1.cell 3 _ rfl
      have f3 := hc1.free 3 (by simp)
      have g0 := hc2.cell 0 _ rfl
      have g1 := hc2.cell 1 _ rfl
      have g2 := hc2.cell 2 _ rfl
      have g3 := hc2.cell 3 _ rfl
      have k0 := hc2.free 0 (by simp)
      have k1 := hc2.free 1 (by simp)
      have k2 := hc2.free 2 (by simp)
      have k3 := hc2.free 3 (by simp)
      obtain ⟨w6, hw6⟩ : ∃ W, W = wr.setCell ⟨p1, 3, none⟩ (.slice oo i oc) := ⟨_, rfl⟩
      have h61 : BoxL w6 p1 [.int .i64 op, .int .i64 fld, .slice uo vs.length uc, .slice oo i oc] := by rw [hw6]; exact hc1.set 3 _ (by simp)
      have h62 : BoxL w6 p2 [.int .i64 0, .int .i64 0, .slice none 0 0, .slice none 0 0] := by rw [hw6]; exact hc2.setOther (by have := HP1.out; omega) _ _
      have hK6 : Keep (fun k => k = p1 ∨ k = p2) wr w6 := by rw [hw6]; exact (Keep.refl _ _).set p1 3 _ (.inl (.inl rfl))
      have HW6 := Lib.hid hw6
      go_upto_region 9 with fail
      rw [← HW6.out]
      clear e0 e1 e2 e3 f3 g0 g1 g2 g3 k0 k1 k2 k3 hw6 HW6
      have e0 := h61.cell 0 _ rfl
      have e1 := h61.cell 1 _ rfl
      have e2 := h61.cell 2 _ rfl
      have e3 := h61.cell 3 _ rfl
      have g0 := h62.cell 0 _ rfl
      have g1 := h62.cell 1 _ rfl
      have g2 := h62.cell 2 _ rfl
      have g3 := h62.cell 3 _ rfl
      have k0 := h62.free 0 (by simp)
      have k1 := h62.free 1 (by simp)
      have k2 := h62.free 2 (by simp)
      have k3 := h62.free 3 (by simp)
      go_wp2_with fail
      obtain ⟨w7, hw7⟩ : ∃ W, W = (((w6.setCell ⟨p2, 0, none⟩ (.int .i64 op)).setCell ⟨p2, 1, none⟩ (.int .i64 fld)).setCell ⟨p2, 2, none⟩ (.slice uo vs.length uc)).setCell ⟨p2, 3, none⟩ (.slice oo i oc) := ⟨_, rfl⟩
      have h72 : BoxL w7 p2 [.int .i64 op, .int .i64 fld, .slice uo vs.length uc, .slice oo i oc] := by
        rw [hw7]
        exact (((h62.set 0 (.int .i64 op) (by simp)).set 1 (.int .i64 fld) (by simp)).set 2 (.slice uo vs.length uc) (by simp)).set 3 (.slice oo i oc) (by simp)
      have hK7 : Keep (fun k => k = p1 ∨ k = p2) wr w7 := by
        rw [hw7]
        exact (((hK6.set p2 0 _ (.inl (.inr rfl))).set p2 1 _ (.inl (.inr rfl))).set p2 2 _ (.inl (.inr rfl))).set p2 3 _ (.inl (.inr rfl))
      rw [← hw7]
      clear e0 e1 e2 e3 g0 g1 g2 g3 k0 k1 k2 k3 hw7 h61 h62 hK6
      have hb7 : Below w.heap.size w w7 := hbf.trans (hK7.below (fun k hk => by have := HP1.out; omega) hbf.size)
      have hs7 : wr.heap.size ≤ w7.heap.size := hK7.size
      have hmid : Mid w0.heap.size wr.heap.size wr w7 := fun k h1 h2 => hK7.same k h2 (fun h => by have := HP1.out; omega)
      refine ret_p4 (b := p2) rfl rfl h72 rfl ?_
      have hie := HIE.out
      subst hie
      obtain ⟨cf, hcf1, hcf2⟩ := HR.out.cells
      rw [List.take_length] at hcf1 hcf2
      refine ⟨uo, uc, oo, oc, rfl, PQs.mk cf (((HU.out.mid (w' := w7) (fun k h1 h2 => hmid k h1 (by omega))).widen (by have := hbf.size; have := HP1.out; omega) (by omega))) ⟨HCAP.out.1, HCAP.out.2.1⟩ HCAP.out.2.2 ?_ (fun i k hk => PQs.widen (by have := HD.out; omega) hs7 (PQs.mid (fun k h1 h2 => hmid k (by have := HD.out; omega) h2) (hcf2 i k hk))), hb7⟩
      by_cases hks : ks = []
      · exact .inl hks
      · right
        rcases HO.out.shape with ⟨h1, h2⟩ | ⟨g, cap', e1, h3, h4, -⟩
        · have := List.length_pos_iff.2 hks; omega
        · cases e1
          refine ⟨g, 0, rfl, by have := HD.out; omega, by omega, fun i hi j c hj => ?_⟩
          have := HO.out.cellAt (hcf1 i hi j c hj)
          rw [Nat.zero_add]
          exact (World.cell?_of_block (a := ⟨g, i * 4 + j, none⟩) (hmid g (by have := HD.out; omega) h4)).trans this
end Go.Proofs.YtlmjkbdodecbmaaGreatDoor

namespace Go.Proofs.YtlmjkbdodecbmaaGreatDoor
open Go.RowKit
set_option linter.unusedVariables false
set_option linter.unusedSimpArgs false
attribute [local go_sem] field_nat
set_option maxRecDepth 100000 in
set_option maxHeartbeats 2000000 in
theorem vsame_self (k : Int) (n c : List UInt8) (w : World) : Calls Tryz.prog 116 #[valV k n c, valV k n c] w fun e w' => e = .returned (.bool true) ∧ Below w.heap.size w w' := by
  obtain ⟨w0, hw0, hb0, hz0, pa, hpa, hba⟩ := boxV w k n c
  obtain ⟨w1, hw1, hb1, hz1, pb, hpb, hbb⟩ := boxV w0 k n c
  have hbf : Below w.heap.size w w1 := hb0.trans (hb1.mono hb0.size)
  replace hba := hba.kept hb1
  have HW1 := Lib.hid hw1
  have HW0 := Lib.hid hw0
  have HPB : Hid (w.heap.size + 1 = pb) := Lib.hid (by rw [hpb, hz0])
  have HPA := Lib.hid hpa
  clear hw1 hw0 hpb hpa hb0 hb1 hz0 hz1
  go_enter Tryz.func116, Tryz.ntmps116
  go_upto_region 1 with fail
  rw [← HW0.out, ← HW1.out, HPB.out, ← HPA.out]
  clear HW0 HW1 HPB HPA
  have a0 := hba.c0
  have a1 := hba.c1
  have a2 := hba.c2
  have b0 := hbb.c0
  have b1 := hbb.c1
  have b2 := hbb.c2
  go_wp2_with fail
  go_ret
  exact ⟨ret_one rfl, hbf⟩
set_option maxRecDepth 100000 in
set_option maxHeartbeats 2000000 in
/-- EqualFunc, of two alike rows of values. -/
theorem eqV_self (ao bo : Option Addr) (ac bc : Nat) (vs : List V3) (B : Nat) (w : World) (hA : ValsB B w ao ac vs) (hB : ValsB B w bo bc vs) (hBw : B ≤ w.heap.size) :
    Calls Tryz.prog 115 #[.slice ao vs.length ac, .slice bo vs.length bc, .func (.func 116) #[] #[]] w fun e w' => e = .returned (.bool true) ∧ Below w.heap.size w w' := by
  have hbf : Below w.heap.size w w := Below.refl _ _
  have hvl : vs.length ≤ 9223372036854775807 := by have := hA.cap; unfold maxLen at this; omega
  go_enter Tryz.func115, Tryz.ntmps115
  go_wp2_with fail
  go_loopg [17] vs.length (fun gg iv wr => ∃ (i : Nat), i + gg = vs.length ∧ iv = .int .i64 (i : Int) ∧ Below w.heap.size w wr)
  case atStart => exact ⟨0, by omega, rfl, hbf⟩
  clear hbf
  case round =>
    obtain ⟨i, hi, rfl, hbf⟩ := hrel
    by_cases hil : i < vs.length
    case neg =>
      have hii : ¬ ((i : Nat) : Int) < ((vs.length : Nat) : Int) := by omega
      go_wp2_with fail
      go_ret
      exact ⟨ret_one rfl, hbf⟩
    case pos =>
      have hii : ((i : Nat) : Int) < ((vs.length : Nat) : Int) := by omega
      have hqi : (0 : Int) ≤ (i : Int) := by omega
      obtain ⟨v, hv9⟩ : ∃ v, vs[i]? = some v := ⟨_, List.getElem?_eq_getElem hil⟩
      obtain ⟨ab, aoff, ha, a0, a1, a2⟩ := (hA.v.below hbf) i v hv9
      obtain ⟨bb, boff, hb, b0, b1, b2⟩ := (hB.v.below hbf) i v hv9
      obtain ⟨k, n, c⟩ := v
      rw [ha, hb]
      obtain ⟨w1, hw1, hb1, hz1, pa, hpa, hba⟩ := boxV wr k n c
      obtain ⟨w2, hw2, hb2, hz2, pb, hpb, hbb⟩ := boxV w1 k n c
      have c0 := (b0.kept hb1).cell
      have c1 := (b1.kept hb1).cell
      have c2 := (b2.kept hb1).cell
      replace a0 := a0.cell
      replace a1 := a1.cell
      replace a2 := a2.cell
      clear b0 b1 b2
      have HW1 := Lib.hid hw1
      have HW2 := Lib.hid hw2
      have HPA := Lib.hid hpa
      have HPB := Lib.hid hpb
      clear hv9 hw1 hw2 hz1 hz2 hpa hpb
      go_upto_region 6 with fail
      rw [← HW1.out, ← HPA.out]
      clear a0 a1 a2
      go_upto_region 7 with fail
      rw [← HW2.out, ← HPB.out]
      clear HW1 HW2 HPA HPB c0 c1 c2
      replace hba := hba.kept hb2
      replace hbf := (hbf.trans (hb1.mono hbf.size)).trans (hb2.mono (Nat.le_trans hbf.size hb1.size))
      have a0 := hba.c0
      have a1 := hba.c1
      have a2 := hba.c2
      have b0 := hbb.c0
      have b1 := hbb.c1
      have b2 := hbb.c2
      clear hba hbb hb1 hb2
      go_wp2_with fail
      (with_reducible refine (vsame_self k n c _).mono ?_)
      rintro e w4 ⟨rfl, hb4⟩
      replace hbf := hbf.trans (hb4.mono hbf.size)
      clear a0 a1 a2 b0 b1 b2 hb4
      go_wp2_with fail
      rw [← ha, ← hb]
      go_roundg (gk - 1)
      case measure => omega
      case rel => exact ⟨i + 1, by omega, by go_num, hbf⟩
set_option maxRecDepth 100000 in
set_option maxHeartbeats 2000000 in
/-- EqualFunc, of two alike rows of predicates. -/
theorem eqP_self (p : PT) (vo : Option Addr) (vc : Nat) (ko : Option Addr) (kc : Nat) (uo : Option Addr) (uc : Nat) (lo : Option Addr) (lc : Nat) (B : Nat) (w : World) (hA : PtIs B w p vo vc ko kc) (hB : PtIs B w p uo uc lo lc) (hBw : B ≤ w.heap.size)
    (HIH : Hid (∀ k ∈ p.kids, ∀ (vo : Option Addr) (vc : Nat) (ko : Option Addr) (kc : Nat) (uo : Option Addr) (uc : Nat) (lo : Option Addr) (lc : Nat) (B : Nat) (w : World), PtIs B w k vo vc ko kc → PtIs B w k uo uc lo lc → Hid (B ≤ w.heap.size) →
      Calls Tryz.prog 100 #[.agg #[.int .i64 k.op, .int .i64 k.fld, .slice vo k.vals.length vc, .slice ko k.kids.length kc], .agg #[.int .i64 k.op, .int .i64 k.fld, .slice uo k.vals.length uc, .slice lo k.kids.length lc]] w fun e w' => e = .returned (.bool true) ∧ Below w.heap.size w w')) :
    Calls Tryz.prog 117 #[.slice ko p.kids.length kc, .slice lo p.kids.length lc, .func (.func 100) #[] #[]] w fun e w' => e = .returned (.bool true) ∧ Below w.heap.size w w' := by
  have hbf : Below w.heap.size w w := Below.refl _ _
  have hvl : p.kids.length ≤ 9223372036854775807 := Nat.le_trans hA.kcap.1 hA.kcap.2
  go_enter Tryz.func117, Tryz.ntmps117
  go_wp2_with fail
  go_loopg [17] p.kids.length (fun gg iv wr => ∃ (i : Nat), i + gg = p.kids.length ∧ iv = .int .i64 (i : Int) ∧ Below w.heap.size w wr)
  case atStart => exact ⟨0, by omega, rfl, hbf⟩
  clear hbf
  case round =>
    obtain ⟨i, hi, rfl, hbf⟩ := hrel
    by_cases hil : i < p.kids.length
    case neg =>
      have hii : ¬ ((i : Nat) : Int) < ((p.kids.length : Nat) : Int) := by omega
      go_wp2_with fail
      go_ret
      exact ⟨ret_one rfl, hbf⟩
    case pos =>
      have hii : ((i : Nat) : Int) < ((p.kids.length : Nat) : Int) := by omega
      have hqi : (0 : Int) ≤ (i : Int) := by omega
      obtain ⟨k, hk9⟩ : ∃ v, p.kids[i]? = some v := ⟨_, List.getElem?_eq_getElem hil⟩
      have hlow : Low B w wr := Low.of_below hbf hBw
      obtain ⟨ab, aoff, ha, hab, xo, xc, yo, yc, hX, hC⟩ := (hA.low hlow).kid hk9
      obtain ⟨bb, boff, hb, hbb9, so, sc, te, tc, hY, hE⟩ := (hB.low hlow).kid hk9
      have HCK := HIH.out k (List.mem_of_getElem? hk9) xo xc yo yc so sc te tc B
      rw [ha, hb]
      obtain ⟨w1, hw1, hb1, hz1, pa, hpa, hba⟩ := boxP wr k.op k.fld xo k.vals.length xc yo k.kids.length yc
      obtain ⟨w2, hw2, hb2, hz2, pb, hpb, hbb⟩ := boxP w1 k.op k.fld so k.vals.length sc te k.kids.length tc
      obtain ⟨a0, a1, a2, a3⟩ := hC
      obtain ⟨c0, c1, c2, c3⟩ := hE.kept hb1
      have hs0 : B ≤ wr.heap.size := Nat.le_trans hBw hbf.size
      have hs1 : B ≤ w1.heap.size := Nat.le_trans hs0 hb1.size
      have hs2 : B ≤ w2.heap.size := Nat.le_trans hs1 hb2.size
      have hcall := HCK w2 ((hX.low (Low.of_below hb1 hs0)).low (Low.of_below hb2 hs1)) ((hY.low (Low.of_below hb1 hs0)).low (Low.of_below hb2 hs1)) (Lib.hid hs2)
      have HW1 := Lib.hid hw1
      have HW2 := Lib.hid hw2
      have HPA := Lib.hid hpa
      have HPB := Lib.hid hpb
      clear hk9 hw1 hw2 hz1 hz2 hpa hpb HCK hE hX hY hlow hs0 hs1 hs2
      go_upto_region 6 with fail
      rw [← HW1.out, ← HPA.out]
      clear a0 a1 a2 a3
      go_upto_region 7 with fail
      rw [← HW2.out, ← HPB.out]
      clear HW1 HW2 HPA HPB c0 c1 c2 c3
      replace hba := hba.kept hb2
      replace hbf := (hbf.trans (hb1.mono hbf.size)).trans (hb2.mono (Nat.le_trans hbf.size hb1.size))
      have a0 := hba.cell 0 _ rfl
      have a1 := hba.cell 1 _ rfl
      have a2 := hba.cell 2 _ rfl
      have a3 := hba.cell 3 _ rfl
      have b0 := hbb.cell 0 _ rfl
      have b1 := hbb.cell 1 _ rfl
      have b2 := hbb.cell 2 _ rfl
      have b3 := hbb.cell 3 _ rfl
      clear hba hbb hb1 hb2
      go_wp2_with fail
      (with_reducible refine hcall.mono ?_)
      rintro e w4 ⟨rfl, hb4⟩
      replace hbf := hbf.trans (hb4.mono hbf.size)
      clear a0 a1 a2 a3 b0 b1 b2 b3 hb4 hcall
      go_wp2_with fail
      rw [← ha, ← hb]
      go_roundg (gk - 1)
      case measure => omega
      case rel => exact ⟨i + 1, by omega, by go_num, hbf⟩
set_option maxRecDepth 100000 in
set_option maxHeartbeats 2000000 in
/-- Same, of two alike predicates. -/
theorem lsame_self (p : PT) : ∀ (vo : Option Addr) (vc : Nat) (ko : Option Addr) (kc : Nat) (uo : Option Addr) (uc : Nat) (lo : Option Addr) (lc : Nat) (B : Nat) (w : World), PtIs B w p vo vc ko kc → PtIs B w p uo uc lo lc → Hid (B ≤ w.heap.size) →
    Calls Tryz.prog 100 #[.agg #[.int .i64 p.op, .int .i64 p.fld, .slice vo p.vals.length vc, .slice ko p.kids.length kc], .agg #[.int .i64 p.op, .int .i64 p.fld, .slice uo p.vals.length uc, .slice lo p.kids.length lc]] w fun e w' => e = .returned (.bool true) ∧ Below w.heap.size w w' := by
  induction p using PT.ind with
  | h op fld vs ks ih =>
  intro vo vc ko kc uo uc lo lc B w hA hB HBS
  show Calls Tryz.prog 100 #[.agg #[.int .i64 op, .int .i64 fld, .slice vo vs.length vc, .slice ko ks.length kc], .agg #[.int .i64 op, .int .i64 fld, .slice uo vs.length uc, .slice lo ks.length lc]] w fun e w' => e = .returned (.bool true) ∧ Below w.heap.size w w'
  have HIH := Lib.hid ih
  obtain ⟨w0, hw0, hbf, hz0, pa, hpa, hba⟩ := boxP w op fld vo vs.length vc ko ks.length kc
  obtain ⟨w1, hw1, hb1, hz1, pb, hpb, hbb⟩ := boxP w0 op fld uo vs.length uc lo ks.length lc
  replace hba := hba.kept hb1
  replace hbf := hbf.trans (hb1.mono hbf.size)
  replace hA := hA.low (Low.of_below hbf HBS.out)
  replace hB := hB.low (Low.of_below hbf HBS.out)
  have hBS : B ≤ w1.heap.size := Nat.le_trans HBS.out hbf.size
  have hcall := eqV_self vo uo vc uc vs B w1 hA.vals hB.vals hBS
  have HCP : Hid (∀ w2, Below w1.heap.size w1 w2 → Calls Tryz.prog 117 #[.slice ko ks.length kc, .slice lo ks.length lc, .func (.func 100) #[] #[]] w2 fun e w' => e = .returned (.bool true) ∧ Below w2.heap.size w2 w') := Lib.hid (fun w2 hb2 =>
    eqP_self (.mk op fld vs ks) vo vc ko kc uo uc lo lc B w2 (hA.low (Low.of_below hb2 hBS)) (hB.low (Low.of_below hb2 hBS)) (Nat.le_trans hBS hb2.size) HIH)
  have HW0 := Lib.hid hw0
  have HW1 := Lib.hid hw1
  have HPB : Hid (w.heap.size + 1 = pb) := Lib.hid (by rw [hpb, hz0])
  have HPA := Lib.hid hpa
  clear hw0 hw1 hz0 hz1 hpb hpa hb1 ih hA hB HIH
  go_enter Tryz.func100, Tryz.ntmps100
  go_upto_region 1 with fail
  rw [← HW0.out, ← HW1.out, HPB.out, ← HPA.out]
  clear HW0 HW1 HPB HPA
  have a0 := hba.cell 0 _ rfl
  have a1 := hba.cell 1 _ rfl
  have a2 := hba.cell 2 _ rfl
  have a3 := hba.cell 3 _ rfl
  have b0 := hbb.cell 0 _ rfl
  have b1 := hbb.cell 1 _ rfl
  have b2 := hbb.cell 2 _ rfl
  have b3 := hbb.cell 3 _ rfl
  go_wp2_with fail
  (with_reducible refine hcall.mono ?_)
  rintro e w2 ⟨rfl, hb2⟩
  have hcall2 := HCP.out w2 hb2
  replace hbf := hbf.trans (hb2.mono hbf.size)
  replace hba := hba.kept hb2
  replace hbb := hbb.kept hb2
  clear a0 a1 a2 a3 b0 b1 b2 b3 hb2 hcall
  have a3 := hba.cell 3 _ rfl
  have b3 := hbb.cell 3 _ rfl
  go_wp2_with fail
  (with_reducible refine hcall2.mono ?_)
  rintro e w3 ⟨rfl, hb3⟩
  replace hbf := hbf.trans (hb3.mono hbf.size)
  clear a3 b3 hb3 hcall2
  go_wp2_with fail
  go_ret
  exact ⟨ret_one rfl, hbf⟩
end Go.Proofs.YtlmjkbdodecbmaaGreatDoor
