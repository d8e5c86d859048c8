/-
  Pe07: PrdE SeqI SeqJ SeqV (what is needed of them).
-/
import Derived.Test.YtlmjkbdodecbmaaDoorPe01
import Derived.Test.YtlmjkbdodecbmaaDoorPe02
import Derived.Test.YtlmjkbdodecbmaaDoorPe05
import Derived.Test.YtlmjkbdodecbmaaDoorPe06
import Derived.RangeFuncNested
import Derived.RangeFuncBound
import Derived.RangeFuncCalls
import Derived.OwnWalkIn
import Derived.OrdersIn

namespace Go.Proofs.YtlmjkbdodecbmaaDoor
open Go.RowKit Go.Shelf
set_option linter.unusedVariables false
set_option linter.unusedSimpArgs false
attribute [local go_sem] field_nat
/-- append(out, news...) of structs. -/
theorem appendNK {P : Program} {t e : TypeId} {z : Value} {K bytes : Nat} (E : ElemK P t e z K bytes) {w : World} {ops : Array Oper} {rest : List Oper} {o : Oper} {a : Act} {Q : Exit → Act → World → Prop} {s x : Operand} {base n m c : Nat} {v : Value} {xs news : List Value} {ad : Addr}
    (hown : OwnsK K base e w v n xs) (hgd : o.guard = none) (ho : o.op = .call { callee := .builtin .append, args := #[s, x], argTypes := #[t, t] }) (hs : a.eval s = v) (hx : a.eval x = .slice (some ad) m c) (hl : news.length = m * K) (hnews : ∀ j u, news[j]? = some u → w.cell? (ad.add j) = some u)
    (h1 : ∀ u ∈ news, u.oneCell' = true) (hb : (n + m) * bytes ≤ 140737488355328) (hm : n + m ≤ maxLen) (hbase : base ≤ w.heap.size)
    (h : ∀ v' w', OwnsK K base e w' v' (n + m) (xs ++ news) → w.grownBy w' v.ownBlock → (v'.ownBlock = v.ownBlock ∨ v'.ownBlock = some w.heap.size) → wpList P ops Q rest (a.put o.dst v') w') : wpList P ops Q (o :: rest) a w := by
  obtain ⟨i, hi, hz, h4, h5⟩ := E.info
  obtain ⟨v', w', hrun, r1, r2, _, r5⟩ := run_append_own_at (P := P) w base t o.type e i z K bytes E.und hi hz h4 h5 E.many E.pos v n xs hown ad m c news hl hnews h1 hm hb hbase
  refine wpList_plain hgd fun K' hK => ?_
  unfold Oper.wp
  simp [execOp, ho, resolve, invoke, builtin, hs, hx, hrun, Result.andThen]
  exact hK _ _ (h v' w' r1 r2 r5)
/-- Rows of elements of two types share no block. -/
theorem OwnsK.ne_block {K K' base base' : Nat} {e e' : TypeId} {w : World} {v v' : Value} {n n' : Nat} {xs xs' : List Value} (h : OwnsK K base e w v n xs) (h' : OwnsK K' base' e' w v' n' xs') (he : e ≠ e') : ∀ g, v.ownBlock = some g → v'.ownBlock ≠ some g := by
  intro g hg hg'
  obtain ⟨_, h2 | ⟨g1, cap, cur, rfl, _, h4, _⟩⟩ := h
  · rw [h2.1] at hg; cases hg
  · obtain ⟨_, k2 | ⟨g2, cap2, cur2, rfl, _, k4, _⟩⟩ := h'
    · rw [k2.1] at hg'; cases hg'
    · simp [Value.ownBlock] at hg hg'
      subst hg hg'
      rw [h4] at k4
      injection k4 with k4
      injection k4 with _ k5 _
      exact he k5
theorem OwnsK.cellsAt {K base : Nat} {e : TypeId} {w : World} {ao : Option Addr} {n cap : Nat} {xs : List Value} (h : OwnsK K base e w (.slice ao n cap) n xs) (hn : 0 < n) : ∃ g, ao = some ⟨g, 0, none⟩ ∧ base ≤ g ∧ g < w.heap.size ∧ ∀ j u, xs[j]? = some u → w.cell? ((⟨g, 0, none⟩ : Addr).add j) = some u := by
  rcases h.shape with ⟨h1, h2⟩ | ⟨g, cap', e1, h3, h4, _, _, h5, _⟩
  · omega
  · cases e1
    refine ⟨g, rfl, h3, h4, fun j u hj => ?_⟩
    rw [Addr.add_lit, Nat.zero_add]
    exact h.cellAt hj
/-- A row of predicates: its cells. -/
def RowP (B : Nat) (w : World) : List PT → List Value → Prop
  | [], xs => xs = []
  | p :: ps, xs => ∃ (vo : Option Addr) (vc : Nat) (ko : Option Addr) (kc : Nat) (r : List Value), PtIs B w p vo vc ko kc ∧ RowP B w ps r ∧ xs = pcs p.op p.fld vo p.vals.length vc ko p.kids.length kc ++ r
theorem RowP.low {B : Nat} {w w' : World} (hl : Low B w w') : ∀ {ps : List PT} {xs : List Value}, RowP B w ps xs → RowP B w' ps xs := by
  intro ps
  induction ps with
  | nil => intro xs h; exact h
  | cons x ps ih =>
    rintro xs ⟨vo, vc, ko, kc, r, h1, h2, h3⟩
    exact ⟨vo, vc, ko, kc, r, h1.low hl, ih h2, h3⟩
theorem RowP.len {B : Nat} {w : World} : ∀ {ps : List PT} {xs : List Value}, RowP B w ps xs → xs.length = ps.length * 4 := by
  intro ps
  induction ps with
  | nil => intro xs h; rw [show xs = [] from h]; rfl
  | cons x ps ih =>
    rintro xs ⟨vo, vc, ko, kc, r, h1, h2, rfl⟩
    rw [List.length_append, ih h2, List.length_cons]
    simp; omega
theorem RowP.one {B : Nat} {w : World} : ∀ {ps : List PT} {xs : List Value}, RowP B w ps xs → ∀ u ∈ xs, u.oneCell' = true := by
  intro ps
  induction ps with
  | nil => intro xs h u hu; rw [show xs = [] from h] at hu; cases hu
  | cons x ps ih =>
    rintro xs ⟨vo, vc, ko, kc, r, h1, h2, rfl⟩ u hu
    rcases List.mem_append.1 hu with hu | hu
    · simp [pcs] at hu
      rcases hu with rfl | rfl | rfl | rfl <;> rfl
    · exact ih h2 u hu
theorem RowP.app {B : Nat} {w : World} {qs : List PT} {ys : List Value} (hq : RowP B w qs ys) : ∀ {ps : List PT} {xs : List Value}, RowP B w ps xs → RowP B w (ps ++ qs) (xs ++ ys) := by
  intro ps
  induction ps with
  | nil => intro xs h; rw [show xs = [] from h]; exact hq
  | cons x ps ih =>
    rintro xs ⟨vo, vc, ko, kc, r, h1, h2, rfl⟩
    exact ⟨vo, vc, ko, kc, r ++ ys, h1, ih h2, by rw [List.append_assoc]⟩
theorem RowP.single {B : Nat} {w : World} {p : PT} {vo : Option Addr} {vc : Nat} {ko : Option Addr} {kc : Nat} (h : PtIs B w p vo vc ko kc) : RowP B w [p] (pcs p.op p.fld vo p.vals.length vc ko p.kids.length kc) := ⟨vo, vc, ko, kc, [], h, rfl, by simp⟩
/-- An element of a row. -/
theorem RowP.get {B : Nat} {w : World} : ∀ {ps : List PT} {xs : List Value}, RowP B w ps xs → ∀ {i : Nat} {p : PT}, ps[i]? = some p → ∃ vo vc ko kc, PtIs B w p vo vc ko kc ∧ xs[i * 4]? = some (.int .i64 p.op) ∧ xs[i * 4 + 1]? = some (.int .i64 p.fld) ∧ xs[i * 4 + 2]? = some (.slice vo p.vals.length vc) ∧ xs[i * 4 + 3]? = some (.slice ko p.kids.length kc) := by
  intro ps
  induction ps with
  | nil => intro xs h i p hi; simp at hi
  | cons x ps ih =>
    rintro xs ⟨vo, vc, ko, kc, r, h1, h2, rfl⟩ i p hi
    cases i with
    | zero =>
      simp at hi
      subst hi
      exact ⟨vo, vc, ko, kc, h1, rfl, rfl, rfl, rfl⟩
    | succ i =>
      obtain ⟨uo, uc, lo, lc, k1, k2, k3, k4, k5⟩ := ih h2 (i := i) (p := p) (by simpa using hi)
      refine ⟨uo, uc, lo, lc, k1, ?_, ?_, ?_, ?_⟩
      · rw [List.getElem?_append_right (by simp; omega)]; simp only [List.length_cons, List.length_nil]; rw [show (i + 1) * 4 - (0 + 1 + 1 + 1 + 1) = i * 4 by omega]; exact k2
      · rw [List.getElem?_append_right (by simp; omega)]; simp only [List.length_cons, List.length_nil]; rw [show (i + 1) * 4 + 1 - (0 + 1 + 1 + 1 + 1) = i * 4 + 1 by omega]; exact k3
      · rw [List.getElem?_append_right (by simp; omega)]; simp only [List.length_cons, List.length_nil]; rw [show (i + 1) * 4 + 2 - (0 + 1 + 1 + 1 + 1) = i * 4 + 2 by omega]; exact k4
      · rw [List.getElem?_append_right (by simp; omega)]; simp only [List.length_cons, List.length_nil]; rw [show (i + 1) * 4 + 3 - (0 + 1 + 1 + 1 + 1) = i * 4 + 3 by omega]; exact k5
theorem E_pred : ElemK Tryd.prog 23 25 (.agg #[.int .i64 0, .int .i64 0, .slice none 0 0, .slice none 0 0]) 4 64 := elemK_of Tryd.underlying23 (by kernel_rfl) rfl (by decide)
theorem E_intK : ElemK Tryd.prog 28 3 (.int .i64 0) 1 8 := elemK_of Tryd.underlying28 (by kernel_rfl) rfl (by decide)
/-- Depths as cells. -/
def dcel (L : List (PT × Nat)) : List Value := L.map fun x => .int .i64 (x.2 : Int)
theorem dcel_one (L : List (PT × Nat)) : ∀ u ∈ dcel L, u.oneCell' = true := by
  intro u hu
  obtain ⟨x, _, rfl⟩ := List.mem_map.1 hu
  rfl
/-- The walk so far: the predicate, and its first kids' walks. -/
def wkL (d : Nat) (p : PT) (i : Nat) : List (PT × Nat) := (p, d) :: walksP (d + 1) (p.kids.take i)
theorem wkL_zero (d : Nat) (p : PT) : wkL d p 0 = [(p, d)] := by unfold wkL; rw [List.take_zero, walksP]
theorem wkL_step {d : Nat} {p k : PT} {i : Nat} (h : p.kids[i]? = some k) : wkL d p (i + 1) = wkL d p i ++ walkP (d + 1) k := by
  unfold wkL
  rw [List.take_add_one, h, walksP_append]
  simp [walksP]
theorem wkL_all {d : Nat} {p : PT} {i : Nat} (h : p.kids.length ≤ i) : wkL d p i = walkP d p := by
  unfold wkL
  rw [List.take_of_length_le h, walkP_eq]
theorem wkL_le (d : Nat) (p : PT) (i : Nat) : (wkL d p i).length ≤ sizeP p := by
  have h := walkP_len p d
  rw [walkP_eq, ← List.take_append_drop i p.kids, walksP_append] at h
  unfold wkL
  simp only [List.length_cons, List.length_append] at h ⊢
  omega
theorem wkL_pos (d : Nat) (p : PT) (i : Nat) : 0 < (wkL d p i).length := by unfold wkL; simp
theorem sizeP_kid {p k : PT} (h : k ∈ p.kids) : sizeP k + 1 ≤ sizeP p := by
  have key : ∀ ks : List PT, k ∈ ks → sizeP k ≤ sizesP ks := by
    intro ks
    induction ks with
    | nil => intro h; cases h
    | cons x ks ih =>
      intro h
      rw [sizesP]
      rcases List.mem_cons.1 h with rfl | h
      · omega
      · have := ih h; omega
  have h2 := key p.kids h
  cases p with
  | mk op fld vs ks =>
    rw [sizeP]
    have : sizesP (PT.mk op fld vs ks).kids = sizesP ks := rfl
    omega
/-- What the law's walk answers. -/
def LwPost (B d : Nat) (p : PT) (w : World) (e : Ending) (w' : World) : Prop := ∃ (ao : Option Addr) (n ac : Nat) (bo : Option Addr) (bc : Nat) (xs : List Value), e = .returned (.tuple #[.slice ao n ac, .slice bo n bc]) ∧ Hid (n = (walkP d p).length) ∧
      OwnsK 4 w.heap.size 25 w' (.slice ao n ac) n xs ∧ Hid (RowP B w' ((walkP d p).map Prod.fst) xs) ∧ OwnsK 1 w.heap.size 3 w' (.slice bo n bc) n (dcel (walkP d p)) ∧ Below w.heap.size w w'
theorem LwPost.mk {B d : Nat} {p : PT} {w w' : World} {e : Ending} {ao : Option Addr} {n ac : Nat} {bo : Option Addr} {bc : Nat} {xs : List Value} (h1 : e = .returned (.tuple #[.slice ao n ac, .slice bo n bc])) (h2 : Hid (n = (walkP d p).length)) (h3 : OwnsK 4 w.heap.size 25 w' (.slice ao n ac) n xs) (h4 : Hid (RowP B w' ((walkP d p).map Prod.fst) xs)) (h5 : OwnsK 1 w.heap.size 3 w' (.slice bo n bc) n (dcel (walkP d p))) (h6 : Below w.heap.size w w') : LwPost B d p w e w' := ⟨ao, n, ac, bo, bc, xs, h1, h2, h3, h4, h5, h6⟩
set_option maxRecDepth 100000 in
set_option maxHeartbeats 4000000 in
/-- The law's walk. -/
theorem lwalk_any (p : PT) : ∀ (d : Nat) (vo : Option Addr) (vc : Nat) (ko : Option Addr) (kc : Nat) (B : Nat) (w : World), PtIs B w p vo vc ko kc → Hid (B ≤ w.heap.size) → Hid (d + sizeP p ≤ 700) →
    Calls Tryd.prog 9 #[.agg #[.int .i64 p.op, .int .i64 p.fld, .slice vo p.vals.length vc, .slice ko p.kids.length kc], .int .i64 (d : Int)] w (LwPost B d p w) := by
  induction p using PT.ind with
  | h op fld vs ks ih =>
  intro d vo vc ko kc B w hP HBS HD
  show Calls Tryd.prog 9 #[.agg #[.int .i64 op, .int .i64 fld, .slice vo vs.length vc, .slice ko ks.length kc], .int .i64 (d : Int)] w (LwPost B d (.mk op fld vs ks) w)
  obtain ⟨q, hq⟩ : ∃ q, q = PT.mk op fld vs ks := ⟨_, rfl⟩
  rw [← hq] at hP HD ⊢
  have HIH := Lib.hid ih
  have HKS : Hid (q.kids = ks) := Lib.hid (by rw [hq]; rfl)
  have HOP : Hid (q.op = op ∧ q.fld = fld ∧ q.vals = vs) := Lib.hid (by rw [hq]; exact ⟨rfl, rfl, rfl⟩)
  obtain ⟨w0, hw0, hbf, hz0, px, hpx, hbx⟩ := boxP w op fld vo vs.length vc ko ks.length kc
  replace hP := hP.low (Low.of_below hbf HBS.out)
  replace HBS : Hid (B ≤ w0.heap.size) := Lib.hid (Nat.le_trans HBS.out hbf.size)
  have hkl : ks.length ≤ 9223372036854775807 := by have := hP.kcap; rw [HKS.out] at this; omega
  have hd7 : d ≤ 700 := by have := HD.out; omega
  have HW := Lib.hid hw0
  obtain ⟨D, hD⟩ : ∃ D, D = w0.heap.size := ⟨_, rfl⟩
  have hpD : px < D := by omega
  have hwD : w.heap.size ≤ D := by omega
  have hBD : B ≤ D := by have := HBS.out; omega
  have hDw0 : D ≤ w0.heap.size := by omega
  clear hw0 hz0 ih hq hD
  go_enter Tryd.func9, Tryd.ntmps9
  go_upto_region 1 with fail
  rw [← HW.out, ← hpx]
  clear hpx HW
  have e0 := hbx.cell 0 _ rfl
  have e1 := hbx.cell 1 _ rfl
  have e2 := hbx.cell 2 _ rfl
  have e3 := hbx.cell 3 _ rfl
  obtain ⟨w1, hw1⟩ : ∃ W, W = (w0.alloc (.cells #[.int .i64 op, .int .i64 fld, .slice vo vs.length vc, .slice ko ks.length kc] 25)).alloc (.cells #[.int .i64 (d : Int)] 3) := ⟨_, rfl⟩
  have hb1 : Below w0.heap.size w0 w1 := by rw [hw1]; exact ((Below.refl _ w0).alloc (Nat.le_refl _) _).alloc (by simp <;> omega) _
  have hOa : OwnsK 4 D 25 w1 (.slice (some ⟨w0.heap.size, 0, none⟩) 1 1) 1 (pcs op fld vo vs.length vc ko ks.length kc) := by
    rw [hw1]
    refine ⟨rfl, .inr ⟨w0.heap.size, 1, (pcs op fld vo vs.length vc ko ks.length kc).toArray, rfl, hDw0, ?_, Nat.le_refl _, by decide, rfl, rfl⟩⟩
    rw [Below.heap_alloc _ _ _ (by simp)]
    exact heap_alloc_new w0 _
  have hOb : OwnsK 1 D 3 w1 (.slice (some ⟨w0.heap.size + 1, 0, none⟩) 1 1) 1 [.int .i64 (d : Int)] := by
    rw [hw1]
    refine ⟨rfl, .inr ⟨w0.heap.size + 1, 1, #[.int .i64 (d : Int)], rfl, by omega, ?_, Nat.le_refl _, by decide, rfl, rfl⟩⟩
    have := heap_alloc_new (w0.alloc (.cells #[.int .i64 op, .int .i64 fld, .slice vo vs.length vc, .slice ko ks.length kc] 25)) (.cells #[.int .i64 (d : Int)] 3)
    simpa using this
  have HW : Hid (w1 = (w0.alloc (.cells #[.int .i64 op, .int .i64 fld, .slice vo vs.length vc, .slice ko ks.length kc] 25)).alloc (.cells #[.int .i64 (d : Int)] 3)) := Lib.hid hw1
  clear hw1
  go_wp2_with fail
  rw [← HW.out]
  clear HW e0 e1 e2 e3
  replace hbx := hbx.kept hb1
  replace hP := hP.low (Low.of_below hb1 HBS.out)
  replace HBS : Hid (B ≤ w1.heap.size) := Lib.hid (Nat.le_trans HBS.out hb1.size)
  replace hbf := hbf.trans (hb1.mono hbf.size)
  clear hb1
  go_loopg [6, 7, 8] ks.length (fun gg av bv iv wr => ∃ (i : Nat) (ao : Option Addr) (n ac : Nat) (bo : Option Addr) (bc : Nat) (xs : List Value), i + gg = ks.length ∧ iv = .int .i64 (i : Int) ∧ av = .slice ao n ac ∧ bv = .slice bo n bc ∧ Hid (n = (wkL d q i).length) ∧ OwnsK 4 D 25 wr (.slice ao n ac) n xs ∧ Hid (RowP B wr ((wkL d q i).map Prod.fst) xs) ∧ OwnsK 1 D 3 wr (.slice bo n bc) n (dcel (wkL d q i)) ∧
    BoxL wr px [.int .i64 op, .int .i64 fld, .slice vo vs.length vc, .slice ko ks.length kc] ∧ PtIs B wr q vo vc ko kc ∧ Hid (B ≤ wr.heap.size) ∧ Below w.heap.size w wr)
  case atStart => exact ⟨0, some ⟨w0.heap.size, 0, none⟩, 1, 1, some ⟨w0.heap.size + 1, 0, none⟩, 1, pcs op fld vo vs.length vc ko ks.length kc, by omega, rfl, rfl, rfl, Lib.hid (by rw [wkL_zero]; rfl), hOa, Lib.hid (by rw [wkL_zero]; have := RowP.single hP; rw [HOP.out.1, HOP.out.2.1, HOP.out.2.2, HKS.out] at this; exact this), by rw [wkL_zero]; exact hOb, hbx, hP, HBS, hbf⟩
  clear hOa hOb hbx hP HBS hbf
  case round =>
    obtain ⟨i, ao, n, ac, bo, bc, xs, hi, rfl, rfl, rfl, HN, hOa, HRP, hOb, hbx, hP, HBS, hbf⟩ := hrel
    have e3 := hbx.cell 3 _ rfl
    by_cases hil : i < ks.length
    case neg =>
      have hii : ¬ ((i : Nat) : Int) < ((ks.length : Nat) : Int) := by omega
      have hall : wkL d q i = walkP d q := wkL_all (by rw [HKS.out]; omega)
      have HALL := Lib.hid hall
      clear hall
      go_wp2_with fail
      go_ret2
      exact LwPost.mk rfl (Lib.hid (by rw [HN.out, HALL.out])) (hOa.mono hwD) (Lib.hid (by rw [← HALL.out]; exact HRP.out)) (by rw [← HALL.out]; exact hOb.mono hwD) hbf
    case pos =>
      have hii : ((i : Nat) : Int) < ((ks.length : Nat) : Int) := by omega
      have hqi : (0 : Int) ≤ (i : Int) := by omega
      obtain ⟨k, hk9⟩ : ∃ v, ks[i]? = some v := ⟨_, List.getElem?_eq_getElem hil⟩
      have hk8 : q.kids[i]? = some k := by rw [HKS.out]; exact hk9
      have hkm := List.mem_of_getElem? hk9
      have hsz := sizeP_kid (List.mem_of_getElem? hk8)
      obtain ⟨g, go, e1, hgB, kvo, kvc, kko, kkc, hX, hA⟩ := hP.kid hk8
      subst e1
      have HST := Lib.hid (wkL_step (d := d) hk8)
      have HKM := Lib.hid hkm
      have HSZ : Hid (d + 1 + sizeP k ≤ 700) := Lib.hid (by have := HD.out; omega)
      obtain ⟨c0, c1, c2, c3⟩ := hA
      have hcall := HIH.out k HKM.out (d + 1) kvo kvc kko kkc B wr hX HBS HSZ
      have HLA : Hid (∀ k, (Value.slice ao n ac).ownBlock = some k → k < wr.heap.size) := Lib.hid (fun k hk => (hOa.lt k hk).2)
      have HLB : Hid (∀ k, (Value.slice bo n bc).ownBlock = some k → k < wr.heap.size) := Lib.hid (fun k hk => (hOb.lt k hk).2)
      have HBW : Hid (D ≤ wr.heap.size) := Lib.hid (by rcases hOa.shape with ⟨_, h⟩ | ⟨g9, c9, _, h1, h2, _⟩; (have := wkL_pos d q i; rw [← HN.out] at this; omega); omega)
      clear hk9 hk8 hkm hsz hil
      go_wp2_with fail
      (refine hcall.mono ?_)
      rintro e w6 ⟨ao2, n2, ac2, bo2, bc2, ys, rfl, HN2, hOa2, HRP2, hOb2, hb⟩
      clear hcall c0 c1 c2 c3 e3
      replace hOa := hOa.kept hb
      replace hOb := hOb.kept hb
      replace hbx := hbx.kept hb
      replace hP := hP.low (Low.of_below hb HBS.out)
      replace HRP : Hid (RowP B w6 ((wkL d q i).map Prod.fst) xs) := Lib.hid (HRP.out.low (Low.of_below hb HBS.out))
      have hsz6 := hb.size
      replace HBS : Hid (B ≤ w6.heap.size) := Lib.hid (Nat.le_trans HBS.out hb.size)
      replace hbf := hbf.trans (hb.mono hbf.size)
      have hn2 : 0 < n2 := by rw [HN2.out, walkP_eq]; simp
      have hle := wkL_le d q (i + 1)
      rw [HST.out, List.length_append, ← HN.out, ← HN2.out] at hle
      have hn6 : n + n2 ≤ 700 := by have := HD.out; omega
      obtain ⟨g2, e2, hg2a, hg2b, hcs2⟩ := hOa2.cellsAt hn2
      obtain ⟨g3, e3, hg3a, hg3b, hcs3⟩ := hOb2.cellsAt hn2
      subst e2 e3
      have HNE := Lib.hid (OwnsK.ne_block hOa hOb (by decide))
      have HYL : Hid (ys.length = n2 * 4) := Lib.hid hOa2.len
      have HYO : Hid (∀ u ∈ ys, u.oneCell' = true) := Lib.hid HRP2.out.one
      have HZL : Hid ((dcel (walkP (d + 1) k)).length = n2 * 1) := Lib.hid hOb2.len
      have HC2 := Lib.hid hcs2
      have HC3 := Lib.hid hcs3
      have hDw6 : D ≤ w6.heap.size := by have := HBW.out; omega
      clear hb hle hcs2 hcs3 hOa2 hOb2
      go_wp2_with (first
        | (at_builtin; refine appendNK E_pred hOa rfl rfl rfl rfl HYL.out HC2.out HYO.out (by omega) (by unfold maxLen; omega) hDw6 ?_; intro v7 w7 hO7 hg7 hn7; have hOb7 := hOb.block (fun k hk => hg7.block k (hOb.lt k hk).2 (fun e9 => HNE.out k e9.symm hk)); have HC7 : Hid (∀ j u, (dcel (walkP (d + 1) k))[j]? = some u → w7.cell? ((⟨g3, 0, none⟩ : Addr).add j) = some u) := Lib.hid (fun j u hj => (World.cell?_of_block (a := (⟨g3, 0, none⟩ : Addr).add j) (by rw [Addr.add_lit]; exact hg7.block g3 hg3b (fun e9 => by have := HLA.out g3 e9.symm; omega))).trans (HC3.out j u hj)); obtain ⟨ao7, ac7, rfl, -, -, -⟩ := hO7.slice; have hs7 := hg7.size)
        | (at_builtin; refine appendNK E_intK hOb7 rfl rfl rfl rfl HZL.out HC7.out (dcel_one _) (by omega) (by unfold maxLen; omega) (by omega) ?_; intro v8 w8 hO8 hg8 hn8; obtain ⟨bo8, bc8, rfl, -, -, -⟩ := hO8.slice))
      have hO9 := hO7.block (fun g hg => hg8.block g (hO7.lt g hg).2 (fun e9 => by
        have h1 := OwnsK.ne_block hO7 hOb7 (by decide) g hg
        exact h1 e9.symm))
      have hK : Keep (fun k => (Value.slice ao n ac).ownBlock = some k ∨ (Value.slice bo n bc).ownBlock = some k) w6 w8 := ⟨hg8.os.trans hg7.os, hg8.tape.trans hg7.tape, hg8.output.trans hg7.output, Nat.le_trans hg7.size hg8.size, fun k hk hs => (hg8.block k (Nat.lt_of_lt_of_le hk hg7.size) (fun e9 => hs (.inr e9.symm))).trans (hg7.block k hk (fun e9 => hs (.inl e9.symm)))⟩
      have hSD : ∀ k, ((Value.slice ao n ac).ownBlock = some k ∨ (Value.slice bo n bc).ownBlock = some k) → D ≤ k := fun k hk => by
        rcases hk with hk | hk
        · exact (hOa.lt k hk).1
        · exact (hOb.lt k hk).1
      have hbD : Below D w6 w8 := hK.below hSD hDw6
      have hlow : Low B w6 w8 := Low.of_below hbD hBD
      have hbx8 := hbx.keep hK (fun h => by have := hSD px h; omega)
      go_roundg (gk - 1)
      case measure => omega
      case rel => exact ⟨i + 1, ao7, n + n2, ac7, bo8, bc8, xs ++ ys, by omega, by go_num, rfl, rfl, Lib.hid (by rw [HST.out, List.length_append, HN.out, HN2.out]), hO9, Lib.hid (by rw [HST.out, List.map_append]; exact RowP.app (HRP2.out.low hlow) (HRP.out.low hlow)), by rw [HST.out]; unfold dcel at hO8 ⊢; rw [List.map_append]; exact hO8, hbx8, hP.low hlow, Lib.hid (Nat.le_trans HBS.out hK.size), hbf.trans (hbD.mono hwD)⟩
end Go.Proofs.YtlmjkbdodecbmaaDoor

namespace Go.Proofs.YtlmjkbdodecbmaaDoor
open Go.RowKit
set_option linter.unusedVariables false
section
variable {P : Program} {ops : Array Oper} {Q : Exit → Act → World → Prop} {S : World → Prop} {md : Region.Mode}
theorem rowsIn_round {l n : Nat} {row : String} {args : Array Value} {w : World} {R : Value → World → Prop} (h : Rows P row args w R) : RowsIn (Fence.wide.inRound l) n P row args w R :=
  fun c cs _ => let ⟨v, w', r, s⟩ := h c cs; ⟨v, w', r, stepsIn_wide.2 s⟩
theorem callsIn_round {l n : Nat} {f : FuncId} {args : Array Value} {w : World} {R : Ending → World → Prop} (h : Calls P f args w R) : CallsIn (Fence.wide.inRound l) n P f args w R :=
  callsIn_wide.2 h
theorem wpIn_of_wp {l : Nat} {o : Oper} {a : Act} {w : World} {K K' : Act → World → Prop} (hnd : ∀ c, o.op ≠ .defer c) (h : ∀ a w, K a w → K' a w) (hh : Oper.wp P o a w K Q) : Oper.wpIn (Fence.wide.inRound l) 0 P o a w K' Q := by
  unfold Oper.wp at hh
  refine ⟨fun f _ => trivial, ?_⟩
  rw [Oper.semAt_plain _ _ _ hnd]
  generalize (execOp a.eval o).run P w = r at *
  cases r with
  | ok x w' =>
    cases x <;> simp only [Oper.upon, Oper.uponIn] at hh ⊢ <;>
      first
        | exact h _ _ hh
        | exact ⟨fun h9 => by simp [Fence.wide] at h9, callsIn_round (Calls.mono hh (fun e w'' he => by cases e <;> first | exact h _ _ he | exact he))⟩
        | exact ⟨fun h9 => by simp [Fence.wide] at h9, rowsIn_round (Rows.mono hh (fun _ _ he => h _ _ he))⟩
        | exact hh.elim
  | halt x w' => cases x <;> simp only [Oper.upon, Oper.uponIn] at hh ⊢ <;> exact hh
def noDefers (ops : Array Oper) : Bool := ops.toList.all fun o => match o.op with | .defer _ => false | _ => true
theorem wpOpIn_of_wpOp {l i : Nat} {a : Act} {w : World} {K K' : Act → World → Prop} (hnd : noDefers ops = true) (hlo : ¬ LetsOut Q) (h : ∀ a w, K a w → K' a w) (hh : wpOp P ops Q i K a w) : wpOpIn (Fence.wide.inRound l) 0 P ops Q i K' a w := by
  unfold wpOp at hh
  unfold wpOpIn
  split
  · exact h _ _ (by simpa [*] using hh)
  · rename_i o ho
    simp only [ho] at hh
    have hno : ∀ c, o.op ≠ .defer c := fun c e => by
      unfold noDefers at hnd
      have h1 := List.all_eq_true.1 hnd o (Array.mem_toList_iff.2 (Array.mem_of_getElem? ho))
      rw [e] at h1
      simp at h1
    split
    · rename_i hw
      simp only [hw, if_true] at hh
      rcases hh with hh | ⟨_, hh⟩
      · exact wpIn_of_wp hno h hh
      · exact (hlo hh).elim
    · rename_i hw
      simp only [hw] at hh
      exact ⟨fun f _ => trivial, h _ _ hh⟩
theorem wpAnyIn_of_wpAny {l : Nat} (hnd : noDefers ops = true) (hlo : ¬ LetsOut Q) : ∀ (fuel : Nat) (listed : Array Bool) (a : Act) (w : World), wpAny P md ops Q fuel listed a w → wpAnyIn (Fence.wide.inRound l) 0 P md ops Q fuel listed a w := by
  intro fuel
  induction fuel with
  | zero => intro listed a w h; exact h
  | succ fuel ih =>
    intro listed a w h
    exact ⟨h.1, fun i hi => wpOpIn_of_wpOp hnd hlo (fun a w h9 => ih _ a w h9) (h.2 i hi)⟩
end
end Go.Proofs.YtlmjkbdodecbmaaDoor

namespace Go.Proofs.YtlmjkbdodecbmaaDoor
open Go.RowKit
set_option linter.unusedVariables false
section
variable {P : Program} {ops : Array Oper} {Q : Exit → Act → World → Prop} {S : World → Prop}
/-- What an operation waits for, and what that waits for. -/
inductive DepP (ops : Array Oper) : Nat → Nat → Prop
  | one {j : Nat} {o : Oper} {e : Edge} (ho : ops[j]? = some o) (he : e ∈ o.after) (hb : Region.binds .any e = true) : DepP ops j e.on
  | more {j k : Nat} {o : Oper} {e : Edge} (h : DepP ops j k) (ho : ops[k]? = some o) (he : e ∈ o.after) (hb : Region.binds .any e = true) : DepP ops j e.on
theorem DepP.cons {ops : Array Oper} {j i : Nat} {o : Oper} {e : Edge} (ho : ops[j]? = some o) (he : e ∈ o.after) (hb : Region.binds .any e = true) (h : DepP ops e.on i) : DepP ops j i := by
  have key : ∀ k i, DepP ops k i → k = e.on → DepP ops j i := by
    intro k i h
    induction h with
    | one h1 h2 h3 => intro hk; subst hk; exact .more (.one ho he hb) h1 h2 h3
    | more _ h1 h2 h3 ih => intro hk; exact .more (ih hk) h1 h2 h3
  exact key _ _ h rfl
def depB (ops : Array Oper) : Nat → Nat → Nat → Bool
  | 0, _, _ => false
  | n + 1, j, i => match ops[j]? with
    | some o => o.after.any fun e => Region.binds .any e && (e.on == i || depB ops n e.on i)
    | none => false
theorem depB_spec (ops : Array Oper) : ∀ (n j i : Nat), depB ops n j i = true → DepP ops j i := by
  intro n
  induction n with
  | zero => intro j i h; cases h
  | succ n ih =>
    intro j i h
    unfold depB at h
    cases ho : ops[j]? with
    | none => rw [ho] at h; cases h
    | some o =>
      rw [ho] at h
      obtain ⟨e, he, hb⟩ := Array.any_eq_true'.1 h
      simp only [Bool.and_eq_true, Bool.or_eq_true, beq_iff_eq] at hb
      rcases hb.2 with h1 | h1
      · rw [← h1]; exact .one ho he hb.1
      · exact .cons ho he hb.1 (ih _ _ h1)
/-- The last operation waits for all others; each waits for earlier ones alone. -/
def tailOk3 (ops : Array Oper) : Bool :=
  decide (0 < ops.size) &&
  ((List.range ops.size).all fun j => match ops[j]? with
    | some o => (o.after.all fun e => !Region.binds .any e || decide (e.on < j)) && (match o.guard with | some g => decide (g.1 < ops.size - 1) | none => true)
    | none => true) &&
  (List.range (ops.size - 1)).all fun i => depB ops 4 (ops.size - 1) i
structure TailSpec3 (ops : Array Oper) : Prop where
  pos : 0 < ops.size
  early : ∀ (j : Nat) (o : Oper), ops[j]? = some o → ∀ e ∈ o.after, Region.binds .any e = true → e.on < j
  guard : ∀ (j : Nat) (o : Oper) (g : Nat) (b : Bool), ops[j]? = some o → o.guard = some (g, b) → g < ops.size - 1
  last : ∀ i, i < ops.size - 1 → DepP ops (ops.size - 1) i
theorem tailOk_spec3 (h : tailOk3 ops = true) : TailSpec3 ops := by
  unfold tailOk3 at h
  simp only [Bool.and_eq_true, decide_eq_true_eq, List.all_eq_true, List.mem_range] at h
  obtain ⟨⟨h0, h1⟩, h2⟩ := h
  have hlt : ∀ j o, ops[j]? = some o → j < ops.size := fun j o ho => by
    rcases Nat.lt_or_ge j ops.size with h3 | h3
    · exact h3
    · rw [Array.getElem?_eq_none h3] at ho; cases ho
  refine ⟨h0, fun j o ho e he hb => ?_, fun j o g b ho hg => ?_, fun i hi => ?_⟩
  · have := h1 j (hlt j o ho)
    rw [ho] at this
    simp only [Bool.and_eq_true, Array.all_eq_true_iff_forall_mem, Bool.or_eq_true, Bool.not_eq_true', decide_eq_true_eq] at this
    exact (this.1 e he).resolve_left (by rw [hb]; simp)
  · have := h1 j (hlt j o ho)
    rw [ho] at this
    simp only [hg, Bool.and_eq_true, decide_eq_true_eq] at this
    exact this.2
  · exact depB_spec ops 4 _ _ (h2 i hi)
theorem getD_pop3 {listed : Array Bool} {j : Nat} (d : Bool) (hj : j < listed.size - 1) : listed.pop.getD j d = listed.getD j d := by
  rw [Array.getD_eq_getD_getElem?, Array.getD_eq_getD_getElem?, Array.getElem?_pop, if_pos hj]
theorem ops_pop3 {j : Nat} (hj : j < ops.size - 1) : ops.pop[j]? = ops[j]? := by
  rw [Array.getElem?_pop, if_pos hj]
theorem ready_pop3 (T : TailSpec3 ops) {listed : Array Bool} (hsz : listed.size = ops.size) {j : Nat} (hj : j < ops.size - 1) : j ∈ Region.ready .any ops.pop listed.pop ↔ j ∈ Region.ready .any ops listed := by
  rw [mem_ready, mem_ready, ops_pop3 hj, getD_pop3 true (by omega)]
  constructor
  · rintro ⟨h1, o, ho, h2⟩
    refine ⟨h1, o, ho, fun e he hb => ?_⟩
    have := h2 e he hb
    rwa [getD_pop3 false (by have := T.early j o ho e he hb; omega)] at this
  · rintro ⟨h1, o, ho, h2⟩
    refine ⟨h1, o, ho, fun e he hb => ?_⟩
    have := h2 e he hb
    rwa [getD_pop3 false (by have := T.early j o ho e he hb; omega)]
/-- As long as one is left, one is ready. -/
theorem ready_some3 (T : TailSpec3 ops) {listed : Array Bool} (hsz : listed.size = ops.size) : ∀ (j : Nat), j < ops.size → listed.getD j true = false → ∃ i, i ≤ j ∧ i ∈ Region.ready .any ops listed := by
    intro j hj hl
    induction j using Nat.strongRecOn with
    | ind j ih =>
      by_cases h : ∀ o, ops[j]? = some o → ∀ e ∈ o.after, Region.binds .any e = true → listed.getD e.on false = true
      · exact ⟨j, Nat.le_refl _, mem_ready.2 ⟨hl, ops[j], Array.getElem?_eq_getElem hj, fun e he hb => h _ (Array.getElem?_eq_getElem hj) e he hb⟩⟩
      · have ⟨o, ho, e, he, hb, hn⟩ : ∃ o, ops[j]? = some o ∧ ∃ e ∈ o.after, Region.binds .any e = true ∧ ¬ listed.getD e.on false = true := by
          apply Classical.byContradiction
          intro hc
          exact h fun o ho e he hb => Classical.byContradiction fun hn => hc ⟨o, ho, e, he, hb, hn⟩
        have h1 := T.early j o ho e he hb
        have h2 : listed.getD e.on true = false := by
          have h3 : e.on < listed.size := by omega
          simp only [Array.getD_eq_getD_getElem?, Array.getElem?_eq_getElem h3, Option.getD_some] at hn ⊢
          simpa using hn
        obtain ⟨i, hi, hr⟩ := ih e.on h1 (by omega) h2
        exact ⟨i, by omega, hr⟩
theorem upon_tail3 {o : Oper} {a : Act} {w : World} {K : Act → World → Prop} (h : Oper.wp P o a w K (TailQ P ops Q)) : Oper.wp P o a w K Q := by
  unfold Oper.wp at *
  generalize (execOp a.eval o).run P w = r at *
  cases r with
  | ok n w' => cases n <;> exact h
  | halt x w' => cases x <;> exact h
theorem yielded_pop3 {t : Array Value} {g : Nat} (hg : g < ops.size - 1) : yielded ops.pop t g = yielded ops t g := by
  unfold yielded
  rw [ops_pop3 hg]
theorem wanted_pop3 (T : TailSpec3 ops) {j : Nat} {o : Oper} (ho : ops[j]? = some o) (t : Array Value) : Region.wanted o (yielded ops.pop t) = Region.wanted o (yielded ops t) := by
  unfold Region.wanted
  cases hg : o.guard with
  | none => rfl
  | some gb =>
    obtain ⟨g, b⟩ := gb
    simp only [yielded_pop3 (T.guard j o g b ho hg)]
theorem wpAny_of_init3 (T : TailSpec3 ops) : ∀ (fuel : Nat) (listed : Array Bool) (a : Act) (w : World), listed.size = ops.size → listed.getD (ops.size - 1) true = false → Shut2 ops listed →
    wpAny P .any ops.pop (TailQ P ops Q) fuel listed.pop a w → wpAny P .any ops Q (fuel + 1) listed a w := by
  have hend : ∀ (fuel : Nat) (listed : Array Bool) (a : Act) (w : World), listed.size = ops.size → listed.getD (ops.size - 1) true = false → Region.ready .any ops.pop listed.pop = [] → TailQ P ops Q .normal a w → wpAny P .any ops Q (fuel + 1) listed a w := by
    intro fuel listed a w hsz hn hr hq
    have hall : ∀ j, j < ops.size - 1 → listed.getD j true = true := by
      intro j hj
      cases h : listed.getD j true with
      | true => rfl
      | false =>
        obtain ⟨i, hi, hri⟩ := ready_some3 T hsz j (by omega) h
        have := (ready_pop3 T hsz (by omega)).2 hri
        rw [hr] at this
        cases this
    obtain ⟨k, hk, hrk⟩ := ready_some3 T hsz (ops.size - 1) (by have := T.pos; omega) hn
    have hk2 : k = ops.size - 1 := by
      rcases Nat.lt_or_ge k (ops.size - 1) with h | h
      · have := (ready_pop3 T hsz h).2 hrk
        rw [hr] at this
        cases this
      · omega
    refine ⟨fun h => (by rw [h] at hrk; cases hrk), fun i hi => ?_⟩
    have hi2 : i = ops.size - 1 := by
      have hm := hi
      rw [mem_ready] at hm
      obtain ⟨h1, o, ho, _⟩ := hm
      have hlt : i < ops.size := by
        rcases Nat.lt_or_ge i ops.size with h3 | h3
        · exact h3
        · rw [Array.getElem?_eq_none h3] at ho; cases ho
      rcases Nat.lt_or_ge i (ops.size - 1) with h | h
      · rw [hall i h] at h1; cases h1
      · omega
    subst hi2
    refine wpOp_mono (fun a' w' h' => ?_) hq
    have hr2 : Region.ready .any ops (listed.setIfInBounds (ops.size - 1) true) = [] := by
      rw [List.eq_nil_iff_forall_not_mem]
      intro j hj
      rw [mem_ready] at hj
      obtain ⟨h1, o, ho, _⟩ := hj
      have hlt : j < ops.size := by
        rcases Nat.lt_or_ge j ops.size with h3 | h3
        · exact h3
        · rw [Array.getElem?_eq_none h3] at ho; cases ho
      simp only [Array.getD_eq_getD_getElem?, Array.getElem?_setIfInBounds] at h1
      split at h1
      · rw [if_pos (by omega)] at h1; simp at h1
      · have := hall j (by omega)
        simp only [Array.getD_eq_getD_getElem?] at this
        rw [this] at h1; cases h1
    cases fuel with
    | zero => exact ⟨hr2, h'⟩
    | succ f => exact ⟨fun _ => h', fun i hi => by rw [hr2] at hi; cases hi⟩
  intro fuel
  induction fuel with
  | zero => intro listed a w hsz hn hdc h; exact hend 0 listed a w hsz hn h.1 h.2
  | succ fuel ih =>
    intro listed a w hsz hn hdc h
    obtain ⟨h0, h1⟩ := h
    by_cases hr : Region.ready .any ops.pop listed.pop = []
    · exact hend _ listed a w hsz hn hr (h0 hr)
    refine ⟨fun he => ?_, fun i hi => ?_⟩
    · obtain ⟨i, hi, hri⟩ := ready_some3 T hsz (ops.size - 1) (by have := T.pos; omega) hn
      rw [he] at hri; cases hri
    · have hi' := hi
      rw [mem_ready] at hi'
      obtain ⟨g1, o, ho, g2⟩ := hi'
      have hlt : i < ops.size := by
        rcases Nat.lt_or_ge i ops.size with h3 | h3
        · exact h3
        · rw [Array.getElem?_eq_none h3] at ho; cases ho
      have hin : i < ops.size - 1 := by
        rcases Nat.lt_or_ge i (ops.size - 1) with h3 | h3
        · exact h3
        · exfalso
          have h4 : i = ops.size - 1 := by omega
          subst h4
          apply hr
          rw [List.eq_nil_iff_forall_not_mem]
          intro j hj
          have hjn : j < ops.size - 1 := by
            rw [mem_ready] at hj
            obtain ⟨_, o', ho', _⟩ := hj
            rcases Nat.lt_or_ge j (ops.size - 1) with h5 | h5
            · exact h5
            · rw [Array.getElem?_eq_none (by simp; omega)] at ho'; cases ho'
          have hj2 := (ready_pop3 T hsz hjn).1 hj
          rw [mem_ready] at hj2
          have hlast := T.last j hjn
          have this : listed.getD j false = true := by
            clear hj hj2 hjn
            induction hlast with
            | one h1 h2 h3 => rw [ho] at h1; cases h1; exact g2 _ h2 h3
            | more _ h1 h2 h3 ih => exact hdc _ _ h1 ih _ h2 h3
          have h7 := hj2.1
          have h8 : j < listed.size := by omega
          simp only [Array.getD_eq_getD_getElem?, Array.getElem?_eq_getElem h8, Option.getD_some] at this h7
          rw [this] at h7; cases h7
      have hw := h1 i ((ready_pop3 T hsz hin).2 hi)
      unfold wpOp at hw ⊢
      rw [ops_pop3 hin] at hw
      simp only [ho] at hw ⊢
      rw [wanted_pop3 T ho] at hw
      have hpop : (listed.setIfInBounds i true).pop = listed.pop.setIfInBounds i true := by
        apply Array.ext_getElem?
        intro j
        simp only [Array.getElem?_pop, Array.getElem?_setIfInBounds, Array.size_setIfInBounds, Array.size_pop]
        split <;> split <;> simp_all <;> omega
      have hstep : ∀ a' w', wpAny P .any ops.pop (TailQ P ops Q) fuel (listed.pop.setIfInBounds i true) a' w' → wpAny P .any ops Q (fuel + 1) (listed.setIfInBounds i true) a' w' := by
        intro a' w' h'
        refine ih _ a' w' (by simpa using hsz) ?_ ?_ (by rw [hpop]; exact h')
        rotate_left
        · intro j o9 ho9 hl9 e he hb
          have mono : ∀ k, listed.getD k false = true → (listed.setIfInBounds i true).getD k false = true := by
            intro k hk
            simp only [Array.getD_eq_getD_getElem?, Array.getElem?_setIfInBounds] at hk ⊢
            split
            · split
              · rfl
              · rename_i h8 h9; subst h8; rw [Array.getElem?_eq_none (by omega)] at hk; cases hk
            · exact hk
          by_cases hji : j = i
          · subst hji
            rw [ho] at ho9
            cases ho9
            exact mono _ (g2 e he hb)
          · refine mono _ (hdc j o9 ho9 ?_ e he hb)
            simp only [Array.getD_eq_getD_getElem?, Array.getElem?_setIfInBounds] at hl9 ⊢
            rwa [if_neg (fun h => hji h.symm)] at hl9
        simp only [Array.getD_eq_getD_getElem?, Array.getElem?_setIfInBounds]
        rw [if_neg (by omega)]
        simpa only [Array.getD_eq_getD_getElem?] using hn
      split
      · rename_i hwt
        rw [if_pos hwt] at hw
        exact hw.imp (fun h' => Oper.wp_mono hstep (upon_tail3 h')) id
      · rename_i hwt
        rw [if_neg hwt] at hw
        exact hstep _ _ hw
end
end Go.Proofs.YtlmjkbdodecbmaaDoor
