/-
  Pj20: HeapT TreC TreD TreE TreF SeqI SeqJ SeqV TreG TreH TreI TreJ TreK MathTf MathTg TreL MathTi TreN MathTh LawTg TreP (what is needed of them).
-/
import Derived.Test.YtcpfanpcdkoiaaaGreatDoorPj07
import Derived.Test.YtcpfanpcdkoiaaaGreatDoorPj08
import Derived.Test.YtcpfanpcdkoiaaaGreatDoorPj09
import Derived.Test.YtcpfanpcdkoiaaaGreatDoorPj17
import Derived.Test.YtcpfanpcdkoiaaaGreatDoorPj19
import Derived.RangeFuncNested
import Derived.RangeFuncBound
import Derived.RangeFuncCalls
import Derived.OwnWalkIn
import Derived.OrdersIn
import Derived.Deep.RegionHeld
import Derived.BigQuiet
set_option maxRecDepth 100000
set_option linter.unusedVariables false
set_option linter.unusedSimpArgs false

namespace Go.Proofs.YtcpfanpcdkoiaaaGreatDoor
open Go.RowKit


def icel (ns : List Int) : List Value := ns.map (Value.int .i64)
theorem icel_inv {ns : List Int} {i : Nat} {u : Value} (h : (icel ns)[i]? = some u) : ∃ n, ns[i]? = some n ∧ u = .int .i64 n := by
 unfold icel at h
 rw [List.getElem?_map] at h
 cases hn : ns[i]? with
 | none => rw [hn] at h; cases h
 | some n => rw [hn] at h; cases h; exact ⟨n, rfl, rfl⟩
section
variable {P : Program} {t e : TypeId} {z : Value} {K bytes : Nat}
theorem run_append_none (E : ElemK P t e z K bytes) (ty : TypeId) {w : World} {base n : Nat} {v : Value} {xs : List Value} (hown : OwnsK K base e w v n xs) :
  (Builtin.append_ #[t, t] ty #[v, .slice none 0 0]).run P w = .ok v w := by
 obtain ⟨i, hi, hz, h4, h5⟩ := E.info
 obtain ⟨h1, ⟨rfl, h2⟩ | ⟨g', cap, cur, rfl, h3, h4', h5', h6, h7, h8⟩⟩ := hown
 ·simp [Builtin.append_, run_underlying E.und, sizeOf, typeInfo, hi, Builtin.lenOf, run_firstCells_none]
 ·have hst := run_storeCells_cells (P := P) g' (n * i.size) [] 0 w (by simp) (by simp) (by simp)
  simp only [Nat.add_zero] at hst
  simp [Builtin.append_, run_underlying E.und, sizeOf, typeInfo, hi, Builtin.lenOf, run_firstCells_none, h5', Addr.add_lit, hst]
  rfl
theorem step_appendT (E : ElemK P t e z K bytes) {w : World} {o : Oper} {a : Act} {Kn : Act → World → Prop} {Q : Exit → Act → World → Prop} {s x : Operand} {base n m c : Nat} {v : Value} {xs news : List Value} {xo : Option Addr}
  (hown : OwnsK K base e w v n xs) (ho : o.op = .call { callee := .builtin .append, args := #[s, x], argTypes := #[t, t] }) (hs : a.eval s = v) (hx : a.eval x = .slice xo m c) (hl : news.length = m * K)
  (hsrc : (xo = none ∧ m = 0 ∧ c = 0) ∨ ∃ ad, xo = some ad ∧ ∀ j u, news[j]? = some u → w.cell? (ad.add j) = some u) (h1 : ∀ u ∈ news, u.oneCell' = true) (hb : (n + m) * bytes ≤ 140737488355328) (hm : n + m ≤ maxLen) (hbase : base ≤ w.heap.size)
  (h : ∀ v' w', OwnsK K base e w' v' (n + m) (xs ++ news) → w.grownBy w' v.ownBlock → (v'.ownBlock = v.ownBlock ∨ v'.ownBlock = some w.heap.size) → Kn (a.put o.dst v') w') : Oper.wp P o a w Kn Q := by
 rcases hsrc with ⟨rfl, rfl, rfl⟩ | ⟨ad, rfl, hnews⟩
 ·have hnn : news = [] := List.eq_nil_of_length_eq_zero (by omega)
  subst hnn
  have hrun := run_append_none (P := P) E o.type hown
  unfold Oper.wp
  simp [execOp, ho, resolve, invoke, builtin, hs, hx, hrun, Result.andThen]
  exact h v w (by rw [List.append_nil]; exact hown) (grownBy_refl w _) (.inl rfl)
 ·obtain ⟨i, hi, hz, h4, h5⟩ := E.info
  obtain ⟨v', w', hrun, r1, r2, _, r5⟩ := run_append_own_at (P := P) w base t o.type e i z K bytes E.und hi hz h4 h5 E.many E.pos v n xs hown ad m c news hl hnews h1 hm hb hbase
  unfold Oper.wp
  simp [execOp, ho, resolve, invoke, builtin, hs, hx, hrun, Result.andThen]
  exact h v' w' r1 r2 r5
end
end Go.Proofs.YtcpfanpcdkoiaaaGreatDoor

namespace Go.Proofs.YtcpfanpcdkoiaaaGreatDoor
open Go.RowKit


attribute [local go_sem] field_nat
def ShP (t : TR) (b : Bool) (w : World) (e : Ending) (w' : World) : Prop := ∃ v, e = .returned (.tuple #[v, .bool b]) ∧ Below w.heap.size w w' ∧ (b = true → ∃ ao cap up, v = .slice ao up.length cap ∧ upT t = some up ∧ IntsB w'.heap.size w' ao cap up)
theorem ShP.no {t : TR} {w w' : World} {e : Ending} {v : Value} (h1 : e = .returned (.tuple #[v, .bool false])) (h2 : Below w.heap.size w w') : ShP t false w e w' := ⟨v, h1, h2, fun h => by cases h⟩
def StW (t : TR) (L : List (Nat × Nat)) (N : Nat) (vis st : List (Nat × Nat)) (f : Nat) : Prop := WInv (kidsB t) N vis st ∧ L = vis ++ dfs (kidsB t) f st ∧ N < vis.length + f
theorem StW.step {t : TR} {L : List (Nat × Nat)} {N : Nat} {vis st : List (Nat × Nat)} {f : Nat} {x : Nat × Nat} (ho : OnceF (kidsB t) N) (h : StW t L N vis (x :: st) f) : ∃ f', f = f' + 1 ∧ StW t L N (vis ++ [x]) ((kidsB t x.1).map (fun k => (k, x.2 + 1)) ++ st) f' := by
 obtain ⟨h1, h2, h3⟩ := h
 have hl := h1.len
 rw [List.length_cons] at hl
 obtain ⟨f', rfl⟩ : ∃ f', f = f' + 1 := ⟨f - 1, by omega⟩
 rw [dfs] at h2
 refine ⟨f', rfl, h1.step ho, ?_, ?_⟩
 ·rw [h2]; simp
 ·rw [List.length_append, List.length_singleton]; omega
end Go.Proofs.YtcpfanpcdkoiaaaGreatDoor

namespace Go.Proofs.YtcpfanpcdkoiaaaGreatDoor
open Go.RowKit Go.Shelf


attribute [local go_sem] Oper.semAt_some field_nat
structure StT (t : TR) (L : List (Nat × Nat)) (N : Nat) (vis st : List (Nat × Nat)) (f : Nat) : Prop where
 inv : WInv (kidsT t) N vis st
 eq : L = vis ++ dfs (kidsT t) f st
 fuel : N < vis.length + f
 dep : ∀ y ∈ vis ++ st, y.2 ≤ vis.length + 1
theorem StT.step {t : TR} {L : List (Nat × Nat)} {N : Nat} {vis st : List (Nat × Nat)} {f : Nat} {x : Nat × Nat} (ho : OnceF (kidsT t) N) (h : StT t L N vis (x :: st) f) : vis ++ [x] <+: L ∧ ∃ f', f = f' + 1 ∧ StT t L N (vis ++ [x]) ((kidsT t x.1).map (fun k => (k, x.2 + 1)) ++ st) f' := by
 obtain ⟨h1, h2, h3, h4⟩ := h
 have hl := h1.len
 rw [List.length_cons] at hl
 obtain ⟨f', rfl⟩ : ∃ f', f = f' + 1 := ⟨f - 1, by omega⟩
 rw [dfs] at h2
 refine ⟨⟨_, by rw [h2]; simp; rfl⟩, f', rfl, h1.step ho, by rw [h2]; simp, by rw [List.length_append, List.length_singleton]; omega, fun y hy => ?_⟩
 rw [List.length_append, List.length_singleton]
 have hx := h4 x (by simp)
 rcases List.mem_append.1 hy with hy | hy
 ·rcases List.mem_append.1 hy with hy | hy
  ·have := h4 y (by simp [hy]); omega
  ·rw [List.mem_singleton] at hy; subst hy; omega
 ·rcases List.mem_append.1 hy with hy | hy
  ·obtain ⟨k, hk, rfl⟩ := List.mem_map.1 hy
   show x.2 + 1 ≤ _
   omega
  ·have := h4 y (by simp [hy]); omega
theorem StT.start {t : TR} {N : Nat} (hN : 0 < N) : StT t (dfsAll (kidsT t) N) N [] [(0, 1)] (N + 1) := ⟨WInv.start hN, rfl, by simp, by simp⟩
theorem StT.done {t : TR} {L : List (Nat × Nat)} {N : Nat} {vis : List (Nat × Nat)} {f : Nat} (h : StT t L N vis [] f) : vis = L := by
 rw [h.eq]
 cases f with
 | zero => rw [dfs, List.append_nil]
 | succ f => rw [dfs, List.append_nil]
end Go.Proofs.YtcpfanpcdkoiaaaGreatDoor

namespace Go.Proofs.YtcpfanpcdkoiaaaGreatDoor
open Go.RowKit Go.Shelf


attribute [local go_sem] Oper.semAt_some field_nat
def deepL (l : List (Nat × Nat)) : Nat := l.foldl (fun m x => max m x.2) 0
def DpI (p3 : Nat) (w : World) (pre : List (Nat × Nat)) (S : Nat → Prop) (W : World) : Prop := (S = fun k => k = p3) ∧ BoxL W p3 [.int .i64 (deepL pre : Int)] ∧ Below w.heap.size w W
theorem DpI.mk {p3 : Nat} {w : World} {pre : List (Nat × Nat)} {S : Nat → Prop} {W : World} (h0 : S = fun k => k = p3) (h1 : BoxL W p3 [.int .i64 (deepL pre : Int)]) (h3 : Below w.heap.size w W) : DpI p3 w pre S W := ⟨h0, h1, h3⟩
end Go.Proofs.YtcpfanpcdkoiaaaGreatDoor

namespace Go.Proofs.YtcpfanpcdkoiaaaGreatDoor
open Go.RowKit

section
variable {P : Program} {ops : Array Oper} {Q : Exit → Act → World → Prop} {S : World → Prop}
inductive DepP (ops : Array Oper) : Nat → Nat → Prop
 | one {j : Nat} {o : Oper} {e : Edge} (ho : ops[j]? = some o) (he : e ∈ o.after) (hb : Region.binds .any e = true) : DepP ops j e.on
 | more {j k : Nat} {o : Oper} {e : Edge} (h : DepP ops j k) (ho : ops[k]? = some o) (he : e ∈ o.after) (hb : Region.binds .any e = true) : DepP ops j e.on
theorem DepP.cons {ops : Array Oper} {j i : Nat} {o : Oper} {e : Edge} (ho : ops[j]? = some o) (he : e ∈ o.after) (hb : Region.binds .any e = true) (h : DepP ops e.on i) : DepP ops j i := by
 have key : ∀ k i, DepP ops k i → k = e.on → DepP ops j i := by
  intro k i h
  induction h with
  | one h1 h2 h3 => intro hk; subst hk; exact .more (.one ho he hb) h1 h2 h3
  | more _ h1 h2 h3 ih => intro hk; exact .more (ih hk) h1 h2 h3
 exact key _ _ h rfl
end
end Go.Proofs.YtcpfanpcdkoiaaaGreatDoor

namespace Go.Proofs.YtcpfanpcdkoiaaaGreatDoor
open Go.RowKit Go.Shelf


attribute [local go_sem] Oper.semAt_some field_nat
section
variable {P : Program} {ops : Array Oper} {Q : Exit → Act → World → Prop} {S : World → Prop}
end
def NoStop (stop : Int) (n : Nat) : Prop := ∀ j : Nat, 1 ≤ j → j ≤ n → (j : Int) ≠ stop
theorem NoStop.zero (stop : Int) : NoStop stop 0 := fun j h1 h2 => by omega
theorem NoStop.succ {stop : Int} {n : Nat} (h : NoStop stop n) (hn : ((n + 1 : Nat) : Int) ≠ stop) : NoStop stop (n + 1) := fun j h1 h2 => by
 rcases Nat.lt_or_ge n j with h3 | h3
 ·rw [show j = n + 1 by omega]; exact hn
 ·exact h j h1 h3
theorem step_appendKs {P : Program} {t e : TypeId} {z : Value} {K bytes : Nat} (E : ElemK P t e z K bytes) {w : World} {o : Oper} {a : Act} {Kn : Act → World → Prop} {Q : Exit → Act → World → Prop} {s x : Operand} {us : List Value} {base n : Nat} {v : Value} {xs : List Value} {ad : Addr}
  (hown : OwnsK K base e w v n xs) (ho : o.op = .call { callee := .builtin .append, args := #[s, x], argTypes := #[t, t] }) (hs : a.eval s = v) (hx : a.eval x = .slice (some ad) 1 1) (hul : us.length = K) (hu : ∀ j u', us[j]? = some u' → w.cell? (ad.add j) = some u') (h1 : ∀ u ∈ us, u.oneCell' = true) (hl : (n + 1) * bytes ≤ 140737488355328) (hm : n + 1 ≤ maxLen) (hbase : base ≤ w.heap.size)
  (h : ∀ v' w', OwnsK K base e w' v' (n + 1) (xs ++ us) → w.grownBy w' v.ownBlock → (∀ g, v'.ownBlock = some g → v.ownBlock = some g ∨ w.heap.size ≤ g) → Kn (a.put o.dst v') w') : Oper.wp P o a w Kn Q := by
 obtain ⟨v', w', hrun, r1, r2, r3, r4⟩ := run_appendK E o.type hown ad 1 us hul hu h1 hl hm hbase
 unfold Oper.wp
 simp [execOp, ho, resolve, invoke, builtin, hs, hx, hrun, Result.andThen]
 exact h _ _ r1 r2 r3
def fstI (l : List (Nat × Nat)) : List Int := l.map fun x => (x.1 : Int)
def sndI (l : List (Nat × Nat)) : List Int := l.map fun x => (x.2 : Int)
def TwI (D p3 p6 p7 : Nat) (stop : Int) (w : World) (pre : List (Nat × Nat)) (S : Nat → Prop) (W : World) : Prop := ∃ (ao : Option Addr) (an ac : Nat) (bo : Option Addr) (bn bc : Nat), (S = fun k => (k = p6 ∨ k = p7) ∨ (Value.slice ao an ac).ownBlock = some k ∨ (Value.slice bo bn bc).ownBlock = some k) ∧ BoxL W p3 [.int .i64 stop] ∧ BoxL W p6 [.slice ao an ac] ∧ BoxL W p7 [.slice bo bn bc] ∧
 OwnsK 1 D 3 W (.slice ao an ac) pre.length (icel (fstI pre)) ∧ OwnsK 1 D 3 W (.slice bo bn bc) pre.length (icel (sndI pre)) ∧ (∀ k, (Value.slice ao an ac).ownBlock = some k → (Value.slice bo bn bc).ownBlock ≠ some k) ∧ Below w.heap.size w W
theorem TwI.mk {D p3 p6 p7 : Nat} {stop : Int} {w : World} {pre : List (Nat × Nat)} {S : Nat → Prop} {W : World} {ao : Option Addr} {an ac : Nat} {bo : Option Addr} {bn bc : Nat} (h0 : S = fun k => (k = p6 ∨ k = p7) ∨ (Value.slice ao an ac).ownBlock = some k ∨ (Value.slice bo bn bc).ownBlock = some k) (h1 : BoxL W p3 [.int .i64 stop]) (h2 : BoxL W p6 [.slice ao an ac]) (h3 : BoxL W p7 [.slice bo bn bc])
  (h4 : OwnsK 1 D 3 W (.slice ao an ac) pre.length (icel (fstI pre))) (h6 : OwnsK 1 D 3 W (.slice bo bn bc) pre.length (icel (sndI pre))) (h8 : ∀ k, (Value.slice ao an ac).ownBlock = some k → (Value.slice bo bn bc).ownBlock ≠ some k) (h7 : Below w.heap.size w W) : TwI D p3 p6 p7 stop w pre S W := ⟨ao, an, ac, bo, bn, bc, h0, h1, h2, h3, h4, h6, h8, h7⟩
def TwPost (L : List (Nat × Nat)) (w : World) (e : Ending) (w' : World) : Prop := ∃ (ao : Option Addr) (n ac : Nat) (bo : Option Addr) (bc : Nat), e = .returned (.tuple #[.slice ao n ac, .slice bo n bc]) ∧ Hid (n = L.length) ∧
 OwnsK 1 w.heap.size 3 w' (.slice ao n ac) n (icel (fstI L)) ∧ OwnsK 1 w.heap.size 3 w' (.slice bo n bc) n (icel (sndI L)) ∧ Below w.heap.size w w'
theorem TwPost.mk {L : List (Nat × Nat)} {w w' : World} {e : Ending} {ao : Option Addr} {n ac : Nat} {bo : Option Addr} {bc : Nat} (h1 : e = .returned (.tuple #[.slice ao n ac, .slice bo n bc])) (h2 : Hid (n = L.length)) (h3 : OwnsK 1 w.heap.size 3 w' (.slice ao n ac) n (icel (fstI L))) (h5 : OwnsK 1 w.heap.size 3 w' (.slice bo n bc) n (icel (sndI L))) (h6 : Below w.heap.size w w') : TwPost L w e w' := ⟨ao, n, ac, bo, bc, h1, h2, h3, h5, h6⟩
end Go.Proofs.YtcpfanpcdkoiaaaGreatDoor

namespace Go.Proofs.YtcpfanpcdkoiaaaGreatDoor
open Go.RowKit


attribute [local go_sem] field_nat
structure ValsQ (lo hi : Nat) (w : World) (vo : Option Addr) (vc : Nat) (vs : List V3) : Prop where
 v : Vals w vo vs
 cap : vs.length ≤ vc ∧ vc ≤ maxLen
 len : ∀ v ∈ vs, v.n.length ≤ 9223372036854775807 ∧ v.c.length ≤ 9223372036854775807
 lo : vs ≠ [] → ∃ b off, vo = some ⟨b, off, none⟩ ∧ lo ≤ b ∧ b < hi
 no : vo = none → vc = 0
def Mid (lo hi : Nat) (w w' : World) : Prop := ∀ k, lo ≤ k → k < hi → w'.heap[k]? = w.heap[k]?
theorem Mid.cell {lo hi : Nat} {w w' : World} (h : Mid lo hi w w') {b i : Nat} (h1 : lo ≤ b) (h2 : b < hi) : w'.cell? ⟨b, i, none⟩ = w.cell? ⟨b, i, none⟩ := World.cell?_of_block (a := ⟨b, i, none⟩) (h b h1 h2)
theorem Mid.of_below {lo hi D : Nat} {w w' : World} (h : Below D w w') (hD : hi ≤ D) : Mid lo hi w w' := fun k _ hk => h.block k (by omega)
theorem ValsQ.mid {lo hi : Nat} {w w' : World} {vo : Option Addr} {vc : Nat} {vs : List V3} (h : ValsQ lo hi w vo vc vs) (hl : Mid lo hi w w') : ValsQ lo hi w' vo vc vs := by
 refine ⟨fun i v hi => ?_, h.cap, h.len, h.lo, h.no⟩
 obtain ⟨b, off, e, c0, c1, c2⟩ := h.v i v hi
 obtain ⟨b2, off2, e2, h1, h2⟩ := h.lo (fun e => by rw [e] at hi; simp at hi)
 rw [e] at e2
 cases e2
 exact ⟨b, off, e, ⟨(hl.cell h1 h2).trans c0.cell⟩, ⟨(hl.cell h1 h2).trans c1.cell⟩, ⟨(hl.cell h1 h2).trans c2.cell⟩⟩
theorem ValsQ.widen {lo hi lo' hi' : Nat} {w : World} {vo : Option Addr} {vc : Nat} {vs : List V3} (h : ValsQ lo hi w vo vc vs) (h1 : lo' ≤ lo) (h2 : hi ≤ hi') : ValsQ lo' hi' w vo vc vs :=
 ⟨h.v, h.cap, h.len, fun hn => by obtain ⟨b, off, e, h3, h4⟩ := h.lo hn; exact ⟨b, off, e, by omega, by omega⟩, h.no⟩
theorem ValsQ.toB {lo hi : Nat} {w : World} {vo : Option Addr} {vc : Nat} {vs : List V3} (h : ValsQ lo hi w vo vc vs) : ValsB hi w vo vc vs :=
 ⟨h.v, h.cap, h.len, fun hn => by obtain ⟨b, off, e, h3, h4⟩ := h.lo hn; exact ⟨b, off, e, h4⟩, h.no⟩
inductive PQs (lo hi : Nat) (w : World) : PT → List Value → Prop
 | mk {op fld : Int} {vs : List V3} {ks : List PT} {vo : Option Addr} {vc : Nat} {ko : Option Addr} {kc : Nat} (cf : Nat → List Value) (hv : ValsQ lo hi w vo vc vs) (hkc : ks.length ≤ kc ∧ kc ≤ maxLen) (hno : ko = none → kc = 0)
   (ha : ks = [] ∨ ∃ b off, ko = some ⟨b, off, none⟩ ∧ lo ≤ b ∧ b < hi ∧ ∀ i, i < ks.length → ∀ j c, (cf i)[j]? = some c → w.cell? ⟨b, off + i * 4 + j, none⟩ = some c)
   (hk : ∀ i k, ks[i]? = some k → PQs lo hi w k (cf i)) : PQs lo hi w (.mk op fld vs ks) (pcs op fld vo vs.length vc ko ks.length kc)
theorem PQs.mid {lo hi : Nat} {w w' : World} (hl : Mid lo hi w w') {p : PT} {cs : List Value} (h : PQs lo hi w p cs) : PQs lo hi w' p cs := by
 induction h with
 | mk cf hv hkc hno ha hk ih =>
  refine .mk cf (hv.mid hl) hkc hno ?_ ih
  rcases ha with ha | ⟨b, off, h1, h2, h3, h4⟩
  ·exact .inl ha
  ·exact .inr ⟨b, off, h1, h2, h3, fun i hi j c hj => (hl.cell h2 h3).trans (h4 i hi j c hj)⟩
theorem PQs.widen {lo hi lo' hi' : Nat} {w : World} (h1 : lo' ≤ lo) (h2 : hi ≤ hi') {p : PT} {cs : List Value} (h : PQs lo hi w p cs) : PQs lo' hi' w p cs := by
 induction h with
 | mk cf hv hkc hno ha hk ih =>
  refine .mk cf (hv.widen h1 h2) hkc hno ?_ ih
  rcases ha with ha | ⟨b, off, h3, h4, h5, h6⟩
  ·exact .inl ha
  ·exact .inr ⟨b, off, h3, by omega, by omega, h6⟩
theorem PQs.toP {lo hi : Nat} {w : World} {p : PT} {cs : List Value} (h : PQs lo hi w p cs) : PIs hi w p cs := by
 induction h with
 | mk cf hv hkc hno ha hk ih =>
  refine .mk cf hv.toB hkc hno ?_ ih
  rcases ha with ha | ⟨b, off, h3, h4, h5, h6⟩
  ·exact .inl ha
  ·exact .inr ⟨b, off, h3, h5, h6⟩
def PQt (lo hi : Nat) (w : World) (p : PT) (vo : Option Addr) (vc : Nat) (ko : Option Addr) (kc : Nat) : Prop := PQs lo hi w p (pcs p.op p.fld vo p.vals.length vc ko p.kids.length kc)
theorem PQt.mid {lo hi : Nat} {w w' : World} {p : PT} {vo : Option Addr} {vc : Nat} {ko : Option Addr} {kc : Nat} (h : PQt lo hi w p vo vc ko kc) (hl : Mid lo hi w w') : PQt lo hi w' p vo vc ko kc := PQs.mid hl h
theorem PQt.widen {lo hi lo' hi' : Nat} {w : World} {p : PT} {vo : Option Addr} {vc : Nat} {ko : Option Addr} {kc : Nat} (h : PQt lo hi w p vo vc ko kc) (h1 : lo' ≤ lo) (h2 : hi ≤ hi') : PQt lo' hi' w p vo vc ko kc := PQs.widen h1 h2 h
theorem PQt.toP {lo hi : Nat} {w : World} {p : PT} {vo : Option Addr} {vc : Nat} {ko : Option Addr} {kc : Nat} (h : PQt lo hi w p vo vc ko kc) : PtIs hi w p vo vc ko kc := PQs.toP h
def RowQ (D hi : Nat) (G : Nat → Prop) (w : World) : List PT → List Value → Prop
 | [], xs => xs = []
 | p :: ps, xs => ∃ (a b : Nat) (vo : Option Addr) (vc : Nat) (ko : Option Addr) (kc : Nat) (r : List Value), D ≤ a ∧ b ≤ hi ∧ (∀ g, G g → ¬ (a ≤ g ∧ g < b)) ∧ PQt a b w p vo vc ko kc ∧ RowQ D hi G w ps r ∧ xs = pcs p.op p.fld vo p.vals.length vc ko p.kids.length kc ++ r
theorem RowQ.go {D hi hi' : Nat} {G G' : Nat → Prop} {w w' : World} (h1 : hi ≤ hi') (h2 : ∀ g, G' g → G g ∨ hi ≤ g) (h3 : ∀ k, D ≤ k → k < hi → ¬ G k → w'.heap[k]? = w.heap[k]?) : ∀ {ps : List PT} {xs : List Value}, RowQ D hi G w ps xs → RowQ D hi' G' w' ps xs := by
 intro ps
 induction ps with
 | nil => intro xs h; exact h
 | cons p ps ih =>
  rintro xs ⟨a, b, vo, vc, ko, kc, r, q1, q2, q3, q4, q5, q6⟩
  refine ⟨a, b, vo, vc, ko, kc, r, q1, by omega, fun g hg hab => ?_, q4.mid (fun k ha hb => h3 k (by omega) (by omega) (fun hG => q3 k hG ⟨ha, hb⟩)), ih q5, q6⟩
  rcases h2 g hg with h | h
  ·exact q3 g h hab
  ·omega
theorem RowQ.snoc {D hi : Nat} {G : Nat → Prop} {w : World} {p : PT} {a b : Nat} {vo : Option Addr} {vc : Nat} {ko : Option Addr} {kc : Nat} (h1 : D ≤ a) (h2 : b ≤ hi) (h3 : ∀ g, G g → ¬ (a ≤ g ∧ g < b)) (h4 : PQt a b w p vo vc ko kc) : ∀ {ps : List PT} {xs : List Value}, RowQ D hi G w ps xs → RowQ D hi G w (ps ++ [p]) (xs ++ pcs p.op p.fld vo p.vals.length vc ko p.kids.length kc) := by
 intro ps
 induction ps with
 | nil =>
  intro xs h
  have h9 : xs = [] := h
  subst h9
  exact ⟨a, b, vo, vc, ko, kc, [], h1, h2, h3, h4, rfl, by simp⟩
 | cons q ps ih =>
  rintro xs ⟨a', b', vo', vc', ko', kc', r, q1, q2, q3, q4, q5, q6⟩
  exact ⟨a', b', vo', vc', ko', kc', _, q1, q2, q3, q4, ih q5, by rw [q6, List.append_assoc]⟩
theorem RowQ.len {D hi : Nat} {G : Nat → Prop} {w : World} : ∀ {ps : List PT} {xs : List Value}, RowQ D hi G w ps xs → xs.length = ps.length * 4 := by
 intro ps
 induction ps with
 | nil => intro xs h; rw [show xs = [] from h]; rfl
 | cons p ps ih =>
  rintro xs ⟨a, b, vo, vc, ko, kc, r, q1, q2, q3, q4, q5, rfl⟩
  rw [List.length_append, ih q5, List.length_cons]
  simp [pcs]
  omega
theorem RowQ.cells {D hi : Nat} {G : Nat → Prop} {w : World} : ∀ {ps : List PT} {xs : List Value}, RowQ D hi G w ps xs → ∃ cf : Nat → List Value, (∀ i, i < ps.length → ∀ (j : Nat) (c : Value), (cf i)[j]? = some c → xs[i * 4 + j]? = some c) ∧ ∀ i k, ps[i]? = some k → PQs D hi w k (cf i) := by
 intro ps
 induction ps with
 | nil => intro xs h; exact ⟨fun _ => [], fun i hi => absurd hi (Nat.not_lt_zero _), fun i k hk => by simp at hk⟩
 | cons p ps ih =>
  rintro xs ⟨a, b, vo, vc, ko, kc, r, q1, q2, q3, q4, q5, rfl⟩
  obtain ⟨cf, c1, c2⟩ := ih q5
  refine ⟨fun i => match i with | 0 => pcs p.op p.fld vo p.vals.length vc ko p.kids.length kc | i + 1 => cf i, fun i hi j c hj => ?_, fun i k hk => ?_⟩
  ·cases i with
   | zero =>
    have hj9 : (pcs p.op p.fld vo p.vals.length vc ko p.kids.length kc)[j]? = some c := hj
    rw [Nat.zero_mul, Nat.zero_add, List.getElem?_append_left (List.getElem?_eq_some_iff.1 hj9).1]
    exact hj9
   | succ i =>
    have hj9 : (cf i)[j]? = some c := hj
    have h4 : (pcs p.op p.fld vo p.vals.length vc ko p.kids.length kc).length = 4 := rfl
    rw [List.getElem?_append_right (by rw [h4]; omega), h4, show (i + 1) * 4 + j - 4 = i * 4 + j by omega]
    exact c1 i (by simpa using hi) j c hj9
  ·cases i with
   | zero => simp at hk; subst hk; exact PQs.widen q1 q2 q4
   | succ i => simp at hk; exact c2 i k hk
theorem vcells_one (vs : List V3) : ∀ u ∈ vcells vs, u.oneCell' = true := by
 intro u hu
 unfold vcells at hu
 obtain ⟨v, _, hv⟩ := List.mem_flatMap.1 hu
 simp at hv
 rcases hv with rfl | rfl | rfl <;> rfl
end Go.Proofs.YtcpfanpcdkoiaaaGreatDoor

namespace Go.Proofs.YtcpfanpcdkoiaaaGreatDoor
open Go.RowKit


theorem walkT_len {t : TR} (h : shapeB t = true) : (walkT t).length = t.N := by
 obtain ⟨_, _, _, _, _, hl, _⟩ := shapeB_true h
 exact hl
end Go.Proofs.YtcpfanpcdkoiaaaGreatDoor

namespace Go.Proofs.YtcpfanpcdkoiaaaGreatDoor
open Go.RowKit


def posT (t : TR) (n : Nat) : Nat := ((walkT t).map Prod.fst).idxOf n
def newN (t : TR) (n : TN) : TN := ⟨n.p, n.sc, n.ct, n.kids.map (fun k => ((posT t k.toNat : Nat) : Int)), if 0 ≤ n.df ∧ n.df < (t.N : Int) then ((posT t n.df.toNat : Nat) : Int) else -1⟩
def orderT (t : TR) : TR := ⟨(walkT t).map (fun x => newN t (t.nodes[x.1]?.getD default)), t.ms, t.nt⟩
end Go.Proofs.YtcpfanpcdkoiaaaGreatDoor

namespace Go.Proofs.YtcpfanpcdkoiaaaGreatDoor
open Go.RowKit


theorem walk_fst_nd {t : TR} (h : shapeB t = true) : ((walkT t).map Prod.fst).Nodup := by
 obtain ⟨_, _, _, _, hi, _, _⟩ := shapeB_true h
 exact fst_nd hi
theorem walk_fst_lt {t : TR} (h : shapeB t = true) {x : Nat × Nat} (hx : x ∈ walkT t) : x.1 < t.N := by
 obtain ⟨_, _, _, _, hi, _, _⟩ := shapeB_true h
 exact hi.lt x (by simpa using hx)
theorem walk_mem {t : TR} (h : shapeB t = true) {n : Nat} (hn : n < t.N) : n ∈ (walkT t).map Prod.fst := by
 obtain ⟨d, hd⟩ := walkT_all h n hn
 exact List.mem_map.2 ⟨_, hd, rfl⟩
theorem posT_lt {t : TR} (h : shapeB t = true) {n : Nat} (hn : n < t.N) : posT t n < t.N := by
 have h1 := List.idxOf_lt_length_of_mem (walk_mem h hn)
 rw [List.length_map, walkT_len h] at h1
 exact h1
theorem posT_get {t : TR} (h : shapeB t = true) {n : Nat} (hn : n < t.N) : ((walkT t).map Prod.fst)[posT t n]? = some n := by
 have h1 := List.idxOf_lt_length_of_mem (walk_mem h hn)
 have h2 : posT t n < ((walkT t).map Prod.fst).length := h1
 rw [List.getElem?_eq_getElem h2]
 congr 1
 exact List.getElem_idxOf h1
theorem posT_inj {t : TR} (h : shapeB t = true) {n m : Nat} (hn : n < t.N) (hm : m < t.N) (he : posT t n = posT t m) : n = m := by
 have h1 := posT_get h hn
 rw [he, posT_get h hm] at h1
 cases h1
 rfl
theorem nodup_idx : ∀ {l : List Nat} {i j a : Nat}, l.Nodup → l[i]? = some a → l[j]? = some a → i = j := by
 intro l
 induction l with
 | nil => intro i j a _ h; simp at h
 | cons b l ih =>
  intro i j a hn hi hj
  rw [List.nodup_cons] at hn
  cases i with
  | zero =>
   cases j with
   | zero => rfl
   | succ j =>
    simp at hi hj
    subst hi
    exact absurd (List.mem_of_getElem? hj) hn.1
  | succ i =>
   cases j with
   | zero =>
    simp at hi hj
    subst hj
    exact absurd (List.mem_of_getElem? hi) hn.1
   | succ j =>
    simp at hi hj
    rw [ih hn.2 hi hj]
theorem posT_at {t : TR} (h : shapeB t = true) {p : Nat} {x : Nat × Nat} (hp : (walkT t)[p]? = some x) : posT t x.1 = p := by
 have hx := walk_fst_lt h (List.mem_of_getElem? hp)
 have h1 := posT_get h hx
 have h2 : ((walkT t).map Prod.fst)[p]? = some x.1 := by rw [List.getElem?_map, hp]; rfl
 exact nodup_idx (walk_fst_nd h) h1 h2
theorem orderT_len {t : TR} (h : shapeB t = true) : (orderT t).nodes.length = t.N := by unfold orderT; rw [List.length_map, walkT_len h]
theorem orderT_at {t : TR} (h : shapeB t = true) {p : Nat} {y : TN} (hp : (orderT t).nodes[p]? = some y) : ∃ j n, j < t.N ∧ t.nodes[j]? = some n ∧ posT t j = p ∧ y = newN t n := by
 unfold orderT at hp
 rw [List.getElem?_map] at hp
 cases hw : (walkT t)[p]? with
 | none => rw [hw] at hp; cases hp
 | some x =>
  rw [hw] at hp
  have hx := walk_fst_lt h (List.mem_of_getElem? hw)
  have hn : t.nodes[x.1]? = some (t.nodes[x.1]'hx) := List.getElem?_eq_getElem hx
  simp only [Option.map_some, Option.some.injEq] at hp
  rw [hn, Option.getD_some] at hp
  exact ⟨x.1, _, hx, hn, posT_at h hw, hp.symm⟩
def set8 (cs : List Value) (o : Nat) (x0 x1 x2 x3 x4 x5 x6 x7 : Value) : List Value := (((((((cs.set o x0).set (o + 1) x1).set (o + 2) x2).set (o + 3) x3).set (o + 4) x4).set (o + 5) x5).set (o + 6) x6).set (o + 7) x7
theorem set8_len (cs : List Value) (o : Nat) (x0 x1 x2 x3 x4 x5 x6 x7 : Value) : (set8 cs o x0 x1 x2 x3 x4 x5 x6 x7).length = cs.length := by unfold set8; simp
theorem set8_ne {cs : List Value} {o i : Nat} {x0 x1 x2 x3 x4 x5 x6 x7 : Value} (h : i < o ∨ o + 8 ≤ i) : (set8 cs o x0 x1 x2 x3 x4 x5 x6 x7)[i]? = cs[i]? := by
 unfold set8
 rw [List.getElem?_set_ne (by omega), List.getElem?_set_ne (by omega), List.getElem?_set_ne (by omega), List.getElem?_set_ne (by omega), List.getElem?_set_ne (by omega), List.getElem?_set_ne (by omega), List.getElem?_set_ne (by omega), List.getElem?_set_ne (by omega)]
def Ls8 (cs : List Value) (o : Nat) (x0 x1 x2 x3 x4 x5 x6 x7 : Value) : Prop := cs[o]? = some x0 ∧ cs[o + 1]? = some x1 ∧ cs[o + 2]? = some x2 ∧ cs[o + 3]? = some x3 ∧ cs[o + 4]? = some x4 ∧ cs[o + 5]? = some x5 ∧ cs[o + 6]? = some x6 ∧ cs[o + 7]? = some x7
theorem set8_at {cs : List Value} {o : Nat} {x0 x1 x2 x3 x4 x5 x6 x7 : Value} (h : o + 8 ≤ cs.length) : Ls8 (set8 cs o x0 x1 x2 x3 x4 x5 x6 x7) o x0 x1 x2 x3 x4 x5 x6 x7 := by
 unfold set8 Ls8
 refine ⟨?_, ?_, ?_, ?_, ?_, ?_, ?_, ?_⟩ <;> simp [List.getElem?_set] <;> omega
theorem Ls8.keep {cs cs' : List Value} {o : Nat} {x0 x1 x2 x3 x4 x5 x6 x7 : Value} (h : Ls8 cs o x0 x1 x2 x3 x4 x5 x6 x7) (hs : ∀ c, c < 8 → cs'[o + c]? = cs[o + c]?) : Ls8 cs' o x0 x1 x2 x3 x4 x5 x6 x7 := by
 obtain ⟨a0, a1, a2, a3, a4, a5, a6, a7⟩ := h
 exact ⟨(hs 0 (by omega)).trans a0, (hs 1 (by omega)).trans a1, (hs 2 (by omega)).trans a2, (hs 3 (by omega)).trans a3, (hs 4 (by omega)).trans a4, (hs 5 (by omega)).trans a5, (hs 6 (by omega)).trans a6, (hs 7 (by omega)).trans a7⟩
theorem BoxL.set8 {w : World} {b : Nat} {cs : List Value} (h : BoxL w b cs) {o : Nat} (x0 x1 x2 x3 x4 x5 x6 x7 : Value) (ho : o + 8 ≤ cs.length) :
  BoxL ((((((((w.setCell ⟨b, o, none⟩ x0).setCell ⟨b, o + 1, none⟩ x1).setCell ⟨b, o + 2, none⟩ x2).setCell ⟨b, o + 3, none⟩ x3).setCell ⟨b, o + 4, none⟩ x4).setCell ⟨b, o + 5, none⟩ x5).setCell ⟨b, o + 6, none⟩ x6).setCell ⟨b, o + 7, none⟩ x7) b (Go.Proofs.YtcpfanpcdkoiaaaGreatDoor.set8 cs o x0 x1 x2 x3 x4 x5 x6 x7) := by
 unfold Go.Proofs.YtcpfanpcdkoiaaaGreatDoor.set8
 exact (((((((h.set o x0 (by omega)).set (o + 1) x1 (by simp; omega)).set (o + 2) x2 (by simp; omega)).set (o + 3) x3 (by simp; omega)).set (o + 4) x4 (by simp; omega)).set (o + 5) x5 (by simp; omega)).set (o + 6) x6 (by simp; omega)).set (o + 7) x7 (by simp; omega)
theorem Ls8.at8 {w : World} {b : Nat} {cs : List Value} {o : Nat} {x0 x1 x2 x3 x4 x5 x6 x7 : Value} (h : Ls8 cs o x0 x1 x2 x3 x4 x5 x6 x7) (hb : BoxL w b cs) : At8 w b o x0 x1 x2 x3 x4 x5 x6 x7 := by
 obtain ⟨a0, a1, a2, a3, a4, a5, a6, a7⟩ := h
 exact ⟨hb.cell _ _ a0, hb.cell _ _ a1, hb.cell _ _ a2, hb.cell _ _ a3, hb.cell _ _ a4, hb.cell _ _ a5, hb.cell _ _ a6, hb.cell _ _ a7⟩
end Go.Proofs.YtcpfanpcdkoiaaaGreatDoor

namespace Go.Proofs.YtcpfanpcdkoiaaaGreatDoor
open Go.RowKit Go.Shelf


structure IntsQ (lo hi : Nat) (w : World) (io : Option Addr) (ic : Nat) (ns : List Int) : Prop where
 cap : ns.length ≤ ic ∧ ic ≤ maxLen
 no : io = none → ic = 0
 at_ : ∀ (i : Nat) (n : Int), ns[i]? = some n → ∃ b off, io = some ⟨b, off, none⟩ ∧ lo ≤ b ∧ b < hi ∧ w.cell? ⟨b, off + i, none⟩ = some (.int .i64 n)
theorem IntsQ.mid {lo hi : Nat} {w w' : World} {io : Option Addr} {ic : Nat} {ns : List Int} (h : IntsQ lo hi w io ic ns) (hl : Mid lo hi w w') : IntsQ lo hi w' io ic ns :=
 ⟨h.cap, h.no, fun i n hi => by obtain ⟨b, off, e, h1, h2, hc⟩ := h.at_ i n hi; exact ⟨b, off, e, h1, h2, (hl.cell h1 h2).trans hc⟩⟩
theorem IntsQ.widen {lo hi lo' hi' : Nat} {w : World} {io : Option Addr} {ic : Nat} {ns : List Int} (h : IntsQ lo hi w io ic ns) (h1 : lo' ≤ lo) (h2 : hi ≤ hi') : IntsQ lo' hi' w io ic ns :=
 ⟨h.cap, h.no, fun i n hi => by obtain ⟨b, off, e, h3, h4, hc⟩ := h.at_ i n hi; exact ⟨b, off, e, by omega, by omega, hc⟩⟩
theorem IntsQ.toB {lo hi : Nat} {w : World} {io : Option Addr} {ic : Nat} {ns : List Int} (h : IntsQ lo hi w io ic ns) : IntsB hi w io ic ns :=
 ⟨h.cap, h.no, fun i n hi => by obtain ⟨b, off, e, h1, h2, hc⟩ := h.at_ i n hi; exact ⟨b, off, e, h2, hc⟩⟩
structure NdQ (lo hi : Nat) (w : World) (n : TN) (l : NdL) : Prop where
 p : PQt lo hi w n.p l.vo l.vc l.ko l.kc
 k : IntsQ lo hi w l.io l.ic n.kids
 sc : n.sc.length ≤ 9223372036854775807
 ct : n.ct.length ≤ 9223372036854775807
theorem NdQ.mid {lo hi : Nat} {w w' : World} {n : TN} {l : NdL} (h : NdQ lo hi w n l) (hl : Mid lo hi w w') : NdQ lo hi w' n l := ⟨h.p.mid hl, h.k.mid hl, h.sc, h.ct⟩
theorem NdQ.widen {lo hi lo' hi' : Nat} {w : World} {n : TN} {l : NdL} (h : NdQ lo hi w n l) (h1 : lo' ≤ lo) (h2 : hi ≤ hi') : NdQ lo' hi' w n l := ⟨h.p.widen h1 h2, h.k.widen h1 h2, h.sc, h.ct⟩
theorem NdQ.toB {lo hi : Nat} {w : World} {n : TN} {l : NdL} (h : NdQ lo hi w n l) : NdIs hi w n l := ⟨h.p.toP, h.k.toB, h.sc, h.ct⟩
abbrev ndLs (cs : List Value) (o : Nat) (n : TN) (l : NdL) : Prop := Ls8 cs o (.int .i64 n.p.op) (.int .i64 n.p.fld) (.slice l.vo n.p.vals.length l.vc) (.slice l.ko n.p.kids.length l.kc) (.string ⟨n.sc.toArray⟩) (.string ⟨n.ct.toArray⟩) (.slice l.io n.kids.length l.ic) (.int .i64 n.df)
def OdRow (t : TR) (D hi : Nat) (W : World) (cs : List Value) (i : Nat) : Prop := cs.length = t.N * 8 ∧ ∀ (j : Nat) (n : TN), j < i → t.nodes[j]? = some n → ∃ l, NdQ D hi W (newN t n) l ∧ ndLs cs (posT t j * 8) (newN t n) l
theorem OdRow.go {t : TR} {D hi hi' : Nat} {W W' : World} {cs : List Value} {i : Nat} (h : OdRow t D hi W cs i) (h1 : hi ≤ hi') (hm : Mid D hi W W') : OdRow t D hi' W' cs i :=
 ⟨h.1, fun j n hj hn => by obtain ⟨l, h3, h4⟩ := h.2 j n hj hn; exact ⟨l, (h3.mid hm).widen (Nat.le_refl _) h1, h4⟩⟩
theorem OdRow.start {t : TR} {D hi : Nat} {W : World} {cs : List Value} (h : cs.length = t.N * 8) : OdRow t D hi W cs 0 := ⟨h, fun j n hj => absurd hj (Nat.not_lt_zero _)⟩
theorem OdRow.room {t : TR} {D hi : Nat} {W : World} {cs : List Value} {i j : Nat} (hs : shapeB t = true) (h : OdRow t D hi W cs i) (hj : j < t.N) : posT t j * 8 + 8 ≤ cs.length := by
 have := posT_lt hs hj
 rw [h.1]
 omega
theorem OdRow.step {t : TR} {D hi : Nat} {W : World} {cs : List Value} {i : Nat} {n : TN} {l : NdL} (hs : shapeB t = true) (h : OdRow t D hi W cs i) (hn : t.nodes[i]? = some n) (hq : NdQ D hi W (newN t n) l) :
  OdRow t D hi W (set8 cs (posT t i * 8) (.int .i64 (newN t n).p.op) (.int .i64 (newN t n).p.fld) (.slice l.vo (newN t n).p.vals.length l.vc) (.slice l.ko (newN t n).p.kids.length l.kc) (.string ⟨(newN t n).sc.toArray⟩) (.string ⟨(newN t n).ct.toArray⟩) (.slice l.io (newN t n).kids.length l.ic) (.int .i64 (newN t n).df)) (i + 1) := by
 have hi9 : i < t.N := (List.getElem?_eq_some_iff.1 hn).1
 refine ⟨by rw [set8_len]; exact h.1, fun j m hj hm => ?_⟩
 by_cases hji : j = i
 ·subst hji
  rw [hn] at hm
  cases hm
  exact ⟨l, hq, set8_at (h.room hs hi9)⟩
 ·obtain ⟨l2, h3, h4⟩ := h.2 j m (by omega) hm
  refine ⟨l2, h3, Ls8.keep h4 fun c hc => ?_⟩
  have hj9 : j < t.N := (List.getElem?_eq_some_iff.1 hm).1
  have hne : posT t j ≠ posT t i := fun e => hji (posT_inj hs hj9 hi9 e)
  exact set8_ne (by omega)
theorem OdRow.done {t : TR} {D hi g : Nat} {W : World} {cs : List Value} (hs : shapeB t = true) (h : OdRow t D hi W cs t.N) (hb : BoxL W g cs) (hg : g < hi) (hN : t.N ≤ maxLen) : TrIs hi W (orderT t) (some ⟨g, 0, none⟩) t.N := by
 refine ⟨⟨by rw [orderT_len hs]; exact Nat.le_refl _, hN⟩, (fun e => by cases e), fun p y hp => ?_⟩
 obtain ⟨j, n, hj, hn, hpj, rfl⟩ := orderT_at hs hp
 obtain ⟨l, h3, h4⟩ := h.2 j n hj hn
 refine ⟨g, 0, l, rfl, hg, h3.toB, ?_⟩
 rw [Nat.zero_add, ← hpj]
 exact h4.at8 hb
section
variable {P : Program} {t e : TypeId} {z : Value} {K bytes : Nat}
end
def NoPan (Q : Exit → Act → World → Prop) : Exit → Act → World → Prop
 | .panic _, _, _ => False
 | e, a, w => Q e a w
theorem NoPan.out {Q : Exit → Act → World → Prop} {e : Exit} {a : Act} {w : World} (h : NoPan Q e a w) : Q e a w := by cases e <;> first | exact h | exact h.elim
theorem NoPan.normal {Q : Exit → Act → World → Prop} {a : Act} {w : World} (h : Q .normal a w) : NoPan Q .normal a w := h
def OdC (p1 p2 p6 pn N : Nat) (t : TR) (no : Option Addr) (nc B : Nat) (w W : World) : Prop := BoxL W p1 [.slice no t.nodes.length nc, .int .i64 t.ms, .int .i64 t.nt] ∧ BoxL W p2 [.slice none 0 0, .int .i64 0, .int .i64 0] ∧ BoxL W p6 [.slice (some ⟨pn, 0, none⟩) N N] ∧ Hid (TrIs B W t no nc) ∧ Below w.heap.size w W ∧ B ≤ W.heap.size
theorem OdC.keep {p1 p2 p6 pn N : Nat} {t : TR} {no : Option Addr} {nc B : Nat} {w W W' : World} {S : Nat → Prop} (h : OdC p1 p2 p6 pn N t no nc B w W) (hk : Keep S W W') (hw : ∀ k, S k → w.heap.size ≤ k ∧ B ≤ k ∧ k ≠ p1 ∧ k ≠ p2 ∧ k ≠ p6) : OdC p1 p2 p6 pn N t no nc B w W' := by
 obtain ⟨c1, c2, c6, cT, cb, cB⟩ := h
 refine ⟨c1.keep hk (fun h => (hw _ h).2.2.1 rfl), c2.keep hk (fun h => (hw _ h).2.2.2.1 rfl), c6.keep hk (fun h => (hw _ h).2.2.2.2 rfl), Lib.hid (cT.out.low fun k hk2 => hk.same k (by omega) (fun h => by have := (hw _ h).2.1; omega)), ?_, Nat.le_trans cB hk.size⟩
 exact cb.trans (hk.below (fun k h => (hw k h).1) cb.size)
theorem OdC.kept {p1 p2 p6 pn N : Nat} {t : TR} {no : Option Addr} {nc B : Nat} {w W W' : World} (h : OdC p1 p2 p6 pn N t no nc B w W) (hb : Below W.heap.size W W') : OdC p1 p2 p6 pn N t no nc B w W' :=
 h.keep (S := fun _ => False) (Keep.of_below hb) (fun k h => h.elim)
end Go.Proofs.YtcpfanpcdkoiaaaGreatDoor

namespace Go.Proofs.YtcpfanpcdkoiaaaGreatDoor
open Go.RowKit Go.Shelf


theorem fields_t (ao : Option Addr) (cap : Nat) (xs : List FV) (b9 : Bool) (w : World) (hv : Hid (Flds w ao xs)) (hlen : Hid (xs.length ≤ 9223372036854775807)) (hl : Hid (∀ x ∈ xs, BigF x.f)) (HB : Hid (b9 = fieldsB (xs.map (·.f)))) : Calls Tryz.prog 5 #[.slice ao xs.length cap] w fun e w' => e = .returned (.bool b9) ∧ Below w.heap.size w w' := fieldsBk_any ao cap xs b9 w hv.out hlen.out hl.out HB
end Go.Proofs.YtcpfanpcdkoiaaaGreatDoor

namespace Go.Proofs.YtcpfanpcdkoiaaaGreatDoor
open Go.RowKit Go.Shelf


section
variable {P : Program} {t e : TypeId} {z : Value} {K bytes : Nat}
theorem appendNil (E : ElemK P t e z K bytes) {w : World} {ops : Array Oper} {rest : List Oper} {o : Oper} {a : Act} {Q : Exit → Act → World → Prop} {s x : Operand} {m c : Nat} {news : List Value} {xo : Option Addr}
  (hsrc : (xo = none ∧ m = 0 ∧ c = 0) ∨ ∃ ad, xo = some ad ∧ ∀ j u, news[j]? = some u → w.cell? (ad.add j) = some u) (hl : news.length = m * K) (h1 : ∀ u ∈ news, u.oneCell' = true) (hb : m * bytes ≤ 140737488355328) (hm : m ≤ maxLen)
  (hgd : o.guard = none) (ho : o.op = .call { callee := .builtin .append, args := #[s, x], argTypes := #[t, t] }) (hs : a.eval s = .slice none 0 0) (hx : a.eval x = .slice xo m c)
  (h : ∀ v' w', OwnsK K w.heap.size e w' v' m news → Below w.heap.size w w' → wpList P ops Q rest (a.put o.dst v') w') : wpList P ops Q (o :: rest) a w := by
 refine wpList_plain hgd fun K' hK => step_appendT E (OwnsK.nil _ w.heap.size e w) ho hs hx hl hsrc h1 (by simpa using hb) (by simpa using hm) (Nat.le_refl _) fun v' w' r1 r2 _ => hK _ _ (h v' w' (by simpa using r1) ⟨r2.os, r2.tape, r2.output, r2.size, fun k hk => r2.block k hk (by simp [Value.ownBlock])⟩)
end
theorem IntsB.src {B : Nat} {w : World} {io : Option Addr} {ic : Nat} {ns : List Int} (h : IntsB B w io ic ns) : (io = none ∧ ns.length = 0 ∧ ic = 0) ∨ ∃ ad, io = some ad ∧ ∀ j u, (icel ns)[j]? = some u → w.cell? (ad.add j) = some u := by
 cases hio : io with
 | none =>
  have h1 := h.no hio
  have h2 := h.cap
  exact .inl ⟨rfl, by omega, h1⟩
 | some ad =>
  refine .inr ⟨ad, rfl, fun j u hj => ?_⟩
  obtain ⟨n, hn, rfl⟩ := icel_inv hj
  obtain ⟨b, off, e, hb, hc⟩ := h.at_ j n hn
  rw [hio] at e
  cases e
  rw [Addr.add_lit]
  exact hc
theorem IntsB.rest {B : Nat} {w : World} {b off ic : Nat} {n : Int} {ns : List Int} (h : IntsB B w (some ⟨b, off, none⟩) ic (n :: ns)) : IntsB B w (some ⟨b, off + 1, none⟩) (ic - 1) ns := by
 have hc := h.cap
 rw [List.length_cons] at hc
 refine ⟨⟨by omega, by omega⟩, fun e => (by cases e), fun i x hi => ?_⟩
 obtain ⟨b', off', e, hb, hx⟩ := h.at_ (i + 1) x (by simpa using hi)
 cases e
 exact ⟨b, off + 1, rfl, hb, by rw [show off + 1 + i = off + (i + 1) by omega]; exact hx⟩
theorem TrIs.cells {B : Nat} {w : World} {t : TR} {b off nc : Nat} (h : TrIs B w t (some ⟨b, off, none⟩) nc) : ∀ k, k ≤ t.nodes.length → ∃ news : List Value, news.length = k * 8 ∧ (∀ j u, news[j]? = some u → w.cell? ⟨b, off + j, none⟩ = some u) ∧ (∀ u ∈ news, u.oneCell' = true) ∧ ∀ i n, i < k → t.nodes[i]? = some n → ∃ l, NdIs B w n l ∧ ndLs news (i * 8) n l := by
 intro k
 induction k with
 | zero => intro _; exact ⟨[], rfl, by simp, by simp, fun i n hi => absurd hi (Nat.not_lt_zero _)⟩
 | succ k ih =>
  intro hk
  obtain ⟨news, h1, h2, h3, h4⟩ := ih (by omega)
  obtain ⟨n, hn⟩ : ∃ n, t.nodes[k]? = some n := ⟨_, List.getElem?_eq_getElem (by omega)⟩
  obtain ⟨b', off', l, e, hb, h5, h6⟩ := h.at_ k n hn
  cases e
  obtain ⟨c0, c1, c2, c3, c4, c5, c6, c7⟩ := h6
  obtain ⟨cs, hcs⟩ : ∃ cs : List Value, cs = [.int .i64 n.p.op, .int .i64 n.p.fld, .slice l.vo n.p.vals.length l.vc, .slice l.ko n.p.kids.length l.kc, .string ⟨n.sc.toArray⟩, .string ⟨n.ct.toArray⟩, .slice l.io n.kids.length l.ic, .int .i64 n.df] := ⟨_, rfl⟩
  have hcl : cs.length = 8 := by rw [hcs]; rfl
  have hat : ∀ r u, cs[r]? = some u → w.cell? ⟨b, off + (k * 8 + r), none⟩ = some u := by
   intro r u hr
   rw [show off + (k * 8 + r) = off + k * 8 + r by omega]
   rw [hcs] at hr
   match r, hr with
   | 0, hr => cases hr; exact c0
   | 1, hr => cases hr; exact c1
   | 2, hr => cases hr; exact c2
   | 3, hr => cases hr; exact c3
   | 4, hr => cases hr; exact c4
   | 5, hr => cases hr; exact c5
   | 6, hr => cases hr; exact c6
   | 7, hr => cases hr; exact c7
  refine ⟨news ++ cs, by rw [List.length_append, h1, hcl]; omega, fun j u hj => ?_, fun u hu => ?_, fun i m hi hm => ?_⟩
  ·rcases Nat.lt_or_ge j (k * 8) with h9 | h9
   ·rw [List.getElem?_append_left (by omega)] at hj
    exact h2 j u hj
   ·rw [List.getElem?_append_right (by omega), h1] at hj
    have := hat _ u hj
    rw [show k * 8 + (j - k * 8) = j by omega] at this
    exact this
  ·rcases List.mem_append.1 hu with h9 | h9
   ·exact h3 u h9
   ·rw [hcs] at h9
    simp only [List.mem_cons, List.not_mem_nil, or_false] at h9
    rcases h9 with rfl | rfl | rfl | rfl | rfl | rfl | rfl | rfl <;> rfl
  ·by_cases hik : i = k
   ·subst hik
    rw [hn] at hm
    cases hm
    have hx : ∀ r, (news ++ cs)[i * 8 + r]? = cs[r]? := fun r => by rw [List.getElem?_append_right (by omega), h1, show i * 8 + r - i * 8 = r by omega]
    refine ⟨l, h5, ?_⟩
    have h0 := hx 0
    rw [Nat.add_zero] at h0
    exact ⟨by rw [h0, hcs]; rfl, by rw [hx, hcs]; rfl, by rw [hx, hcs]; rfl, by rw [hx, hcs]; rfl, by rw [hx, hcs]; rfl, by rw [hx, hcs]; rfl, by rw [hx, hcs]; rfl, by rw [hx, hcs]; rfl⟩
   ·obtain ⟨l2, h7, h8⟩ := h4 i m (by omega) hm
    exact ⟨l2, h7, Ls8.keep h8 fun c hc => by rw [List.getElem?_append_left (by omega)]⟩
end Go.Proofs.YtcpfanpcdkoiaaaGreatDoor
