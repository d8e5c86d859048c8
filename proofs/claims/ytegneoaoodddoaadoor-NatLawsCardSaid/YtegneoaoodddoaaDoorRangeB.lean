/-
  append in the body of a loop over an iterator: where the row then lies.
-/
import Derived.OwnWalkIn
import Derived.Test.YtegneoaoodddoaaDoorRangeA
namespace Go.Proofs.YtegneoaoodddoaaDoor
open Go.RowKit
set_option linter.unusedVariables false
set_option linter.unusedSimpArgs false

/-- All cells of the row are p's. -/
def RowAll (p : Value → Prop) (w : World) (v : Value) : Prop := ∀ g, v.ownBlock = some g → ∀ j c, w.cell? ⟨g, j, none⟩ = some c → p c

theorem cell_mem {w : World} {g j : Nat} {arr : Array Value} {e : TypeId} {fz : Nat × Nat} {c : Value} (h : w.heap[g]? = some (.cells arr e fz)) (hc : w.cell? ⟨g, j, none⟩ = some c) : c ∈ arr := by
  unfold World.cell? at hc
  simp only [h] at hc
  simp at hc
  exact Array.mem_of_getElem? hc

theorem mem_zeroCells {z : Array Value} {n : Nat} {c : Value} (h : c ∈ Builtin.zeroCells z n) : c ∈ z := by
  simp [Builtin.zeroCells] at h
  obtain ⟨i, hi, rfl⟩ := h
  have hz : 0 < z.size := by
    rcases Nat.eq_zero_or_pos z.size with h0 | h0
    · rw [h0] at hi; simp at hi
    · exact h0
  rw [getElem!_pos z (i % z.size) (Nat.mod_lt _ hz)]
  exact Array.getElem_mem _

theorem run_append1 {P : Program} {t e : TypeId} {z : Value} {bytes : Nat} (E : Elem P t e z bytes) (ty : TypeId) {w : World} {base : Nat} {v : Value} {xs : List Value} (hown : Owns base e w v xs)
    (ad : Addr) (c : Nat) (u : Value) (hu : w.cell? ad = some u) (h1 : u.oneCell' = true) (hl : (xs.length + 1) * bytes ≤ 140737488355328) (hm : xs.length + 1 ≤ maxLen) (hbase : base ≤ w.heap.size) :
    ∃ v' w', (Builtin.append_ #[t, t] ty #[v, .slice (some ad) 1 c]).run P w = .ok v' w' ∧ Owns base e w' v' (xs ++ [u]) ∧ w.grownBy w' v.ownBlock ∧
      (∀ g, v'.ownBlock = some g → v.ownBlock = some g ∨ w.heap.size ≤ g) ∧
      ∀ p : Value → Prop, RowAll p w v → p u → (∀ c ∈ z.cells, p c) → RowAll p w' v' := by
  obtain ⟨i, hi, hz, h4, h5⟩ := E.info
  have hnews : ∀ j u', [u][j]? = some u' → w.cell? (ad.add j) = some u' := by
    intro j u' hj
    match j, hj with
    | 0, hj => simp at hj; subst hj; simpa [Addr.add] using hu
  obtain ⟨v', w', hrun, r1, r2, r3⟩ := run_append_own (P := P) w base t ty e i z 1 bytes E.und hi hz h4 h5 E.one (by decide) v xs.length xs hown ad 1 c [u] rfl hnews (by simpa using h1) hm hl hbase
  rcases hown.2 with ⟨rfl, hn0⟩ | ⟨g0, cap, cur, rfl, k1, k2, k3, k4, k5, k6⟩
  · have hxs : xs = [] := List.eq_nil_of_length_eq_zero hn0
    subst hxs
    have hr := run_append_nil (P := P) w t ty e i z E.und hi hz ad 1 c [u] (by simp [h4]) hnews (by omega) (by omega) (by rw [h5]; simp at hl; omega)
    rw [hr] at hrun
    injection hrun with e1 e2
    refine ⟨v', w', by rw [hr, e1, e2], by unfold Owns; simpa using r1, r2, ?_, ?_⟩
    · intro g hg
      subst e1
      simp [Value.ownBlock] at hg
      exact .inr (by omega)
    · intro p _ hp hpz g hg j c' hc'
      subst e1
      subst e2
      simp [Value.ownBlock] at hg
      subst hg
      have hm' := cell_mem (heap_alloc_new w.drew _) hc'
      simp only [List.mem_toArray, Array.mem_append, List.mem_singleton, List.mem_cons, List.not_mem_nil, or_false] at hm'
      rcases hm' with rfl | hm'
      · exact hp
      · exact hpz _ (mem_zeroCells hm')
  · have hxl : cur.toList.take xs.length = xs := by rw [← Nat.mul_one xs.length]; exact k6
    by_cases hroom : xs.length + 1 ≤ cap
    · have hr := run_append_room (P := P) w t ty e i E.und hi g0 xs.length cap cur k2 ad 1 c [u] (by simp [h4]) hnews (by simpa using h1) hroom (by simp [h4]; omega)
      rw [hr] at hrun
      injection hrun with e1 e2
      refine ⟨v', w', by rw [hr, e1, e2], by unfold Owns; simpa using r1, r2, ?_, ?_⟩
      · intro g hg
        subst e1
        exact .inl hg
      · intro p ha hp hpz g hg j c' hc'
        subst e1
        subst e2
        simp [Value.ownBlock] at hg
        subst hg
        have hm' := cell_mem (setRow_heap w g0 cur _ e _ k2) hc'
        have old : ∀ c'' ∈ cur.toList, p c'' := by
          intro c'' hc''
          obtain ⟨j', hj', rfl⟩ := List.mem_iff_getElem.1 hc''
          refine ha g0 rfl j' _ ?_
          unfold World.cell?
          simp [k2]
        simp only [List.mem_toArray, List.mem_append, List.mem_singleton] at hm'
        rcases hm' with (hm' | rfl) | hm'
        · exact old _ (List.mem_of_mem_take hm')
        · exact hp
        · exact old _ (List.mem_of_mem_drop hm')
    · have hr := run_append_grow (P := P) w t ty e i z E.und hi hz ⟨g0, 0, none⟩ xs.length cap xs (by simp [h4]) (World.ownsRow.cells hown (g := g0) rfl) ad 1 c [u] (by simp [h4]) hnews (by omega) (by simp only [maxLen] at hm; omega) (growslice_fits (by omega) (by rw [h5]; exact hl))
      rw [hr] at hrun
      injection hrun with e1 e2
      refine ⟨v', w', by rw [hr, e1, e2], by unfold Owns; simpa using r1, r2, ?_, ?_⟩
      · intro g hg
        subst e1
        simp [Value.ownBlock] at hg
        exact .inr (by omega)
      · intro p ha hp hpz g hg j c' hc'
        subst e1
        subst e2
        simp [Value.ownBlock] at hg
        subst hg
        have hm' := cell_mem (heap_alloc_new w.drew _) hc'
        have old : ∀ c'' ∈ cur.toList, p c'' := by
          intro c'' hc''
          obtain ⟨j', hj', rfl⟩ := List.mem_iff_getElem.1 hc''
          refine ha g0 rfl j' _ ?_
          unfold World.cell?
          simp [k2]
        simp only [List.mem_toArray, Array.mem_append, List.mem_singleton, List.mem_cons, List.not_mem_nil, or_false] at hm'
        rcases hm' with (hm' | rfl) | hm'
        · exact old _ (by rw [← hxl] at hm'; exact List.mem_of_mem_take hm')
        · exact hp
        · exact hpz _ (mem_zeroCells hm')

/-- out = append(out, x) in a round. -/
theorem append1In {F : Fence} {n : Nat} {P : Program} {t e : TypeId} {z : Value} {bytes : Nat} (E : Elem P t e z bytes) {w : World} {ops : Array Oper} {rest : List Oper} {o : Oper} {a : Act} {Q : Exit → Act → World → Prop} {s x : Operand} {u : Value} {base : Nat} {v : Value} {xs : List Value}
    (hown : Owns base e w v xs) (hgd : o.guard = none) (ho : o.op = .call { callee := .builtin .append, args := #[s, x], argTypes := #[t, t] }) (hs : a.eval s = v)
    (hx : a.eval x = .slice (some ⟨w.heap.size, 0, none⟩) 1 1) (h1 : u.oneCell' = true) (hl : (xs.length + 1) * bytes ≤ 140737488355328) (hm : xs.length + 1 ≤ maxLen) (hbase : base ≤ w.heap.size)
    (h : ∀ v' w', Owns base e w' v' (xs ++ [u]) → Below base w w' → w.grownBy w' v.ownBlock → (∀ g, v'.ownBlock = some g → v.ownBlock = some g ∨ w.heap.size ≤ g) → (∀ p : Value → Prop, RowAll p w v → p u → (∀ c ∈ z.cells, p c) → RowAll p w' v') → wpListIn F n P ops Q rest (a.put o.dst v') w') :
    wpListIn F n P ops Q (o :: rest) a (w.alloc (.cells #[u] e)) := by
  have hc : (w.alloc (.cells #[u] e)).cell? ⟨w.heap.size, 0, none⟩ = some u := by
    go_simp
  obtain ⟨v', w', hrun, r1, r2, r3, r4⟩ := run_append1 E o.type (w := w.alloc (.cells #[u] e)) (World.ownsRow.alloc hown _) ⟨w.heap.size, 0, none⟩ 1 u hc h1 hl hm (by simp; omega)
  refine wpListIn_plain hgd fun K hK' => ?_
  unfold Oper.wpIn
  refine ⟨?_, ?_⟩
  · simp [Oper.about, ho, resolve, Target.leads, Sem.run_pure]
  · rw [Oper.semAt_plain F _ _ (by rw [ho]; intro c hc'; cases hc')]
    simp [execOp, ho, resolve, invoke, builtin, hs, hx, hrun, Result.andThen]
    have hg : w.grownBy w' v.ownBlock := ⟨r2.os, r2.tape, r2.output, Nat.le_trans (by simp) r2.size, fun k hk hne => (r2.block k (by simp; omega) hne).trans (Below.heap_alloc _ _ _ hk)⟩
    refine hK' _ _ (h v' w' r1 ⟨hg.os, hg.tape, hg.output, hg.size, fun k hk => hg.block k (by omega) (fun e' => ?_)⟩ hg ?_ ?_)
    · have := World.ownsRow.lt hown k e'.symm
      omega
    · intro g hg'
      rcases r3 g hg' with h2 | h2
      · exact .inl h2
      · exact .inr (by simp at h2; omega)
    · intro p ha hp hpz
      refine r4 p (fun g hg' j c' hc' => ha g hg' j c' ?_) hp hpz
      have hlt := (World.ownsRow.lt hown g hg').2
      rw [← hc']
      exact (World.cell?_of_block (a := ⟨g, j, none⟩) (Below.heap_alloc _ _ _ hlt)).symm
end Go.Proofs.YtegneoaoodddoaaDoor
