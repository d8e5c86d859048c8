/-
  EnsembleSpoilt: its walk.
-/
import Derived.Test.YtieffhkfefimeaaGreatOnxN
import Derived.Test.YtieffhkfefimeaaGreatMathSp
import Derived.Test.YtieffhkfefimeaaGreatSeqU
namespace Go.Proofs.YtieffhkfefimeaaGreat
open Go.RowKit
set_option linter.unusedVariables false
set_option linter.unusedSimpArgs false

theorem E_en : ElemK Tryz.prog 23 33 (.agg #[.int .i64 0, .int .i64 0, .int .i64 0, .int .i64 0, .int .u64 0, .int .i64 0, .int .i64 0, .bool false]) 8 64 := elemK_of Tryz.underlying23 (by kernel_rfl) rfl (by decide)
theorem E_el : ElemK Tryz.prog 24 35 (.agg #[.int .i64 0, .int .i64 0, .int .i64 0, .int .u64 0]) 4 32 := elemK_of Tryz.underlying24 (by kernel_rfl) rfl (by decide)
/-- append(nil, ys...): a copy of a row of structs. -/
theorem appendNK {P : Program} {t e : TypeId} {z : Value} {K bytes : Nat} (E : ElemK P t e z K bytes) {w : World} {ops : Array Oper} {rest : List Oper} {o : Oper} {a : Act} {Q : Exit → Act → World → Prop} {s x : Operand} {us : List Value} {ad : Addr} {m c : Nat}
    (hgd : o.guard = none) (ho : o.op = .call { callee := .builtin .append, args := #[s, x], argTypes := #[t, t] }) (hs : a.eval s = .slice none 0 0) (hx : a.eval x = .slice (some ad) m c) (hul : us.length = m * K) (hu : ∀ j u', us[j]? = some u' → w.cell? (ad.add j) = some u') (h1 : ∀ u ∈ us, u.oneCell' = true) (hl : m * bytes ≤ 140737488355328) (hm : m ≤ maxLen)
    (h : ∀ v' w', OwnsK K w.heap.size e w' v' m us → Below w.heap.size w w' → wpList P ops Q rest (a.put o.dst v') w') : wpList P ops Q (o :: rest) a w := by
  obtain ⟨i, hi, hz, h4, h5⟩ := E.info
  refine wpList_append_own _ hgd s x t ho w.heap.size e i z K bytes E.und hi hz h4 h5 E.many E.pos (.slice none 0 0) 0 [] hs (World.ownsRow_nil _ _ _ _) ad m c us hx hul hu h1 (by simpa using hm) (by simpa using hl) (Nat.le_refl _) ?_
  intro v' w' h2 h3 _
  refine h v' w' (by simpa [OwnsK] using h2) ⟨h3.os, h3.tape, h3.output, h3.size, fun k hk => h3.block k hk (by simp [Value.ownBlock])⟩
theorem flat_one {α : Type} {enc : α → List Value} (h : ∀ x, ∀ u ∈ enc x, u.oneCell' = true) (xs : List α) : ∀ u ∈ xs.flatMap enc, u.oneCell' = true := by
  intro u hu
  obtain ⟨x, _, hx⟩ := List.mem_flatMap.1 hu
  exact h x u hx
theorem enC_one (x : EN) : ∀ u ∈ enC x, u.oneCell' = true := by simp [enC, Value.oneCell']
theorem elC_one (x : EL) : ∀ u ∈ elC x, u.oneCell' = true := by simp [elC, Value.oneCell']
theorem flat_len {α : Type} {k : Nat} {enc : α → List Value} (hk : ∀ x, (enc x).length = k) : ∀ xs : List α, (xs.flatMap enc).length = xs.length * k
  | [] => by simp
  | x :: r => by rw [List.flatMap_cons, List.length_append, hk, flat_len hk r, List.length_cons]; have h9 : (r.length + 1) * k = r.length * k + k := Nat.succ_mul _ _; omega
theorem flat_inv {α β : Type} {k : Nat} {enc : α → List β} (hk : ∀ x, (enc x).length = k) (hk0 : 0 < k) : ∀ (xs : List α) (m : Nat) (c : β), (xs.flatMap enc)[m]? = some c → ∃ i j x, m = i * k + j ∧ xs[i]? = some x ∧ (enc x)[j]? = some c
  | [], m, c, h => by simp at h
  | y :: r, m, c, h => by
    rw [List.flatMap_cons] at h
    by_cases hm : m < k
    · rw [List.getElem?_append_left (by rw [hk]; exact hm)] at h
      exact ⟨0, m, y, by simp, rfl, h⟩
    · rw [List.getElem?_append_right (by rw [hk]; omega), hk] at h
      obtain ⟨i, j, x, h1, h2, h3⟩ := flat_inv hk hk0 r (m - k) c h
      exact ⟨i + 1, j, x, by have h9 : (i + 1) * k = i * k + k := Nat.succ_mul i k; omega, by simpa using h2, h3⟩
/-- The cells of a row, as append reads them. -/
theorem RowC.flat {α : Type} {k : Nat} {enc : α → List Value} {w : World} {b off : Nat} {xs : List α} (hk : ∀ x, (enc x).length = k) (hk0 : 0 < k) (h : RowC k enc w (some ⟨b, off, none⟩) xs) : ∀ j u', (xs.flatMap enc)[j]? = some u' → w.cell? ((⟨b, off, none⟩ : Addr).add j) = some u' := by
  intro m c hm
  obtain ⟨i, j, x, rfl, hi, hj⟩ := flat_inv hk hk0 xs m c hm
  rcases h with rfl | ⟨b', off', e, h2, h3⟩
  · simp at hi
  · cases e
    rw [Addr.add_lit, ← Nat.add_assoc]
    exact h3 i x hi j c hj
theorem place_n (k : Int) (N : Nat) (h1 : 1 ≤ N) (h60 : N ≤ 60) : ∃ n : Nat, (wrap64 (k.tmod (N : Int) + (N : Int))).tmod (N : Int) = (n : Int) ∧ n < N := by
  have hN : (0 : Int) < (N : Int) := by omega
  have ha : -(N : Int) < k.tmod N := Int.lt_tmod_of_pos k hN
  have hb : k.tmod N < (N : Int) := Int.tmod_lt_of_pos k hN
  have hw : wrap64 (k.tmod (N : Int) + (N : Int)) = k.tmod (N : Int) + (N : Int) := by
    have key : ∀ x : Int, -(N : Int) < x → x < (N : Int) → wrap64 (x + (N : Int)) = x + (N : Int) := fun x h1 h2 => IntWalk.wrap64_in _ ⟨by omega, by omega⟩
    exact key _ ha hb
  rw [hw, Int.tmod_eq_emod_of_nonneg (by omega)]
  have h2 := Int.emod_nonneg (k.tmod (N : Int) + (N : Int)) (show (N : Int) ≠ 0 by omega)
  have h3 := Int.emod_lt_of_pos (k.tmod (N : Int) + (N : Int)) hN
  exact ⟨((k.tmod (N : Int) + (N : Int)) % (N : Int)).toNat, by omega, by omega⟩
/-- append(nil, ys...), whatever the row. -/
theorem copy_row {P : Program} {t e : TypeId} {z : Value} {K bytes : Nat} (E : ElemK P t e z K bytes) {α : Type} {enc : α → List Value} {xs : List α} {w : World} {ops : Array Oper} {rest : List Oper} {o : Oper} {a : Act} {Q : Exit → Act → World → Prop} {s x : Operand} {ao : Option Addr} {c : Nat}
    (hk : ∀ x, (enc x).length = K) (hone : ∀ x, ∀ u ∈ enc x, u.oneCell' = true) (hR : RowC K enc w ao xs) (hz : ao = none → c = 0)
    (hgd : o.guard = none) (ho : o.op = .call { callee := .builtin .append, args := #[s, x], argTypes := #[t, t] }) (hs : a.eval s = .slice none 0 0) (hx : a.eval x = .slice ao xs.length c) (hl : xs.length * bytes ≤ 140737488355328) (hm : xs.length ≤ maxLen)
    (h : ∀ v' w', OwnsK K w.heap.size e w' v' xs.length (xs.flatMap enc) → Below w.heap.size w w' → wpList P ops Q rest (a.put o.dst v') w') : wpList P ops Q (o :: rest) a w := by
  cases ao with
  | none =>
    obtain rfl := hz rfl
    have h0 : xs = [] := by
      rcases hR with h | ⟨_, _, e, _⟩
      · exact h
      · cases e
    subst h0
    obtain ⟨i9, hi9, _⟩ := E.info
    refine wpList_append_own_none hgd s x t ho w.heap.size e i9 K E.und hi9 (.slice none 0 0) 0 [] hs (World.ownsRow_nil _ _ _ _) hx ?_
    exact h _ _ (OwnsK.nil _ _ _ _) (Below.refl _ _)
  | some ad =>
    refine appendNK E hgd ho hs hx (flat_len hk xs) (fun j u hj => ?_) (flat_one hone xs) hl hm h
    rcases hR with h9 | ⟨b, off, e9, h2, h3⟩
    · subst h9; simp at hj
    · cases e9
      exact RowC.flat hk E.pos (.inr ⟨b, off, rfl, h2, h3⟩) j u hj
theorem OwnsK.toRow {α : Type} {K base : Nat} {e : TypeId} {w : World} {ao : Option Addr} {n cap : Nat} {enc : α → List Value} {xs : List α} (hk : ∀ x, (enc x).length = K) (h : OwnsK K base e w (.slice ao n cap) n (xs.flatMap enc)) (hn : n = xs.length) : RowC K enc w ao xs := by
  rcases h.shape with ⟨h0, h1⟩ | ⟨g, cap', e0, h2, h3, h4, h5, h6, h7⟩
  · exact .inl (List.eq_nil_of_length_eq_zero (by omega))
  · cases e0
    refine .inr ⟨g, 0, rfl, h3, fun i x hi j c hj => ?_⟩
    have h8 := flat_get hk xs i x j c hi hj
    rw [Nat.zero_add, h6 _ (by
      have h9 := (List.getElem?_eq_some_iff.1 h8).1
      have h10 := h.len
      omega), h8]
theorem flat_set {α β : Type} {k : Nat} {enc : α → List β} (hk : ∀ x, (enc x).length = k) {j : Nat} {u : β} {y y' : α} (hj : j < k) (he : enc y' = (enc y).set j u) : ∀ (xs : List α) (n : Nat), xs[n]? = some y → (xs.flatMap enc).set (n * k + j) u = (xs.set n y').flatMap enc
  | [], n, h => by simp at h
  | x :: r, 0, h => by
    simp at h; subst h
    rw [List.flatMap_cons, List.set_cons_zero, List.flatMap_cons, he, Nat.zero_mul, Nat.zero_add, List.set_append_left _ _ (by rw [hk]; exact hj)]
  | x :: r, n + 1, h => by
    have h9 : (n + 1) * k = n * k + k := Nat.succ_mul n k
    rw [List.flatMap_cons, List.set_cons_succ, List.flatMap_cons, List.set_append_right _ _ (by rw [hk]; omega), hk, show (n + 1) * k + j - k = n * k + j by omega, flat_set hk hj he r n (by simpa using h)]
theorem OwnsK.stored {K base : Nat} {e : TypeId} {w : World} {g n cap : Nat} {xs : List Value} (h : OwnsK K base e w (.slice (some ⟨g, 0, none⟩) n cap) n xs) (j : Nat) (u : Value) : OwnsK K base e (w.setCell ⟨g, j, none⟩ u) (.slice (some ⟨g, 0, none⟩) n cap) n (xs.set j u) :=
  (World.ownsRow.stored h j u).1
/-- The cells of one node of the call's own row. -/
def CN (w : World) (g i : Nat) (y : EN) : Prop := ∀ j c, (enC y)[j]? = some c → w.cell? ⟨g, i * 8 + j, none⟩ = some c
theorem CN.c8 {w : World} {g i : Nat} {y : EN} (h : CN w g i y) :
    w.cell? ⟨g, i * 8, none⟩ = some (.int .i64 y.tree) ∧ w.cell? ⟨g, i * 8 + 1, none⟩ = some (.int .i64 y.node) ∧ w.cell? ⟨g, i * 8 + 2, none⟩ = some (.int .i64 y.feat) ∧ w.cell? ⟨g, i * 8 + 3, none⟩ = some (.int .i64 y.mode) ∧ w.cell? ⟨g, i * 8 + 4, none⟩ = some (.int .u64 (y.val : Int)) ∧ w.cell? ⟨g, i * 8 + 5, none⟩ = some (.int .i64 y.tru) ∧ w.cell? ⟨g, i * 8 + 6, none⟩ = some (.int .i64 y.fls) ∧ w.cell? ⟨g, i * 8 + 7, none⟩ = some (.bool y.trk) :=
  ⟨h 0 _ rfl, h 1 _ rfl, h 2 _ rfl, h 3 _ rfl, h 4 _ rfl, h 5 _ rfl, h 6 _ rfl, h 7 _ rfl⟩
theorem OwnsK.node {base : Nat} {e : TypeId} {w : World} {g n cap : Nat} {xs : List EN} {i : Nat} {y : EN} (h : OwnsK 8 base e w (.slice (some ⟨g, 0, none⟩) n cap) n (xs.flatMap enC)) (hn : n = xs.length) (hi : xs[i]? = some y) : CN w g i y := by
  intro j c hj
  rcases OwnsK.toRow enC_len h hn with h9 | ⟨b, off, e9, h2, h3⟩
  · rw [h9] at hi; simp at hi
  · cases e9
    have := h3 i y hi j c hj
    rwa [Nat.zero_add] at this
/-- append(row, x): the cells that were abide. -/
theorem run_appendKx {P : Program} {t e : TypeId} {z : Value} {K bytes : Nat} (E : ElemK P t e z K bytes) (ty : TypeId) {w : World} {base n g0 cap : Nat} {xs : List Value} (hown : OwnsK K base e w (.slice (some ⟨g0, 0, none⟩) n cap) n xs)
    (ad : Addr) (c : Nat) (us : List Value) (hul : us.length = K) (hu : ∀ j u', us[j]? = some u' → w.cell? (ad.add j) = some u') (h1 : ∀ u ∈ us, u.oneCell' = true) (hl : (n + 1) * bytes ≤ 140737488355328) (hm : n + 1 ≤ maxLen) (hbase : base ≤ w.heap.size) :
    ∃ v' w', (Builtin.append_ #[t, t] ty #[.slice (some ⟨g0, 0, none⟩) n cap, .slice (some ad) 1 c]).run P w = .ok v' w' ∧ OwnsK K base e w' v' (n + 1) (xs ++ us) ∧ w.grownBy w' (some g0) ∧
      (∀ j, j < n * K → w'.cell? ⟨g0, j, none⟩ = w.cell? ⟨g0, j, none⟩) := by
  obtain ⟨i, hi, hz, h4, h5⟩ := E.info
  obtain ⟨v', w', hrun, r1, r2, r3⟩ := run_append_own (P := P) w base t ty e i z K bytes E.und hi hz h4 h5 E.many E.pos (.slice (some ⟨g0, 0, none⟩) n cap) n xs hown ad 1 c us (by omega) hu h1 hm hl hbase
  have hxn := hown.1
  rcases hown.shape with ⟨h0, _⟩ | ⟨g', cap', e0, k1, k2, k3, k4, k5, _⟩
  · cases h0
  cases e0
  refine ⟨v', w', hrun, r1, r2, fun j hj => ?_⟩
  obtain ⟨_, ⟨h0, _⟩ | ⟨g9, cap9, cur, e9, q1, q2, q3, q4, q5, q6⟩⟩ := hown
  · cases h0
  cases e9
  by_cases hroom : n + 1 ≤ cap
  · have hr := run_append_room (P := P) w t ty e i E.und hi g0 n cap cur q2 ad 1 c us (by rw [h4]; omega) hu h1 hroom (by rw [h4]; have h9 := Nat.mul_le_mul_right K hroom; rw [Nat.add_mul] at h9; omega)
    rw [hr] at hrun
    injection hrun with e1 e2
    subst e1
    rcases OwnsK.shape r1 with ⟨h0, _⟩ | ⟨g', cap', e0, m1, m2, m3, m4, m5, _⟩
    · cases h0
    cases e0
    rw [m5 j (by have : (n + 1) * K = n * K + K := Nat.succ_mul n K; omega), k5 j hj, List.getElem?_append_left (by omega)]
  · have hr := run_append_grow (P := P) w t ty e i z E.und hi hz ⟨g0, 0, none⟩ n cap xs (by rw [h4]; omega) (fun j u hj => by rw [Addr.add_lit, Nat.zero_add, k5 j (by have := (List.getElem?_eq_some_iff.1 hj).1; omega)]; exact hj) ad 1 c us (by rw [h4]; omega) hu (by omega) (by simp only [maxLen] at hm; omega) (growslice_fits (by omega) (by rw [h5]; exact hl))
    rw [hr] at hrun
    injection hrun with e1 e2
    subst e2
    exact World.cell?_of_block (w := w) (a := ⟨g0, j, none⟩) (Below.heap_alloc _ _ _ k2)
theorem OwnsK.freeK {K base : Nat} {e : TypeId} {w : World} {g n cap : Nat} {xs : List Value} (h : OwnsK K base e w (.slice (some ⟨g, 0, none⟩) n cap) n xs) (j : Nat) : w.frozen? ⟨g, j, none⟩ = false := by
  rcases h.shape with ⟨h0, _⟩ | ⟨g', cap', e0, h2, h3, h4, h5, h6, h7⟩
  · cases h0
  · cases e0; exact h7 j
theorem step_run_append {P : Program} {w w' : World} {o : Oper} {a : Act} {K : Act → World → Prop} {Q : Exit → Act → World → Prop} {s x : Operand} {t : TypeId} {v u v' : Value} (ho : o.op = .call { callee := .builtin .append, args := #[s, x], argTypes := #[t, t] }) (hs : a.eval s = v) (hx : a.eval x = u)
    (hrun : (Builtin.append_ #[t, t] o.type #[v, u]).run P w = .ok v' w') (h : K (a.put o.dst v') w') : Oper.wp P o a w K Q := by
  unfold Oper.wp
  simp [execOp, ho, resolve, invoke, builtin, hs, hx, hrun, Result.andThen]
  exact h
theorem OwnsK.setOther {K base : Nat} {e : TypeId} {w : World} {v : Value} {n : Nat} {xs : List Value} (h : OwnsK K base e w v n xs) (p i : Nat) (u : Value) (hne : ∀ k, v.ownBlock = some k → p ≠ k) : OwnsK K base e (w.setCell ⟨p, i, none⟩ u) v n xs :=
  h.block fun k hk => (grownBy_set (grownBy_refl w (some p)) i u).block k (h.lt k hk).2 (by simp; exact fun e' => hne k hk e'.symm)
def ensB (e : EE) : Bool := decide (e.nodes.length ≤ 60) && (decide (e.leaves.length ≤ 60) && (decide (e.base.length ≤ 30) && decide (wrap64 ((e.agg.length : Int) + (e.post.length : Int)) ≤ 100)))
theorem ensB_out {e : EE} (h : ensB e = true) : e.nodes.length ≤ 60 ∧ e.leaves.length ≤ 60 ∧ e.base.length ≤ 30 := by
  unfold ensB at h
  simp only [Bool.and_eq_true, decide_eq_true_eq] at h
  exact ⟨h.1, h.2.1, h.2.2.1⟩
set_option maxRecDepth 100000 in
set_option maxHeartbeats 1000000 in
theorem ens_any (v : Value) (e : EE) (bo : Option Addr) (bc : Nat) (no : Option Addr) (nc : Nat) (lo : Option Addr) (lc : Nat) (w : World) (h : EnsIs w v e bo bc no nc lo lc) (r : Bool) (hr : ensB e = r) :
    Calls Tryz.prog 5 #[v] w fun e' w' => e' = .returned (.bool r) ∧ Below w.heap.size w w' := by
  obtain ⟨rfl, h1, h2, h4, h5, h3, h6, h7, h8, h9⟩ := h
  unfold ensB at hr
  obtain ⟨w0, hw0⟩ : ∃ w0, w0 = (w.alloc (.cells #[.int .i64 e.feats, .int .i64 e.tgts, .string ⟨e.agg.toArray⟩, .string ⟨e.post.toArray⟩, .slice bo e.base.length bc, .slice no e.nodes.length nc, .slice lo e.leaves.length lc] 26)) := ⟨_, rfl⟩
  have hbf : Below w.heap.size w w0 := by rw [hw0]; exact ((Below.refl _ w).alloc (Nat.le_refl _) _)
  obtain ⟨pe, hpe⟩ : ∃ p, p = w.heap.size := ⟨_, rfl⟩
  have hbe : BoxL w0 pe [.int .i64 e.feats, .int .i64 e.tgts, .string ⟨e.agg.toArray⟩, .string ⟨e.post.toArray⟩, .slice bo e.base.length bc, .slice no e.nodes.length nc, .slice lo e.leaves.length lc] := by rw [hw0, hpe]; exact BoxL.of7 (by go_simp) (by go_simp) (by go_simp) (by go_simp) (by go_simp) (by go_simp) (by go_simp) (by go_simp) (by go_simp) (by go_simp) (by go_simp) (by go_simp) (by go_simp) (by go_simp)
  have HP : Hid (w.heap.size ≤ pe) := Lib.hid (by omega)
  have HW := Lib.hid hw0; clear hw0
  go_enter Tryz.func5, Tryz.ntmps5
  go_upto_region 1 with fail
  rw [← HW.out, ← hpe]
  clear hpe HW
  have ee0 := hbe.cell 0 _ rfl
  have ee1 := hbe.cell 1 _ rfl
  have ee2 := hbe.cell 2 _ rfl
  have ee3 := hbe.cell 3 _ rfl
  have ee4 := hbe.cell 4 _ rfl
  have ee5 := hbe.cell 5 _ rfl
  have ee6 := hbe.cell 6 _ rfl
  by_cases q0 : e.nodes.length ≤ 60
  case neg =>
    have z : ¬ (e.nodes.length : Int) ≤ 60 := by omega
    have hr2 : r = false := by rw [← hr]; simp only [q0, decide_true, decide_false, Bool.true_and, Bool.false_and]
    subst hr2
    clear hr
    go_wp2_with fail
    go_ret
    exact ⟨rfl, hbf⟩
  have z0 : (e.nodes.length : Int) ≤ 60 := by omega
  by_cases q1 : e.leaves.length ≤ 60
  case neg =>
    have z : ¬ (e.leaves.length : Int) ≤ 60 := by omega
    have hr2 : r = false := by rw [← hr]; simp only [q0, q1, decide_true, decide_false, Bool.true_and, Bool.false_and]
    subst hr2
    clear hr
    go_wp2_with fail
    go_ret
    exact ⟨rfl, hbf⟩
  have z1 : (e.leaves.length : Int) ≤ 60 := by omega
  by_cases q2 : e.base.length ≤ 30
  case neg =>
    have z : ¬ (e.base.length : Int) ≤ 30 := by omega
    have hr2 : r = false := by rw [← hr]; simp only [q0, q1, q2, decide_true, decide_false, Bool.true_and, Bool.false_and]
    subst hr2
    clear hr
    go_wp2_with fail
    go_ret
    exact ⟨rfl, hbf⟩
  have z2 : (e.base.length : Int) ≤ 30 := by omega
  have hr2 : decide (wrap64 ((e.agg.length : Int) + (e.post.length : Int)) ≤ 100) = r := by rw [← hr]; simp only [q0, q1, q2, decide_true, Bool.true_and]
  clear hr
  subst hr2
  go_wp2_with fail
  go_ret
  exact ⟨rfl, hbf⟩
set_option maxRecDepth 100000 in
set_option maxHeartbeats 16000000 in
theorem spoilt_e (v : Value) (e : EE) (bo : Option Addr) (bc : Nat) (no : Option Addr) (nc : Nat) (lo : Option Addr) (lc : Nat) (how k : Int) (w : World) (h : EnsIs w v e bo bc no nc lo lc) (hlz : lo = none → lc = 0) :
    Calls Tryz.prog 3 #[v, .int .i64 how, .int .i64 k] w fun e' w' => e' = .returned (.bool true) ∧ Below w.heap.size w w' := by
  obtain ⟨b9, hb9⟩ : ∃ b, ensB e = b := ⟨_, rfl⟩
  have HB9 := Lib.hid hb9
  clear hb9
  obtain ⟨rfl, h1, h2, h4, h5, h3, h6, h7, h8, h9⟩ := h
  obtain ⟨w0, hw0⟩ : ∃ w0, w0 = (w.alloc (.cells #[.int .i64 e.feats, .int .i64 e.tgts, .string ⟨e.agg.toArray⟩, .string ⟨e.post.toArray⟩, .slice bo e.base.length bc, .slice no e.nodes.length nc, .slice lo e.leaves.length lc] 26)) := ⟨_, rfl⟩
  have hbf : Below w.heap.size w w0 := by rw [hw0]; exact ((Below.refl _ w).alloc (Nat.le_refl _) _)
  obtain ⟨pe, hpe⟩ : ∃ p, p = w.heap.size := ⟨_, rfl⟩
  have hbe : BoxL w0 pe [.int .i64 e.feats, .int .i64 e.tgts, .string ⟨e.agg.toArray⟩, .string ⟨e.post.toArray⟩, .slice bo e.base.length bc, .slice no e.nodes.length nc, .slice lo e.leaves.length lc] := by rw [hw0, hpe]; exact BoxL.of7 (by go_simp) (by go_simp) (by go_simp) (by go_simp) (by go_simp) (by go_simp) (by go_simp) (by go_simp) (by go_simp) (by go_simp) (by go_simp) (by go_simp) (by go_simp) (by go_simp)
  have HP : Hid (w.heap.size ≤ pe) := Lib.hid (by omega)
  have HW := Lib.hid hw0; clear hw0
  go_enter Tryz.func3, Tryz.ntmps3
  go_upto_region 1 with fail
  rw [← HW.out, ← hpe]
  clear hpe HW
  have hE : EnsIs w0 (ensV e bo bc no nc lo lc) e bo bc no nc lo lc := EnsIs.below ⟨rfl, h1, h2, h4, h5, h3, h6, h7, h8, h9⟩ hbf
  have ee0 := hbe.cell 0 _ rfl
  have ee1 := hbe.cell 1 _ rfl
  have ee2 := hbe.cell 2 _ rfl
  have ee3 := hbe.cell 3 _ rfl
  have ee4 := hbe.cell 4 _ rfl
  have ee5 := hbe.cell 5 _ rfl
  have ee6 := hbe.cell 6 _ rfl
  cases b9
  case false =>
    go_wp2_with (first | (go_at_call 5; refine (ens_any _ e _ _ _ _ _ _ w0 hE _ HB9.out).mono ?_; rintro e9 w1 ⟨rfl, hb1⟩) | (go_at_call 6; refine (alive22_any _).mono ?_; rintro e9 w2 ⟨rfl, hb2⟩))
    go_ret
    exact ⟨rfl, hbf.trans ((hb1.trans (hb2.mono hb1.size)).mono hbf.size)⟩
  obtain ⟨hn60, hl60, hb30⟩ := ensB_out HB9.out
  go_upto_region 3 with (first | (go_at_call 5; refine (ens_any _ e _ _ _ _ _ _ w0 hE _ HB9.out).mono ?_; rintro e9 w1 ⟨rfl, hb1⟩) | (go_at_call 6; refine (alive22_any _).mono ?_; rintro e9 w2 ⟨rfl, hb2⟩))
  replace hb2 := hb1.trans (hb2.mono hb1.size)
  replace hbf := hbf.trans (hb2.mono hbf.size)
  replace hE := hE.below hb2
  replace hbe := hbe.kept hb2
  clear hb1 hb2 HB9
  clear ee0 ee1 ee2 ee3 ee4 ee5 ee6
  have ee0 := hbe.cell 0 _ rfl
  have ee1 := hbe.cell 1 _ rfl
  have ee2 := hbe.cell 2 _ rfl
  have ee3 := hbe.cell 3 _ rfl
  have ee4 := hbe.cell 4 _ rfl
  have ee5 := hbe.cell 5 _ rfl
  have ee6 := hbe.cell 6 _ rfl
  obtain ⟨c, hc⟩ : ∃ c, checkE e = c := ⟨_, rfl⟩
  have hcall := check_any _ e _ _ _ _ _ _ w2 hE (by omega) c (Lib.hid hc)
  by_cases q : c = 0
  case neg =>
    have q2 : decide (c = 0) = false := by simp [q]
    rw [q2] at hcall
    clear hc q q2
    go_wp2_with (go_at_call 7; refine hcall.mono ?_; rintro e9 w3 ⟨rfl, hb3⟩)
    go_ret
    exact ⟨rfl, hbf.trans (hb3.mono hbf.size)⟩
  subst q
  have HC := Lib.hid hc
  clear hc
  go_upto_region 6 with (go_at_call 7; refine hcall.mono ?_; rintro e9 w3 ⟨rfl, hb3⟩)
  replace hbf := hbf.trans (hb3.mono hbf.size)
  replace hE := hE.below hb3
  replace hbe := hbe.kept hb3
  clear hb3 hcall
  clear ee0 ee1 ee2 ee3 ee4 ee5 ee6
  have ee0 := hbe.cell 0 _ rfl
  have ee1 := hbe.cell 1 _ rfl
  have ee2 := hbe.cell 2 _ rfl
  have ee3 := hbe.cell 3 _ rfl
  have ee4 := hbe.cell 4 _ rfl
  have ee5 := hbe.cell 5 _ rfl
  have ee6 := hbe.cell 6 _ rfl
  obtain ⟨nb, noff, rfl⟩ := hE.nodes.addr (i := 0) (by have := (check_ok HC.out).size; unfold sizeE at this; simp only [Bool.and_eq_true, decide_eq_true_eq] at this; omega)
  have hN1 : 1 ≤ e.nodes.length := by have := (check_ok HC.out).size; unfold sizeE at this; simp only [Bool.and_eq_true, decide_eq_true_eq] at this; omega
  obtain ⟨w4, hwE⟩ : ∃ W, W = w3.alloc (.cells #[.int .i64 e.feats, .int .i64 e.tgts, .string ⟨e.agg.toArray⟩, .string ⟨e.post.toArray⟩, .slice bo e.base.length bc, .slice (some ⟨nb, noff, none⟩) e.nodes.length nc, .slice lo e.leaves.length lc] 26) := ⟨_, rfl⟩
  have hb4 : Below w3.heap.size w3 w4 := by rw [hwE]; exact (Below.refl _ w3).alloc (Nat.le_refl _) _
  obtain ⟨px, hpE⟩ : ∃ p, p = w3.heap.size := ⟨_, rfl⟩
  have hbx : BoxL w4 px [.int .i64 e.feats, .int .i64 e.tgts, .string ⟨e.agg.toArray⟩, .string ⟨e.post.toArray⟩, .slice bo e.base.length bc, .slice (some ⟨nb, noff, none⟩) e.nodes.length nc, .slice lo e.leaves.length lc] := by rw [hwE, hpE]; exact BoxL.new w3 _ _
  have HW := Lib.hid hwE; clear hwE
  go_upto_region 7 with fail
  rw [← HW.out, ← hpE]
  have Hpx := Lib.hid (Nat.le_of_eq hpE.symm)
  have Hpe := Lib.hid (show pe < px by have := hbe.lt; omega)
  clear HW hpE
  have hbe3 := hbe
  have hbx4 := hbx
  have hbx4lt := hbx.lt
  clear ee0 ee1 ee2 ee3 ee4 ee5 ee6
  replace hbe := hbe3.kept hb4
  have ee0 := hbe.cell 0 _ rfl
  have ee1 := hbe.cell 1 _ rfl
  have ee2 := hbe.cell 2 _ rfl
  have ee3 := hbe.cell 3 _ rfl
  have ee4 := hbe.cell 4 _ rfl
  have ee5 := hbe.cell 5 _ rfl
  have ee6 := hbe.cell 6 _ rfl
  go_upto_region 8 with (at_builtin; refine copy_row E_en (enc := enC) (xs := e.nodes) (fun _ => rfl) enC_one (hE.nodes.below (B := 0) hb4) (fun h => by cases h) rfl rfl rfl rfl (by omega) (by unfold maxLen; omega) ?_; intro v5 w5 hO5 hb5; rcases hO5.shape with ⟨_, h0⟩ | ⟨gn, ncap, rfl, hgn, hgl, hgc, hgm, -, -⟩; (· exact absurd h0 (by omega)); replace hbx := hbx.kept hb5; have fx5 := hbx.free 5 (by simp); have cx5 := hbx.cell 5 _ rfl; replace hbe := hbe.kept hb5)
  have Hgp := Lib.hid (show px < gn by have := hbx4.lt; omega)
  obtain ⟨w6, hwE⟩ : ∃ W, W = w5.setCell ⟨px, 5, none⟩ (.slice (some ⟨gn, 0, none⟩) e.nodes.length ncap) := ⟨_, rfl⟩
  rw [← hwE]
  have hbx6 := hbx.set 5 (.slice (some ⟨gn, 0, none⟩) e.nodes.length ncap) (by simp)
  have hO6 := hO5.setOther px 5 (.slice (some ⟨gn, 0, none⟩) e.nodes.length ncap) (fun k hk => by simp [Value.ownBlock] at hk; have := Hgp.out; omega)
  have hb6 := (hb4.trans (hb5.mono hb4.size)).setCell (p := ⟨px, 5, none⟩) Hpx.out (.slice (some ⟨gn, 0, none⟩) e.nodes.length ncap)
  rw [← hwE] at hbx6 hO6 hb6
  clear hwE hbx hO5 hbe fx5 cx5
  clear ee0 ee1 ee2 ee3 ee4 ee5 ee6
  simp only [List.set_cons_zero, List.set_cons_succ] at hbx6
  have hbe := hbe3.kept hb6
  have ee0 := hbe.cell 0 _ rfl
  have ee1 := hbe.cell 1 _ rfl
  have ee2 := hbe.cell 2 _ rfl
  have ee3 := hbe.cell 3 _ rfl
  have ee4 := hbe.cell 4 _ rfl
  have ee5 := hbe.cell 5 _ rfl
  have ee6 := hbe.cell 6 _ rfl
  go_upto_region 9 with (at_builtin; refine copy_row E_el (enc := elC) (xs := e.leaves) (fun _ => rfl) elC_one (hE.leaves.below (B := 0) hb6) hlz rfl rfl rfl rfl (by omega) (by unfold maxLen; omega) ?_; intro v7 w7 hO7 hb7; obtain ⟨lao, lcap, rfl, hlc, hlm, _⟩ := OwnsK.slice hO7; have hbx := hbx6.kept hb7; have fx5 := hbx.free 6 (by simp); have cx5 := hbx.cell 6 _ rfl)
  have Hgx := Lib.hid (show px < w6.heap.size by have := hbx6.lt; exact this)
  have Hgn := Lib.hid (show gn < w6.heap.size by have := hO6.lt gn rfl; omega)
  obtain ⟨w8, hwE⟩ : ∃ W, W = w7.setCell ⟨px, 6, none⟩ (.slice lao e.leaves.length lcap) := ⟨_, rfl⟩
  rw [← hwE]
  replace hbx := hbx.set 6 (.slice lao e.leaves.length lcap) (by simp)
  have hOn := (hO6.kept hb7).setOther px 6 (.slice lao e.leaves.length lcap) (fun k hk => by simp [Value.ownBlock] at hk; have := Hgp.out; omega)
  have hOl := hO7.setOther px 6 (.slice lao e.leaves.length lcap) (fun k hk => by have := (hO7.lt k hk).1; have := Hgx.out; omega)
  have hb8 := (hb6.trans (hb7.mono hb6.size)).setCell (p := ⟨px, 6, none⟩) Hpx.out (.slice lao e.leaves.length lcap)
  rw [← hwE] at hbx hOn hOl hb8
  have hsz8 : w6.heap.size ≤ w8.heap.size := by rw [hwE]; simpa [World.setCell] using hb7.size
  clear hwE hbx6 hO6 hO7 hb6 hb7 hb5 hb4 hbx4 fx5 cx5 hbe
  clear ee0 ee1 ee2 ee3 ee4 ee5 ee6
  simp only [List.set_cons_zero, List.set_cons_succ] at hbx
  have ex0 := hbx.cell 0 _ rfl
  have ex1 := hbx.cell 1 _ rfl
  have ex2 := hbx.cell 2 _ rfl
  have ex3 := hbx.cell 3 _ rfl
  have ex4 := hbx.cell 4 _ rfl
  have ex5 := hbx.cell 5 _ rfl
  have ex6 := hbx.cell 6 _ rfl
  have hz1 : (1 : Int) ≤ (e.nodes.length : Int) := by omega
  have hz60 : (e.nodes.length : Int) ≤ 60 := by omega
  have hz0 : ¬ (e.nodes.length : Int) = 0 := by omega
  go_wp2_with fail
  go_quiet (fail)
  obtain ⟨n, hn, hnN⟩ := place_n k e.nodes.length hN1 (by omega)
  rw [hn]
  clear hn
  obtain ⟨w9, hwE⟩ : ∃ W, W = w8.drewN nq := ⟨_, rfl⟩
  have hb9 : Below w8.heap.size w8 w9 := by rw [hwE]; exact below_dr w8 nq
  rw [← hwE]
  clear hwE
  replace hbx := hbx.kept hb9
  replace hOn := hOn.kept hb9
  replace hOl := hOl.kept hb9
  replace hb8 := hb8.trans (hb9.mono hb8.size)
  replace hsz8 := Nat.le_trans hsz8 hb9.size
  clear hb9
  clear ex0 ex1 ex2 ex3 ex4 ex5 ex6
  have Hw4 := Lib.hid hbx4lt
  go_upto_region 13 with fail
  generalize bits .and .i64 how 7 = z
  obtain ⟨y, hy⟩ : ∃ y, e.nodes[n]? = some y := ⟨_, List.getElem?_eq_getElem hnN⟩
  have HyB : Hid (e.nodes[n]! = y) := Lib.hid (by rw [getElem!_pos e.nodes n hnN]; rw [List.getElem?_eq_getElem hnN] at hy; simpa using hy)
  have Hym : Hid (y ∈ e.nodes) := Lib.hid (List.mem_of_getElem? hy)
  have hNd := hOn.node rfl hy
  have Hy := Lib.hid hy
  clear hy
  have hzn : (n : Int) < (e.nodes.length : Int) := by omega
  have hzn0 : (0 : Int) ≤ (n : Int) := by omega
  by_cases q0 : z = 0
  case pos =>
    have zz : (z == 0) = true := by simp [q0]
    clear q0
    have ex0 := hbx.cell 0 _ rfl
    have ex1 := hbx.cell 1 _ rfl
    have ex2 := hbx.cell 2 _ rfl
    have ex3 := hbx.cell 3 _ rfl
    have ex4 := hbx.cell 4 _ rfl
    have ex5 := hbx.cell 5 _ rfl
    have ex6 := hbx.cell 6 _ rfl
    have fx := hbx.free 1 (by simp)
    go_upto_region 29 with fail
    clear fx ex0 ex1 ex2 ex3 ex4 ex5 ex6
    obtain ⟨w10, hwE⟩ : ∃ W, W = w9.setCell ⟨px, 1, none⟩ (Value.int .i64 21) := ⟨_, rfl⟩
    rw [← hwE]
    replace hbx := hbx.set 1 (Value.int .i64 21) (by simp)
    replace hOn := hOn.setOther px 1 (Value.int .i64 21) (fun k hk => by have := (hOn.lt k hk).1; have := Hw4.out; omega)
    replace hOl := hOl.setOther px 1 (Value.int .i64 21) (fun k hk => by have := (hOl.lt k hk).1; have := Hgx.out; omega)
    replace hb8 := hb8.setCell (p := ⟨px, 1, none⟩) Hpx.out (Value.int .i64 21)
    rw [← hwE] at hbx hOn hOl hb8 
    clear hwE
    simp only [List.set_cons_zero, List.set_cons_succ] at hbx
    have ex0 := hbx.cell 0 _ rfl
    have ex1 := hbx.cell 1 _ rfl
    have ex2 := hbx.cell 2 _ rfl
    have ex3 := hbx.cell 3 _ rfl
    have ex4 := hbx.cell 4 _ rfl
    have ex5 := hbx.cell 5 _ rfl
    have ex6 := hbx.cell 6 _ rfl
    have hcc : checkE { e with tgts := 21 } = 1 := spoilt_0 HC.out hnN hn60 hl60 HyB.out
    have hF : EnsIs w10 (ensV { e with tgts := 21 } bo bc (some ⟨gn, 0, none⟩) ncap lao lcap) { e with tgts := 21 } bo bc (some ⟨gn, 0, none⟩) ncap lao lcap := ⟨rfl, hE.base.below hb8, OwnsK.toRow enC_len hOn rfl, OwnsK.toRow elC_len hOl rfl, hE.bl, hE.nl, hE.ll, hE.bv, hE.nv, hE.lv⟩
    have hcall := check_any _ { e with tgts := 21 } _ _ _ _ _ _ w10 hF (by show e.nodes.length ≤ 100000; omega) 1 (Lib.hid hcc)
    clear hcc hF
    go_wp2_with (go_at_call 7; refine hcall.mono ?_; rintro e9 wz ⟨rfl, hbz⟩)
    go_ret
    exact ⟨rfl, hbf.trans ((hb8.trans (hbz.mono hb8.size)).mono hbf.size)⟩
  have z0 : (z == 0) = false := by simp [q0]
  clear q0
  by_cases q1 : z = 1
  case pos =>
    have zz : (z == 1) = true := by simp [q1]
    clear q1
    have ex0 := hbx.cell 0 _ rfl
    have ex1 := hbx.cell 1 _ rfl
    have ex2 := hbx.cell 2 _ rfl
    have ex3 := hbx.cell 3 _ rfl
    have ex4 := hbx.cell 4 _ rfl
    have ex5 := hbx.cell 5 _ rfl
    have ex6 := hbx.cell 6 _ rfl
    have fx := hbx.free 2 (by simp)
    go_upto_region 29 with fail
    clear fx ex0 ex1 ex2 ex3 ex4 ex5 ex6
    obtain ⟨w10, hwE⟩ : ∃ W, W = w9.setCell ⟨px, 2, none⟩ (Value.string ⟨#[115, 117, 109]⟩) := ⟨_, rfl⟩
    rw [← hwE]
    replace hbx := hbx.set 2 (Value.string ⟨#[115, 117, 109]⟩) (by simp)
    replace hOn := hOn.setOther px 2 (Value.string ⟨#[115, 117, 109]⟩) (fun k hk => by have := (hOn.lt k hk).1; have := Hw4.out; omega)
    replace hOl := hOl.setOther px 2 (Value.string ⟨#[115, 117, 109]⟩) (fun k hk => by have := (hOl.lt k hk).1; have := Hgx.out; omega)
    replace hb8 := hb8.setCell (p := ⟨px, 2, none⟩) Hpx.out (Value.string ⟨#[115, 117, 109]⟩)
    rw [← hwE] at hbx hOn hOl hb8 
    clear hwE
    simp only [List.set_cons_zero, List.set_cons_succ] at hbx
    have ex0 := hbx.cell 0 _ rfl
    have ex1 := hbx.cell 1 _ rfl
    have ex2 := hbx.cell 2 _ rfl
    have ex3 := hbx.cell 3 _ rfl
    have ex4 := hbx.cell 4 _ rfl
    have ex5 := hbx.cell 5 _ rfl
    have ex6 := hbx.cell 6 _ rfl
    have hcc : checkE { e with agg := [115, 117, 109] } = 2 := spoilt_1 HC.out hnN hn60 hl60 HyB.out
    have hF : EnsIs w10 (ensV { e with agg := [115, 117, 109] } bo bc (some ⟨gn, 0, none⟩) ncap lao lcap) { e with agg := [115, 117, 109] } bo bc (some ⟨gn, 0, none⟩) ncap lao lcap := ⟨rfl, hE.base.below hb8, OwnsK.toRow enC_len hOn rfl, OwnsK.toRow elC_len hOl rfl, hE.bl, hE.nl, hE.ll, hE.bv, hE.nv, hE.lv⟩
    have hcall := check_any _ { e with agg := [115, 117, 109] } _ _ _ _ _ _ w10 hF (by show e.nodes.length ≤ 100000; omega) 2 (Lib.hid hcc)
    clear hcc hF
    go_wp2_with (go_at_call 7; refine hcall.mono ?_; rintro e9 wz ⟨rfl, hbz⟩)
    go_ret
    exact ⟨rfl, hbf.trans ((hb8.trans (hbz.mono hb8.size)).mono hbf.size)⟩
  have z1 : (z == 1) = false := by simp [q1]
  clear q1
  by_cases q2 : z = 2
  case pos =>
    have zz : (z == 2) = true := by simp [q2]
    clear q2
    have ex0 := hbx.cell 0 _ rfl
    have ex1 := hbx.cell 1 _ rfl
    have ex2 := hbx.cell 2 _ rfl
    have ex3 := hbx.cell 3 _ rfl
    have ex4 := hbx.cell 4 _ rfl
    have ex5 := hbx.cell 5 _ rfl
    have ex6 := hbx.cell 6 _ rfl
    have fx := hbx.free 3 (by simp)
    go_upto_region 29 with fail
    clear fx ex0 ex1 ex2 ex3 ex4 ex5 ex6
    obtain ⟨w10, hwE⟩ : ∃ W, W = w9.setCell ⟨px, 3, none⟩ (Value.string ⟨#[]⟩) := ⟨_, rfl⟩
    rw [← hwE]
    replace hbx := hbx.set 3 (Value.string ⟨#[]⟩) (by simp)
    replace hOn := hOn.setOther px 3 (Value.string ⟨#[]⟩) (fun k hk => by have := (hOn.lt k hk).1; have := Hw4.out; omega)
    replace hOl := hOl.setOther px 3 (Value.string ⟨#[]⟩) (fun k hk => by have := (hOl.lt k hk).1; have := Hgx.out; omega)
    replace hb8 := hb8.setCell (p := ⟨px, 3, none⟩) Hpx.out (Value.string ⟨#[]⟩)
    rw [← hwE] at hbx hOn hOl hb8 
    clear hwE
    simp only [List.set_cons_zero, List.set_cons_succ] at hbx
    have ex0 := hbx.cell 0 _ rfl
    have ex1 := hbx.cell 1 _ rfl
    have ex2 := hbx.cell 2 _ rfl
    have ex3 := hbx.cell 3 _ rfl
    have ex4 := hbx.cell 4 _ rfl
    have ex5 := hbx.cell 5 _ rfl
    have ex6 := hbx.cell 6 _ rfl
    have hcc : checkE { e with post := [] } = 3 := spoilt_2 HC.out hnN hn60 hl60 HyB.out
    have hF : EnsIs w10 (ensV { e with post := [] } bo bc (some ⟨gn, 0, none⟩) ncap lao lcap) { e with post := [] } bo bc (some ⟨gn, 0, none⟩) ncap lao lcap := ⟨rfl, hE.base.below hb8, OwnsK.toRow enC_len hOn rfl, OwnsK.toRow elC_len hOl rfl, hE.bl, hE.nl, hE.ll, hE.bv, hE.nv, hE.lv⟩
    have hcall := check_any _ { e with post := [] } _ _ _ _ _ _ w10 hF (by show e.nodes.length ≤ 100000; omega) 3 (Lib.hid hcc)
    clear hcc hF
    go_wp2_with (go_at_call 7; refine hcall.mono ?_; rintro e9 wz ⟨rfl, hbz⟩)
    go_ret
    exact ⟨rfl, hbf.trans ((hb8.trans (hbz.mono hb8.size)).mono hbf.size)⟩
  have z2 : (z == 2) = false := by simp [q2]
  clear q2
  by_cases q3 : z = 3
  case pos =>
    have zz : (z == 3) = true := by simp [q3]
    clear q3
    obtain ⟨pb, hpE⟩ : ∃ p, p = w9.heap.size := ⟨_, rfl⟩
    have hpbx : px ≠ pb := by have := hbx.lt; omega
    have hlx := hbx.lt
    have ex0 := hbx.cell 0 _ rfl
    have ex1 := hbx.cell 1 _ rfl
    have ex2 := hbx.cell 2 _ rfl
    have ex3 := hbx.cell 3 _ rfl
    have ex4 := hbx.cell 4 _ rfl
    have ex5 := hbx.cell 5 _ rfl
    have ex6 := hbx.cell 6 _ rfl
    have fx := hbx.free 4 (by simp)
    go_upto_region 29 with fail
    rw [← hpE]
    clear fx ex0 ex1 ex2 ex3 ex4 ex5 ex6
    have Hpb := Lib.hid hpE
    clear hpE
    have Hs9 : Hid ((w9.setCell ⟨px, 4, none⟩ (Value.slice (some ⟨pb, 0, none⟩) 1 1)).heap.size = w9.heap.size) := Lib.hid (by simp [World.setCell])
    obtain ⟨w10, hwE⟩ : ∃ W, W = w9.setCell ⟨px, 4, none⟩ (Value.slice (some ⟨pb, 0, none⟩) 1 1) := ⟨_, rfl⟩
    rw [← hwE]
    replace hbx := hbx.set 4 (Value.slice (some ⟨pb, 0, none⟩) 1 1) (by simp)
    replace hOn := hOn.setOther px 4 (Value.slice (some ⟨pb, 0, none⟩) 1 1) (fun k hk => by have := (hOn.lt k hk).1; have := Hw4.out; omega)
    replace hOl := hOl.setOther px 4 (Value.slice (some ⟨pb, 0, none⟩) 1 1) (fun k hk => by have := (hOl.lt k hk).1; have := Hgx.out; omega)
    replace hb8 := hb8.setCell (p := ⟨px, 4, none⟩) Hpx.out (Value.slice (some ⟨pb, 0, none⟩) 1 1)
    rw [← hwE] at hbx hOn hOl hb8 Hs9
    clear hwE
    simp only [List.set_cons_zero, List.set_cons_succ] at hbx
    obtain ⟨w11, hwE⟩ : ∃ W, W = w10.alloc (.cells #[.int .u64 2139095040] 31) := ⟨_, rfl⟩
    have hb10 : Below w10.heap.size w10 w11 := by rw [hwE]; exact (Below.refl _ w10).alloc (Nat.le_refl _) _
    have hpb2 : pb < w11.heap.size := by rw [hwE, Hpb.out, ← Hs9.out]; simp
    have hcb2 : w11.cell? ⟨pb, 0, none⟩ = some (.int .u64 2139095040) := by rw [hwE, Hpb.out, ← Hs9.out]; go_simp
    rw [← hwE]
    clear hwE
    replace hbx := hbx.kept hb10
    replace hOn := hOn.kept hb10
    replace hOl := hOl.kept hb10
    replace hb8 := hb8.trans (hb10.mono hb8.size)
    clear hpbx Hpb Hs9 hb10 hlx
    have ex0 := hbx.cell 0 _ rfl
    have ex1 := hbx.cell 1 _ rfl
    have ex2 := hbx.cell 2 _ rfl
    have ex3 := hbx.cell 3 _ rfl
    have ex4 := hbx.cell 4 _ rfl
    have ex5 := hbx.cell 5 _ rfl
    have ex6 := hbx.cell 6 _ rfl
    have hcc : checkE { e with base := [2139095040] } = 4 := spoilt_3 HC.out hnN hn60 hl60 HyB.out
    have hF : EnsIs w11 (ensV { e with base := [2139095040] } (some ⟨pb, 0, none⟩) 1 (some ⟨gn, 0, none⟩) ncap lao lcap) { e with base := [2139095040] } (some ⟨pb, 0, none⟩) 1 (some ⟨gn, 0, none⟩) ncap lao lcap := ⟨rfl, .inr ⟨pb, 0, rfl, hpb2, fun i hi => by (have : i = 0 := by (simp at hi; exact hi)); subst this; rw [Nat.zero_add]; exact hcb2⟩, OwnsK.toRow enC_len hOn rfl, OwnsK.toRow elC_len hOl rfl, (show 1 ≤ maxLen by decide), hE.nl, hE.ll, (fun b hb => by simp at hb; subst hb; decide), hE.nv, hE.lv⟩
    have hcall := check_any _ { e with base := [2139095040] } _ _ _ _ _ _ w11 hF (by show e.nodes.length ≤ 100000; omega) 4 (Lib.hid hcc)
    clear hcc hF
    go_wp2_with (go_at_call 7; refine hcall.mono ?_; rintro e9 wz ⟨rfl, hbz⟩)
    go_ret
    exact ⟨rfl, hbf.trans ((hb8.trans (hbz.mono hb8.size)).mono hbf.size)⟩
  have z3 : (z == 3) = false := by simp [q3]
  clear q3
  by_cases q4 : z = 4
  case pos =>
    have zz : (z == 4) = true := by simp [q4]
    clear q4
    go_upto_region 22 with fail
    refine wp_region_seqT2 (S := fun w' => BoxL w' px [.int .i64 e.feats, .int .i64 e.tgts, .string ⟨e.agg.toArray⟩, .string ⟨e.post.toArray⟩, .slice bo e.base.length bc, .slice (some ⟨gn, 0, none⟩) e.nodes.length ncap, .slice lao e.leaves.length lcap] ∧ CN w' gn n y) [(true, 0), (true, 1), (true, 2), (true, 3), (true, 4), (true, 5), (true, 6), (false, 7), (false, 8), (true, 9)] (by kernel_rfl) (by kernel_rfl) (by kernel_rfl) (by kernel_rfl) (by kernel_rfl) (by kernel_rfl) (by kernel_rfl) (fun d _ _ _ _ h => by cases d <;> exact h) ⟨⟨hbx.cell, hbx.free, hbx.lt⟩, fun j c hj => hNd j c hj⟩ (fun _ => ?_)
    simp only [pickOps, List.append_eq, List.cons_append, List.nil_append, List.getElem?_toArray, List.getElem?_cons_succ, List.getElem?_cons_zero]
    have hb : Below w9.heap.size w9 w9.drew := (Below.refl _ _).drew
    generalize w9.drew = u1 at hb ⊢
    replace hbx := hbx.kept hb
    have hgl9 := (hOn.lt gn rfl).2
    replace hNd : CN _ gn n y := fun j c hj => (hb.cell (p := ⟨gn, n * 8 + j, none⟩) hgl9).trans (hNd j c hj)
    clear hgl9
    replace hOn := hOn.kept hb
    replace hOl := hOl.kept hb
    replace hsz8 := Nat.le_trans hsz8 (hb).size
    replace hb8 := hb8.trans (hb.mono hb8.size)
    clear hb
    repeat (first | (refine seq_take (v := ?_) (by rfl) ?_ ?_; rotate_left; (· intro w hSw; (try dsimp only at hSw); obtain ⟨hLx, hNx⟩ := hSw; have ex0 := hLx.cell 0 _ rfl; have ex1 := hLx.cell 1 _ rfl; have ex2 := hLx.cell 2 _ rfl; have ex3 := hLx.cell 3 _ rfl; have ex4 := hLx.cell 4 _ rfl; have ex5 := hLx.cell 5 _ rfl; have ex6 := hLx.cell 6 _ rfl; obtain ⟨c0, c1, c2, c3, c4, c5, c6, c7⟩ := hNx.c8; clear hLx hNx; go_simp; all_goals with_reducible rfl); (try simp only [Act.put, List.setIfInBounds_toArray, List.set_cons_zero, List.set_cons_succ])) | (refine seq_leave (by rfl) ?_; (try simp only [Act.put, List.setIfInBounds_toArray, List.set_cons_zero, List.set_cons_succ])))
    refine seq_step (by rfl) (fun K hK => ?_)
    go_simp
    obtain ⟨u2, hwE⟩ : ∃ W, W = u1.alloc (.cells #[.int .i64 y.tree, .int .i64 y.node, .int .i64 y.feat, .int .i64 y.mode, .int .u64 (y.val : Int), .int .i64 y.tru, .int .i64 y.fls, .bool y.trk] 33) := ⟨_, rfl⟩
    have hb : Below u1.heap.size u1 u2 := by rw [hwE]; exact (Below.refl _ _).alloc (Nat.le_refl _) _
    obtain ⟨pn9, hpE⟩ : ∃ p, p = u1.heap.size := ⟨_, rfl⟩
    have hbn : BoxL u2 pn9 [.int .i64 y.tree, .int .i64 y.node, .int .i64 y.feat, .int .i64 y.mode, .int .u64 (y.val : Int), .int .i64 y.tru, .int .i64 y.fls, .bool y.trk] := by rw [hwE, hpE]; exact BoxL.new u1 _ _
    rw [← hwE, ← hpE]
    clear hwE hpE
    replace hbx := hbx.kept hb
    have hgl9 := (hOn.lt gn rfl).2
    replace hNd : CN _ gn n y := fun j c hj => (hb.cell (p := ⟨gn, n * 8 + j, none⟩) hgl9).trans (hNd j c hj)
    clear hgl9
    replace hOn := hOn.kept hb
    replace hOl := hOl.kept hb
    replace hsz8 := Nat.le_trans hsz8 (hb).size
    replace hb8 := hb8.trans (hb.mono hb8.size)
    clear hb
    refine hK.out _ _ ⟨hbx, hNd⟩ (fun _ => ?_)
    clear hK K
    (try simp only [Act.put, List.setIfInBounds_toArray, List.set_cons_zero, List.set_cons_succ])
    refine seq_step (by rfl) (fun K hK => ?_)
    obtain ⟨v9, u3, hrun, hO9, hg9, hk9⟩ := run_appendKx E_en 23 hOn ⟨pn9, 0, none⟩ 1 (enC y) rfl (fun j u hj => by rw [Addr.add_lit, Nat.zero_add]; exact hbn.cell j u hj) (enC_one y) (by omega) (by unfold maxLen; omega) (by have := hOn.lt gn rfl; omega)
    refine step_run_append rfl rfl rfl hrun ?_
    have hgx : px ≠ gn := by have := Hgp.out; omega
    replace hbx := hbx.block (hg9.block px hbx.lt (by simpa using hgx))
    replace hNd : CN u3 gn n y := fun j c hj => by
      have hj8 : j < 8 := by have := (List.getElem?_eq_some_iff.1 hj).1; simpa [enC] using this
      exact (hk9 (n * 8 + j) (by omega)).trans (hNd j c hj)
    replace hOl := hOl.block (fun k hk => hg9.block k (hOl.lt k hk).2 (by simp; have := (hOl.lt k hk).1; have := Hgn.out; omega))
    replace hb8 := hb8.grown hg9 hb8.size (fun j hj => by cases hj; have := Hgp.out; have := Hpx.out; omega)
    clear hbn hgx
    have hN9 : e.nodes.flatMap enC ++ enC y = (e.nodes ++ [y]).flatMap enC := by simp
    rw [hN9] at hO9
    clear hN9
    rcases hO9.shape with ⟨_, h0⟩ | ⟨g9, c9, rfl, hg9b, hg9l, -, -, -, -⟩
    · exact absurd h0 (by omega)
    have Hg9 := Lib.hid hg9b
    clear hrun hk9 hg9 hOn hg9b hg9l
    have hOn := hO9
    clear hO9
    refine hK.out _ _ ⟨hbx, hNd⟩ (fun _ => ?_)
    clear hK K
    (try simp only [Act.put, List.setIfInBounds_toArray, List.set_cons_zero, List.set_cons_succ])
    repeat (first | (refine seq_take (v := ?_) (by rfl) ?_ ?_; rotate_left; (· intro w hSw; (try dsimp only at hSw); obtain ⟨hLx, hNx⟩ := hSw; have ex0 := hLx.cell 0 _ rfl; have ex1 := hLx.cell 1 _ rfl; have ex2 := hLx.cell 2 _ rfl; have ex3 := hLx.cell 3 _ rfl; have ex4 := hLx.cell 4 _ rfl; have ex5 := hLx.cell 5 _ rfl; have ex6 := hLx.cell 6 _ rfl; obtain ⟨c0, c1, c2, c3, c4, c5, c6, c7⟩ := hNx.c8; clear hLx hNx; go_simp; all_goals with_reducible rfl); (try simp only [Act.put, List.setIfInBounds_toArray, List.set_cons_zero, List.set_cons_succ])) | (refine seq_leave (by rfl) ?_; (try simp only [Act.put, List.setIfInBounds_toArray, List.set_cons_zero, List.set_cons_succ])))
    refine seq_end ?_
    refine tail_end rfl rfl ?_
    have ex0 := hbx.cell 0 _ rfl
    have ex1 := hbx.cell 1 _ rfl
    have ex2 := hbx.cell 2 _ rfl
    have ex3 := hbx.cell 3 _ rfl
    have ex4 := hbx.cell 4 _ rfl
    have ex5 := hbx.cell 5 _ rfl
    have ex6 := hbx.cell 6 _ rfl
    have fx := hbx.free 5 (by simp)
    go_simp
    clear fx ex0 ex1 ex2 ex3 ex4 ex5 ex6
    refine tail_end rfl rfl ?_
    go_simp
    go_upto_region 29 with fail
    obtain ⟨w20, hwE⟩ : ∃ W, W = u3.setCell ⟨px, 5, none⟩ (Value.slice (some ⟨g9, 0, none⟩) (e.nodes.length + 1) c9) := ⟨_, rfl⟩
    rw [← hwE]
    replace hbx := hbx.set 5 (Value.slice (some ⟨g9, 0, none⟩) (e.nodes.length + 1) c9) (by simp)
    replace hOn := hOn.setOther px 5 (Value.slice (some ⟨g9, 0, none⟩) (e.nodes.length + 1) c9) (fun k hk => by have := (hOn.lt k hk).1; have := Hw4.out; omega)
    replace hOl := hOl.setOther px 5 (Value.slice (some ⟨g9, 0, none⟩) (e.nodes.length + 1) c9) (fun k hk => by have := (hOl.lt k hk).1; have := Hgx.out; omega)
    replace hb8 := hb8.setCell (p := ⟨px, 5, none⟩) Hpx.out (Value.slice (some ⟨g9, 0, none⟩) (e.nodes.length + 1) c9)
    rw [← hwE] at hbx hOn hOl hb8 
    clear hwE
    simp only [List.set_cons_zero, List.set_cons_succ] at hbx
    obtain ⟨ns2, hns2⟩ : ∃ x, x = e.nodes ++ [y] := ⟨_, rfl⟩
    have hlen9 : ns2.length = e.nodes.length + 1 := by rw [hns2]; simp
    rw [← hns2] at hOn
    rw [← hlen9] at hbx
    have hcc9 : checkE { e with nodes := ns2 } = 5 := by rw [hns2]; exact spoilt_4 HC.out hnN hn60 hl60 HyB.out
    have hwf9 : ∀ x ∈ ns2, ENW x := by rw [hns2]; intro x hx; rcases List.mem_append.1 hx with h | h; exact hE.nv x h; simp at h; subst h; exact hE.nv _ Hym.out
    have hrow9 := OwnsK.toRow enC_len hOn hlen9.symm
    have hl9 : ns2.length ≤ maxLen := by rw [hlen9]; unfold maxLen; omega
    have hl9b : ns2.length ≤ 100000 := by omega
    clear hlen9 hns2
    have ex0 := hbx.cell 0 _ rfl
    have ex1 := hbx.cell 1 _ rfl
    have ex2 := hbx.cell 2 _ rfl
    have ex3 := hbx.cell 3 _ rfl
    have ex4 := hbx.cell 4 _ rfl
    have ex5 := hbx.cell 5 _ rfl
    have ex6 := hbx.cell 6 _ rfl
    have hcc : checkE { e with nodes := ns2 } = 5 := hcc9
    have hF : EnsIs w20 (ensV { e with nodes := ns2 } bo bc (some ⟨g9, 0, none⟩) c9 lao lcap) { e with nodes := ns2 } bo bc (some ⟨g9, 0, none⟩) c9 lao lcap := ⟨rfl, hE.base.below hb8, hrow9, OwnsK.toRow elC_len hOl rfl, hE.bl, hl9, hE.ll, hE.bv, hwf9, hE.lv⟩
    have hcall := check_any _ { e with nodes := ns2 } _ _ _ _ _ _ w20 hF (hl9b) 5 (Lib.hid hcc)
    clear hcc hF
    go_wp2_with (go_at_call 7; refine hcall.mono ?_; rintro e9 wz ⟨rfl, hbz⟩)
    go_ret
    exact ⟨rfl, hbf.trans ((hb8.trans (hbz.mono hb8.size)).mono hbf.size)⟩
  have z4 : (z == 4) = false := by simp [q4]
  clear q4
  by_cases q5 : z = 5
  case pos =>
    have zz : (z == 5) = true := by simp [q5]
    clear q5
    have ex0 := hbx.cell 0 _ rfl
    have ex1 := hbx.cell 1 _ rfl
    have ex2 := hbx.cell 2 _ rfl
    have ex3 := hbx.cell 3 _ rfl
    have ex4 := hbx.cell 4 _ rfl
    have ex5 := hbx.cell 5 _ rfl
    have ex6 := hbx.cell 6 _ rfl
    obtain ⟨c0, c1, c2, c3, c4, c5, c6, c7⟩ := hNd.c8
    have fx := hOn.freeK (n * 8 + 3)
    go_upto_region 29 with fail
    clear fx c0 c1 c2 c3 c4 c5 c6 c7 hNd ex0 ex1 ex2 ex3 ex4 ex5 ex6
    obtain ⟨w10, hwE⟩ : ∃ W, W = w9.setCell ⟨gn, n * 8 + 3, none⟩ (Value.int .i64 8) := ⟨_, rfl⟩
    rw [← hwE]
    have hgx : px ≠ gn := by have := Hgp.out; omega
    replace hbx := hbx.setOther hgx (n * 8 + 3) (Value.int .i64 8)
    replace hOl := hOl.setOther gn (n * 8 + 3) (Value.int .i64 8) (fun k hk => by have := (hOl.lt k hk).1; have := Hgn.out; omega)
    replace hOn := hOn.stored (n * 8 + 3) (Value.int .i64 8)
    rw [flat_set enC_len (show 3 < 8 by decide) (show enC { y with mode := 8 } = (enC y).set 3 (Value.int .i64 8) from rfl) e.nodes n Hy.out] at hOn
    replace hb8 := hb8.setCell (p := ⟨gn, n * 8 + 3, none⟩) (show w3.heap.size ≤ gn by have h1 := Hgp.out; have h2 := Hpx.out; omega) (Value.int .i64 8)
    rw [← hwE] at hbx hOn hOl hb8
    clear hwE hgx
    obtain ⟨ns2, hns2⟩ : ∃ x, x = e.nodes.set n { y with mode := 8 } := ⟨_, rfl⟩
    have hlen9 : ns2.length = e.nodes.length := by rw [hns2]; exact List.length_set
    rw [← hns2] at hOn
    rw [← hlen9] at hbx
    have hcc9 : checkE { e with nodes := ns2 } = 6 := by rw [hns2]; exact spoilt_5 HC.out hnN hn60 hl60 HyB.out
    have hwf9 : ∀ x ∈ ns2, ENW x := by rw [hns2]; intro x hx; rcases mem_set hnN hx with h | h; subst h; have h8 := hE.nv y Hym.out; exact ⟨h8.v, h8.tree, h8.node, h8.feat, rfl, h8.tru, h8.fls⟩; exact hE.nv x h
    have hrow9 := OwnsK.toRow enC_len hOn hlen9.symm
    have hl9 : ns2.length ≤ maxLen := by rw [hlen9]; exact hE.nl
    have hl9b : ns2.length ≤ 100000 := by omega
    clear hlen9 hns2
    have ex0 := hbx.cell 0 _ rfl
    have ex1 := hbx.cell 1 _ rfl
    have ex2 := hbx.cell 2 _ rfl
    have ex3 := hbx.cell 3 _ rfl
    have ex4 := hbx.cell 4 _ rfl
    have ex5 := hbx.cell 5 _ rfl
    have ex6 := hbx.cell 6 _ rfl
    have hcc : checkE { e with nodes := ns2 } = 6 := hcc9
    have hF : EnsIs w10 (ensV { e with nodes := ns2 } bo bc (some ⟨gn, 0, none⟩) ncap lao lcap) { e with nodes := ns2 } bo bc (some ⟨gn, 0, none⟩) ncap lao lcap := ⟨rfl, hE.base.below hb8, hrow9, OwnsK.toRow elC_len hOl rfl, hE.bl, hl9, hE.ll, hE.bv, hwf9, hE.lv⟩
    have hcall := check_any _ { e with nodes := ns2 } _ _ _ _ _ _ w10 hF (hl9b) 6 (Lib.hid hcc)
    clear hcc hF
    go_wp2_with (go_at_call 7; refine hcall.mono ?_; rintro e9 wz ⟨rfl, hbz⟩)
    go_ret
    exact ⟨rfl, hbf.trans ((hb8.trans (hbz.mono hb8.size)).mono hbf.size)⟩
  have z5 : (z == 5) = false := by simp [q5]
  clear q5
  by_cases q6 : z = 6
  case pos =>
    have zz : (z == 6) = true := by simp [q6]
    clear q6
    have ex0 := hbx.cell 0 _ rfl
    have ex1 := hbx.cell 1 _ rfl
    have ex2 := hbx.cell 2 _ rfl
    have ex3 := hbx.cell 3 _ rfl
    have ex4 := hbx.cell 4 _ rfl
    have ex5 := hbx.cell 5 _ rfl
    have ex6 := hbx.cell 6 _ rfl
    obtain ⟨c0, c1, c2, c3, c4, c5, c6, c7⟩ := hNd.c8
    by_cases q7 : y.mode = 7
    case pos =>
      have qq : (y.mode == 7) = true := by simp [q7]
      go_wp2_with fail
      go_ret
      exact ⟨rfl, hbf.trans (hb8.mono hbf.size)⟩
    have qq : (y.mode == 7) = false := by simp [q7]
    have Q7 := Lib.hid q7
    clear q7
    go_upto_region 28 with fail
    clear c0 c1 c2 c3 c4 c5 c6 c7 ex0 ex1 ex2 ex3 ex4 ex5 ex6
    go_upto_region 28 with fail
    refine wp_region_seqT2 (S := fun w' => BoxL w' px [.int .i64 e.feats, .int .i64 e.tgts, .string ⟨e.agg.toArray⟩, .string ⟨e.post.toArray⟩, .slice bo e.base.length bc, .slice (some ⟨gn, 0, none⟩) e.nodes.length ncap, .slice lao e.leaves.length lcap] ∧ CN w' gn n y) [(true, 0), (true, 1), (true, 2), (true, 3), (true, 4), (true, 5), (true, 6), (true, 7), (true, 8), (true, 9), (true, 10)] (by kernel_rfl) (by kernel_rfl) (by kernel_rfl) (by kernel_rfl) (by kernel_rfl) (by kernel_rfl) (by kernel_rfl) (fun d _ _ _ _ h => by cases d <;> exact h) ⟨⟨hbx.cell, hbx.free, hbx.lt⟩, fun j c hj => hNd j c hj⟩ (fun _ => ?_)
    simp only [pickOps, List.append_eq, List.cons_append, List.nil_append, List.getElem?_toArray, List.getElem?_cons_succ, List.getElem?_cons_zero]
    have hb : Below w9.heap.size w9 w9.drew := (Below.refl _ _).drew
    generalize w9.drew = u1 at hb ⊢
    replace hbx := hbx.kept hb
    have hgl9 := (hOn.lt gn rfl).2
    replace hNd : CN _ gn n y := fun j c hj => (hb.cell (p := ⟨gn, n * 8 + j, none⟩) hgl9).trans (hNd j c hj)
    clear hgl9
    replace hOn := hOn.kept hb
    replace hOl := hOl.kept hb
    replace hsz8 := Nat.le_trans hsz8 (hb).size
    replace hb8 := hb8.trans (hb.mono hb8.size)
    clear hb
    repeat (first | (refine seq_take (v := ?_) (by rfl) ?_ ?_; rotate_left; (· intro w hSw; (try dsimp only at hSw); obtain ⟨hLx, hNx⟩ := hSw; have ex0 := hLx.cell 0 _ rfl; have ex1 := hLx.cell 1 _ rfl; have ex2 := hLx.cell 2 _ rfl; have ex3 := hLx.cell 3 _ rfl; have ex4 := hLx.cell 4 _ rfl; have ex5 := hLx.cell 5 _ rfl; have ex6 := hLx.cell 6 _ rfl; obtain ⟨c0, c1, c2, c3, c4, c5, c6, c7⟩ := hNx.c8; clear hLx hNx; go_simp; all_goals with_reducible rfl); (try simp only [Act.put, List.setIfInBounds_toArray, List.set_cons_zero, List.set_cons_succ])) | (refine seq_leave (by rfl) ?_; (try simp only [Act.put, List.setIfInBounds_toArray, List.set_cons_zero, List.set_cons_succ])))
    refine seq_end ?_
    refine tail_end rfl rfl ?_
    have ex0 := hbx.cell 0 _ rfl
    have ex1 := hbx.cell 1 _ rfl
    have ex2 := hbx.cell 2 _ rfl
    have ex3 := hbx.cell 3 _ rfl
    have ex4 := hbx.cell 4 _ rfl
    have ex5 := hbx.cell 5 _ rfl
    have ex6 := hbx.cell 6 _ rfl
    obtain ⟨c0, c1, c2, c3, c4, c5, c6, c7⟩ := hNd.c8
    have fx := hOn.freeK (n * 8 + 5)
    go_simp
    clear fx c0 c1 c2 c3 c4 c5 c6 c7 hNd ex0 ex1 ex2 ex3 ex4 ex5 ex6
    refine tail_end rfl rfl ?_
    go_simp
    go_upto_region 29 with fail
    obtain ⟨w20, hwE⟩ : ∃ W, W = u1.setCell ⟨gn, n * 8 + 5, none⟩ (Value.int .i64 y.fls) := ⟨_, rfl⟩
    rw [← hwE]
    have hgx : px ≠ gn := by have := Hgp.out; omega
    replace hbx := hbx.setOther hgx (n * 8 + 5) (Value.int .i64 y.fls)
    replace hOl := hOl.setOther gn (n * 8 + 5) (Value.int .i64 y.fls) (fun k hk => by have := (hOl.lt k hk).1; have := Hgn.out; omega)
    replace hOn := hOn.stored (n * 8 + 5) (Value.int .i64 y.fls)
    rw [flat_set enC_len (show 5 < 8 by decide) (show enC { y with tru := y.fls } = (enC y).set 5 (Value.int .i64 y.fls) from rfl) e.nodes n Hy.out] at hOn
    replace hb8 := hb8.setCell (p := ⟨gn, n * 8 + 5, none⟩) (show w3.heap.size ≤ gn by have h1 := Hgp.out; have h2 := Hpx.out; omega) (Value.int .i64 y.fls)
    rw [← hwE] at hbx hOn hOl hb8
    clear hwE hgx
    obtain ⟨ns2, hns2⟩ : ∃ x, x = e.nodes.set n { y with tru := y.fls } := ⟨_, rfl⟩
    have hlen9 : ns2.length = e.nodes.length := by rw [hns2]; exact List.length_set
    rw [← hns2] at hOn
    rw [← hlen9] at hbx
    have hcc9 : checkE { e with nodes := ns2 } = 9 := by rw [hns2]; exact spoilt_6 HC.out hnN hn60 hl60 HyB.out Q7.out
    have hwf9 : ∀ x ∈ ns2, ENW x := by rw [hns2]; intro x hx; rcases mem_set hnN hx with h | h; subst h; have h8 := hE.nv y Hym.out; exact ⟨h8.v, h8.tree, h8.node, h8.feat, h8.mode, h8.fls, h8.fls⟩; exact hE.nv x h
    have hrow9 := OwnsK.toRow enC_len hOn hlen9.symm
    have hl9 : ns2.length ≤ maxLen := by rw [hlen9]; exact hE.nl
    have hl9b : ns2.length ≤ 100000 := by omega
    clear hlen9 hns2
    have ex0 := hbx.cell 0 _ rfl
    have ex1 := hbx.cell 1 _ rfl
    have ex2 := hbx.cell 2 _ rfl
    have ex3 := hbx.cell 3 _ rfl
    have ex4 := hbx.cell 4 _ rfl
    have ex5 := hbx.cell 5 _ rfl
    have ex6 := hbx.cell 6 _ rfl
    have hcc : checkE { e with nodes := ns2 } = 9 := hcc9
    have hF : EnsIs w20 (ensV { e with nodes := ns2 } bo bc (some ⟨gn, 0, none⟩) ncap lao lcap) { e with nodes := ns2 } bo bc (some ⟨gn, 0, none⟩) ncap lao lcap := ⟨rfl, hE.base.below hb8, hrow9, OwnsK.toRow elC_len hOl rfl, hE.bl, hl9, hE.ll, hE.bv, hwf9, hE.lv⟩
    have hcall := check_any _ { e with nodes := ns2 } _ _ _ _ _ _ w20 hF (hl9b) 9 (Lib.hid hcc)
    clear hcc hF
    go_wp2_with (go_at_call 7; refine hcall.mono ?_; rintro e9 wz ⟨rfl, hbz⟩)
    go_ret
    exact ⟨rfl, hbf.trans ((hb8.trans (hbz.mono hb8.size)).mono hbf.size)⟩
  have z6 : (z == 6) = false := by simp [q6]
  clear q6
  go_upto_region 12 with fail
  refine wp_region_seqT2 (S := fun w' => BoxL w' px [.int .i64 e.feats, .int .i64 e.tgts, .string ⟨e.agg.toArray⟩, .string ⟨e.post.toArray⟩, .slice bo e.base.length bc, .slice (some ⟨gn, 0, none⟩) e.nodes.length ncap, .slice lao e.leaves.length lcap] ∧ CN w' gn n y) [(true, 0), (true, 1), (true, 2), (true, 3), (true, 4), (true, 5), (true, 6), (true, 7), (true, 8), (false, 9), (false, 10), (true, 11)] (by kernel_rfl) (by kernel_rfl) (by kernel_rfl) (by kernel_rfl) (by kernel_rfl) (by kernel_rfl) (by kernel_rfl) (fun d _ _ _ _ h => by cases d <;> exact h) ⟨⟨hbx.cell, hbx.free, hbx.lt⟩, fun j c hj => hNd j c hj⟩ (fun _ => ?_)
  simp only [pickOps, List.append_eq, List.cons_append, List.nil_append, List.getElem?_toArray, List.getElem?_cons_succ, List.getElem?_cons_zero]
  have hb : Below w9.heap.size w9 w9.drew := (Below.refl _ _).drew
  generalize w9.drew = u1 at hb ⊢
  replace hbx := hbx.kept hb
  have hgl9 := (hOn.lt gn rfl).2
  replace hNd : CN _ gn n y := fun j c hj => (hb.cell (p := ⟨gn, n * 8 + j, none⟩) hgl9).trans (hNd j c hj)
  clear hgl9
  replace hOn := hOn.kept hb
  replace hOl := hOl.kept hb
  replace hsz8 := Nat.le_trans hsz8 (hb).size
  replace hb8 := hb8.trans (hb.mono hb8.size)
  clear hb
  repeat (first | (refine seq_take (v := ?_) (by rfl) ?_ ?_; rotate_left; (· intro w hSw; (try dsimp only at hSw); obtain ⟨hLx, hNx⟩ := hSw; have ex0 := hLx.cell 0 _ rfl; have ex1 := hLx.cell 1 _ rfl; have ex2 := hLx.cell 2 _ rfl; have ex3 := hLx.cell 3 _ rfl; have ex4 := hLx.cell 4 _ rfl; have ex5 := hLx.cell 5 _ rfl; have ex6 := hLx.cell 6 _ rfl; obtain ⟨c0, c1, c2, c3, c4, c5, c6, c7⟩ := hNx.c8; clear hLx hNx; go_simp; all_goals with_reducible rfl); (try simp only [Act.put, List.setIfInBounds_toArray, List.set_cons_zero, List.set_cons_succ])) | (refine seq_leave (by rfl) ?_; (try simp only [Act.put, List.setIfInBounds_toArray, List.set_cons_zero, List.set_cons_succ])))
  refine seq_step (by rfl) (fun K hK => ?_)
  go_simp
  obtain ⟨u2, hwE⟩ : ∃ W, W = u1.alloc (.cells #[.int .i64 y.tree, .int .i64 (-1), .int .i64 0, .int .u64 0] 35) := ⟨_, rfl⟩
  have hb : Below u1.heap.size u1 u2 := by rw [hwE]; exact (Below.refl _ _).alloc (Nat.le_refl _) _
  obtain ⟨pn9, hpE⟩ : ∃ p, p = u1.heap.size := ⟨_, rfl⟩
  have hbn : BoxL u2 pn9 [.int .i64 y.tree, .int .i64 (-1), .int .i64 0, .int .u64 0] := by rw [hwE, hpE]; exact BoxL.new u1 _ _
  rw [← hwE, ← hpE]
  clear hwE hpE
  replace hbx := hbx.kept hb
  have hgl9 := (hOn.lt gn rfl).2
  replace hNd : CN _ gn n y := fun j c hj => (hb.cell (p := ⟨gn, n * 8 + j, none⟩) hgl9).trans (hNd j c hj)
  clear hgl9
  replace hOn := hOn.kept hb
  replace hOl := hOl.kept hb
  replace hsz8 := Nat.le_trans hsz8 (hb).size
  replace hb8 := hb8.trans (hb.mono hb8.size)
  clear hb
  refine hK.out _ _ ⟨hbx, hNd⟩ (fun _ => ?_)
  clear hK K
  (try simp only [Act.put, List.setIfInBounds_toArray, List.set_cons_zero, List.set_cons_succ])
  refine seq_step (by rfl) (fun K hK => ?_)
  obtain ⟨v9, u3, hrun, hO9, hg9, hr9, -⟩ := run_appendK E_el 24 hOl ⟨pn9, 0, none⟩ 1 (elC ⟨y.tree, -1, 0, 0⟩) rfl (fun j u hj => by rw [Addr.add_lit, Nat.zero_add]; exact hbn.cell j u hj) (elC_one _) (by omega) (by unfold maxLen; omega) hsz8
  refine step_run_append rfl rfl rfl hrun ?_
  have hne : ∀ k, k < w6.heap.size → some k ≠ (Value.slice lao e.leaves.length lcap).ownBlock := fun k hk h => by have := (hOl.lt k h.symm).1; omega
  replace hbx := hbx.block (hg9.block px hbx.lt (hne px Hgx.out))
  replace hNd : CN u3 gn n y := fun j c hj => (World.cell?_of_block (w := u2) (a := ⟨gn, n * 8 + j, none⟩) (hg9.block gn (hOn.lt gn rfl).2 (hne gn Hgn.out))).trans (hNd j c hj)
  replace hOn := hOn.block (fun k hk => by simp [Value.ownBlock] at hk; subst hk; exact hg9.block gn (hOn.lt gn rfl).2 (hne gn Hgn.out))
  replace hb8 := hb8.grown hg9 hb8.size (fun j hj => by have h1 := (hOl.lt j hj).1; have := Hgx.out; have := Hpx.out; omega)
  clear hbn hne
  have hN9 : e.leaves.flatMap elC ++ elC ⟨y.tree, -1, 0, 0⟩ = (e.leaves ++ [(⟨y.tree, -1, 0, 0⟩ : EL)]).flatMap elC := by simp
  rw [hN9] at hO9
  clear hN9
  rcases hO9.shape with ⟨_, h0⟩ | ⟨g9, c9, rfl, hg9b, hg9l, -, -, -, -⟩
  · exact absurd h0 (by omega)
  clear hrun hr9 hg9 hOl hg9b hg9l
  have hOl := hO9
  clear hO9
  refine hK.out _ _ ⟨hbx, hNd⟩ (fun _ => ?_)
  clear hK K
  (try simp only [Act.put, List.setIfInBounds_toArray, List.set_cons_zero, List.set_cons_succ])
  repeat (first | (refine seq_take (v := ?_) (by rfl) ?_ ?_; rotate_left; (· intro w hSw; (try dsimp only at hSw); obtain ⟨hLx, hNx⟩ := hSw; have ex0 := hLx.cell 0 _ rfl; have ex1 := hLx.cell 1 _ rfl; have ex2 := hLx.cell 2 _ rfl; have ex3 := hLx.cell 3 _ rfl; have ex4 := hLx.cell 4 _ rfl; have ex5 := hLx.cell 5 _ rfl; have ex6 := hLx.cell 6 _ rfl; obtain ⟨c0, c1, c2, c3, c4, c5, c6, c7⟩ := hNx.c8; clear hLx hNx; go_simp; all_goals with_reducible rfl); (try simp only [Act.put, List.setIfInBounds_toArray, List.set_cons_zero, List.set_cons_succ])) | (refine seq_leave (by rfl) ?_; (try simp only [Act.put, List.setIfInBounds_toArray, List.set_cons_zero, List.set_cons_succ])))
  refine seq_end ?_
  refine tail_end rfl rfl ?_
  have ex0 := hbx.cell 0 _ rfl
  have ex1 := hbx.cell 1 _ rfl
  have ex2 := hbx.cell 2 _ rfl
  have ex3 := hbx.cell 3 _ rfl
  have ex4 := hbx.cell 4 _ rfl
  have ex5 := hbx.cell 5 _ rfl
  have ex6 := hbx.cell 6 _ rfl
  have fx := hbx.free 6 (by simp)
  go_simp
  clear fx ex0 ex1 ex2 ex3 ex4 ex5 ex6
  refine tail_end rfl rfl ?_
  go_simp
  go_upto_region 29 with fail
  obtain ⟨w20, hwE⟩ : ∃ W, W = u3.setCell ⟨px, 6, none⟩ (Value.slice (some ⟨g9, 0, none⟩) (e.leaves.length + 1) c9) := ⟨_, rfl⟩
  rw [← hwE]
  replace hbx := hbx.set 6 (Value.slice (some ⟨g9, 0, none⟩) (e.leaves.length + 1) c9) (by simp)
  replace hOn := hOn.setOther px 6 (Value.slice (some ⟨g9, 0, none⟩) (e.leaves.length + 1) c9) (fun k hk => by have := (hOn.lt k hk).1; have := Hw4.out; omega)
  replace hOl := hOl.setOther px 6 (Value.slice (some ⟨g9, 0, none⟩) (e.leaves.length + 1) c9) (fun k hk => by have := (hOl.lt k hk).1; have := Hgx.out; omega)
  replace hb8 := hb8.setCell (p := ⟨px, 6, none⟩) Hpx.out (Value.slice (some ⟨g9, 0, none⟩) (e.leaves.length + 1) c9)
  rw [← hwE] at hbx hOn hOl hb8 
  clear hwE
  simp only [List.set_cons_zero, List.set_cons_succ] at hbx
  obtain ⟨ls2, hls2⟩ : ∃ x, x = e.leaves ++ [(⟨y.tree, -1, 0, 0⟩ : EL)] := ⟨_, rfl⟩
  have hlen9 : ls2.length = e.leaves.length + 1 := by rw [hls2]; simp
  rw [← hls2] at hOl
  rw [← hlen9] at hbx
  have hcc9 : checkE { e with leaves := ls2 } = 11 := by rw [hls2]; exact spoilt_7 HC.out hnN hn60 hl60 HyB.out
  have hwf9 : ∀ x ∈ ls2, ELW x := by rw [hls2]; intro x hx; rcases List.mem_append.1 hx with h | h; exact hE.lv x h; simp at h; subst h; exact ⟨(show (0 : Nat) < 18446744073709551616 by decide), (hE.nv y Hym.out).tree, rfl, rfl⟩
  have hrow9 := OwnsK.toRow elC_len hOl hlen9.symm
  have hl9 : ls2.length ≤ maxLen := by rw [hlen9]; unfold maxLen; omega
  clear hlen9 hls2
  have ex0 := hbx.cell 0 _ rfl
  have ex1 := hbx.cell 1 _ rfl
  have ex2 := hbx.cell 2 _ rfl
  have ex3 := hbx.cell 3 _ rfl
  have ex4 := hbx.cell 4 _ rfl
  have ex5 := hbx.cell 5 _ rfl
  have ex6 := hbx.cell 6 _ rfl
  have hcc : checkE { e with leaves := ls2 } = 11 := hcc9
  have hF : EnsIs w20 (ensV { e with leaves := ls2 } bo bc (some ⟨gn, 0, none⟩) ncap (some ⟨g9, 0, none⟩) c9) { e with leaves := ls2 } bo bc (some ⟨gn, 0, none⟩) ncap (some ⟨g9, 0, none⟩) c9 := ⟨rfl, hE.base.below hb8, OwnsK.toRow enC_len hOn rfl, hrow9, hE.bl, hE.nl, hl9, hE.bv, hE.nv, hwf9⟩
  have hcall := check_any _ { e with leaves := ls2 } _ _ _ _ _ _ w20 hF (by show e.nodes.length ≤ 100000; omega) 11 (Lib.hid hcc)
  clear hcc hF
  go_wp2_with (go_at_call 7; refine hcall.mono ?_; rintro e9 wz ⟨rfl, hbz⟩)
  go_ret
  exact ⟨rfl, hbf.trans ((hb8.trans (hbz.mono hb8.size)).mono hbf.size)⟩
end Go.Proofs.YtieffhkfefimeaaGreat
