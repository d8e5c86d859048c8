import Derived.Test.YtieffhkfefimeaaGreatDoorOnxR
import Derived.Test.YtieffhkfefimeaaGreatDoorMathSp
import Derived.Test.YtieffhkfefimeaaGreatDoorSeqU
namespace Go.Proofs.YtieffhkfefimeaaGreatDoor
open Go.RowKit
set_option linter.unusedVariables false
set_option linter.unusedSimpArgs false
theorem E_en : ElemK Tryz.prog 30 55 (.agg #[.int .i64 0, .int .i64 0, .int .i64 0, .int .i64 0, .int .u64 0, .int .i64 0, .int .i64 0, .bool false]) 8 64 := elemK_of Tryz.underlying30 (by kernel_rfl) rfl (by decide)
theorem E_el : ElemK Tryz.prog 31 95 (.agg #[.int .i64 0, .int .i64 0, .int .i64 0, .int .u64 0]) 4 32 := elemK_of Tryz.underlying31 (by kernel_rfl) rfl (by decide)
/-- append(nil, ys...): a copy of a row of structs. -/
theorem appendNK {P : Program} {t e : TypeId} {z : Value} {K bytes : Nat} (E : ElemK P t e z K bytes) {w : World} {ops : Array Oper} {rest : List Oper} {o : Oper} {a : Act} {Q : Exit → Act → World → Prop} {s x : Operand} {us : List Value} {ad : Addr} {m c : Nat}
    (hgd : o.guard = none) (ho : o.op = .call { callee := .builtin .append, args := #[s, x], argTypes := #[t, t] }) (hs : a.eval s = .slice none 0 0) (hx : a.eval x = .slice (some ad) m c) (hul : us.length = m * K) (hu : ∀ j u', us[j]? = some u' → w.cell? (ad.add j) = some u') (h1 : ∀ u ∈ us, u.oneCell' = true) (hl : m * bytes ≤ 140737488355328) (hm : m ≤ maxLen)
    (h : ∀ v' w', OwnsK K w.heap.size e w' v' m us → Below w.heap.size w w' → wpList P ops Q rest (a.put o.dst v') w') : wpList P ops Q (o :: rest) a w := by
  obtain ⟨i, hi, hz, h4, h5⟩ := E.info
  refine wpList_append_own _ hgd s x t ho w.heap.size e i z K bytes E.und hi hz h4 h5 E.many E.pos (.slice none 0 0) 0 [] hs (World.ownsRow_nil _ _ _ _) ad m c us hx hul hu h1 (by simpa using hm) (by simpa using hl) (Nat.le_refl _) ?_
  intro v' w' h2 h3 _
  refine h v' w' (by simpa [OwnsK] using h2) ⟨h3.os, h3.tape, h3.output, h3.size, fun k hk => h3.block k hk (by simp [Value.ownBlock])⟩
theorem flat_one {α : Type} {enc : α → List Value} (h : ∀ x, ∀ u ∈ enc x, u.oneCell' = true) (xs : List α) : ∀ u ∈ xs.flatMap enc, u.oneCell' = true := by
  intro u hu
  obtain ⟨x, _, hx⟩ := List.mem_flatMap.1 hu
  exact h x u hx
theorem enC_one (x : EN) : ∀ u ∈ enC x, u.oneCell' = true := by simp [enC, Value.oneCell']
theorem elC_one (x : EL) : ∀ u ∈ elC x, u.oneCell' = true := by simp [elC, Value.oneCell']
theorem flat_len {α : Type} {k : Nat} {enc : α → List Value} (hk : ∀ x, (enc x).length = k) : ∀ xs : List α, (xs.flatMap enc).length = xs.length * k
  | [] => by simp
  | x :: r => by rw [List.flatMap_cons, List.length_append, hk, flat_len hk r, List.length_cons]; have h9 : (r.length + 1) * k = r.length * k + k := Nat.succ_mul _ _; omega
theorem flat_inv {α β : Type} {k : Nat} {enc : α → List β} (hk : ∀ x, (enc x).length = k) (hk0 : 0 < k) : ∀ (xs : List α) (m : Nat) (c : β), (xs.flatMap enc)[m]? = some c → ∃ i j x, m = i * k + j ∧ xs[i]? = some x ∧ (enc x)[j]? = some c
  | [], m, c, h => by simp at h
  | y :: r, m, c, h => by
    rw [List.flatMap_cons] at h
    by_cases hm : m < k
    · rw [List.getElem?_append_left (by rw [hk]; exact hm)] at h
      exact ⟨0, m, y, by simp, rfl, h⟩
    · rw [List.getElem?_append_right (by rw [hk]; omega), hk] at h
      obtain ⟨i, j, x, h1, h2, h3⟩ := flat_inv hk hk0 r (m - k) c h
      exact ⟨i + 1, j, x, by have h9 : (i + 1) * k = i * k + k := Nat.succ_mul i k; omega, by simpa using h2, h3⟩
/-- The cells of a row, as append reads them. -/
theorem RowC.flat {α : Type} {k : Nat} {enc : α → List Value} {w : World} {b off : Nat} {xs : List α} (hk : ∀ x, (enc x).length = k) (hk0 : 0 < k) (h : RowC k enc w (some ⟨b, off, none⟩) xs) : ∀ j u', (xs.flatMap enc)[j]? = some u' → w.cell? ((⟨b, off, none⟩ : Addr).add j) = some u' := by
  intro m c hm
  obtain ⟨i, j, x, rfl, hi, hj⟩ := flat_inv hk hk0 xs m c hm
  rcases h with rfl | ⟨b', off', e, h2, h3⟩
  · simp at hi
  · cases e
    rw [Addr.add_lit, ← Nat.add_assoc]
    exact h3 i x hi j c hj
theorem place_n (k : Int) (N : Nat) (h1 : 1 ≤ N) (h60 : N ≤ 60) : ∃ n : Nat, (wrap64 (k.tmod (N : Int) + (N : Int))).tmod (N : Int) = (n : Int) ∧ n < N := by
  have hN : (0 : Int) < (N : Int) := by omega
  have ha : -(N : Int) < k.tmod N := Int.lt_tmod_of_pos k hN
  have hb : k.tmod N < (N : Int) := Int.tmod_lt_of_pos k hN
  have hw : wrap64 (k.tmod (N : Int) + (N : Int)) = k.tmod (N : Int) + (N : Int) := by
    have key : ∀ x : Int, -(N : Int) < x → x < (N : Int) → wrap64 (x + (N : Int)) = x + (N : Int) := fun x h1 h2 => IntWalk.wrap64_in _ ⟨by omega, by omega⟩
    exact key _ ha hb
  rw [hw, Int.tmod_eq_emod_of_nonneg (by omega)]
  have h2 := Int.emod_nonneg (k.tmod (N : Int) + (N : Int)) (show (N : Int) ≠ 0 by omega)
  have h3 := Int.emod_lt_of_pos (k.tmod (N : Int) + (N : Int)) hN
  exact ⟨((k.tmod (N : Int) + (N : Int)) % (N : Int)).toNat, by omega, by omega⟩
/-- append(nil, ys...), whatever the row. -/
theorem copy_row {P : Program} {t e : TypeId} {z : Value} {K bytes : Nat} (E : ElemK P t e z K bytes) {α : Type} {enc : α → List Value} {xs : List α} {w : World} {ops : Array Oper} {rest : List Oper} {o : Oper} {a : Act} {Q : Exit → Act → World → Prop} {s x : Operand} {ao : Option Addr} {c : Nat}
    (hk : ∀ x, (enc x).length = K) (hone : ∀ x, ∀ u ∈ enc x, u.oneCell' = true) (hR : RowC K enc w ao xs) (hz : ao = none → c = 0)
    (hgd : o.guard = none) (ho : o.op = .call { callee := .builtin .append, args := #[s, x], argTypes := #[t, t] }) (hs : a.eval s = .slice none 0 0) (hx : a.eval x = .slice ao xs.length c) (hl : xs.length * bytes ≤ 140737488355328) (hm : xs.length ≤ maxLen)
    (h : ∀ v' w', OwnsK K w.heap.size e w' v' xs.length (xs.flatMap enc) → Below w.heap.size w w' → wpList P ops Q rest (a.put o.dst v') w') : wpList P ops Q (o :: rest) a w := by
  cases ao with
  | none =>
    obtain rfl := hz rfl
    have h0 : xs = [] := by
      rcases hR with h | ⟨_, _, e, _⟩
      · exact h
      · cases e
    subst h0
    obtain ⟨i9, hi9, _⟩ := E.info
    refine wpList_append_own_none hgd s x t ho w.heap.size e i9 K E.und hi9 (.slice none 0 0) 0 [] hs (World.ownsRow_nil _ _ _ _) hx ?_
    exact h _ _ (OwnsK.nil _ _ _ _) (Below.refl _ _)
  | some ad =>
    refine appendNK E hgd ho hs hx (flat_len hk xs) (fun j u hj => ?_) (flat_one hone xs) hl hm h
    rcases hR with h9 | ⟨b, off, e9, h2, h3⟩
    · subst h9; simp at hj
    · cases e9
      exact RowC.flat hk E.pos (.inr ⟨b, off, rfl, h2, h3⟩) j u hj
theorem OwnsK.toRow {α : Type} {K base : Nat} {e : TypeId} {w : World} {ao : Option Addr} {n cap : Nat} {enc : α → List Value} {xs : List α} (hk : ∀ x, (enc x).length = K) (h : OwnsK K base e w (.slice ao n cap) n (xs.flatMap enc)) (hn : n = xs.length) : RowC K enc w ao xs := by
  rcases h.shape with ⟨h0, h1⟩ | ⟨g, cap', e0, h2, h3, h4, h5, h6, h7⟩
  · exact .inl (List.eq_nil_of_length_eq_zero (by omega))
  · cases e0
    refine .inr ⟨g, 0, rfl, h3, fun i x hi j c hj => ?_⟩
    have h8 := flat_get hk xs i x j c hi hj
    rw [Nat.zero_add, h6 _ (by
      have h9 := (List.getElem?_eq_some_iff.1 h8).1
      have h10 := h.len
      omega), h8]
theorem flat_set {α β : Type} {k : Nat} {enc : α → List β} (hk : ∀ x, (enc x).length = k) {j : Nat} {u : β} {y y' : α} (hj : j < k) (he : enc y' = (enc y).set j u) : ∀ (xs : List α) (n : Nat), xs[n]? = some y → (xs.flatMap enc).set (n * k + j) u = (xs.set n y').flatMap enc
  | [], n, h => by simp at h
  | x :: r, 0, h => by
    simp at h; subst h
    rw [List.flatMap_cons, List.set_cons_zero, List.flatMap_cons, he, Nat.zero_mul, Nat.zero_add, List.set_append_left _ _ (by rw [hk]; exact hj)]
  | x :: r, n + 1, h => by
    have h9 : (n + 1) * k = n * k + k := Nat.succ_mul n k
    rw [List.flatMap_cons, List.set_cons_succ, List.flatMap_cons, List.set_append_right _ _ (by rw [hk]; omega), hk, show (n + 1) * k + j - k = n * k + j by omega, flat_set hk hj he r n (by simpa using h)]
theorem OwnsK.stored {K base : Nat} {e : TypeId} {w : World} {g n cap : Nat} {xs : List Value} (h : OwnsK K base e w (.slice (some ⟨g, 0, none⟩) n cap) n xs) (j : Nat) (u : Value) : OwnsK K base e (w.setCell ⟨g, j, none⟩ u) (.slice (some ⟨g, 0, none⟩) n cap) n (xs.set j u) :=
  (World.ownsRow.stored h j u).1
/-- The cells of one node of the call's own row. -/
def CN (w : World) (g i : Nat) (y : EN) : Prop := ∀ j c, (enC y)[j]? = some c → w.cell? ⟨g, i * 8 + j, none⟩ = some c
theorem CN.c8 {w : World} {g i : Nat} {y : EN} (h : CN w g i y) :
    w.cell? ⟨g, i * 8, none⟩ = some (.int .i64 y.tree) ∧ w.cell? ⟨g, i * 8 + 1, none⟩ = some (.int .i64 y.node) ∧ w.cell? ⟨g, i * 8 + 2, none⟩ = some (.int .i64 y.feat) ∧ w.cell? ⟨g, i * 8 + 3, none⟩ = some (.int .i64 y.mode) ∧ w.cell? ⟨g, i * 8 + 4, none⟩ = some (.int .u64 (y.val : Int)) ∧ w.cell? ⟨g, i * 8 + 5, none⟩ = some (.int .i64 y.tru) ∧ w.cell? ⟨g, i * 8 + 6, none⟩ = some (.int .i64 y.fls) ∧ w.cell? ⟨g, i * 8 + 7, none⟩ = some (.bool y.trk) :=
  ⟨h 0 _ rfl, h 1 _ rfl, h 2 _ rfl, h 3 _ rfl, h 4 _ rfl, h 5 _ rfl, h 6 _ rfl, h 7 _ rfl⟩
theorem OwnsK.node {base : Nat} {e : TypeId} {w : World} {g n cap : Nat} {xs : List EN} {i : Nat} {y : EN} (h : OwnsK 8 base e w (.slice (some ⟨g, 0, none⟩) n cap) n (xs.flatMap enC)) (hn : n = xs.length) (hi : xs[i]? = some y) : CN w g i y := by
  intro j c hj
  rcases OwnsK.toRow enC_len h hn with h9 | ⟨b, off, e9, h2, h3⟩
  · rw [h9] at hi; simp at hi
  · cases e9
    have := h3 i y hi j c hj
    rwa [Nat.zero_add] at this
/-- append(row, x): the cells that were abide. -/
theorem run_appendKx {P : Program} {t e : TypeId} {z : Value} {K bytes : Nat} (E : ElemK P t e z K bytes) (ty : TypeId) {w : World} {base n g0 cap : Nat} {xs : List Value} (hown : OwnsK K base e w (.slice (some ⟨g0, 0, none⟩) n cap) n xs)
    (ad : Addr) (c : Nat) (us : List Value) (hul : us.length = K) (hu : ∀ j u', us[j]? = some u' → w.cell? (ad.add j) = some u') (h1 : ∀ u ∈ us, u.oneCell' = true) (hl : (n + 1) * bytes ≤ 140737488355328) (hm : n + 1 ≤ maxLen) (hbase : base ≤ w.heap.size) :
    ∃ v' w', (Builtin.append_ #[t, t] ty #[.slice (some ⟨g0, 0, none⟩) n cap, .slice (some ad) 1 c]).run P w = .ok v' w' ∧ OwnsK K base e w' v' (n + 1) (xs ++ us) ∧ w.grownBy w' (some g0) ∧
      (∀ j, j < n * K → w'.cell? ⟨g0, j, none⟩ = w.cell? ⟨g0, j, none⟩) := by
  obtain ⟨i, hi, hz, h4, h5⟩ := E.info
  obtain ⟨v', w', hrun, r1, r2, r3⟩ := run_append_own (P := P) w base t ty e i z K bytes E.und hi hz h4 h5 E.many E.pos (.slice (some ⟨g0, 0, none⟩) n cap) n xs hown ad 1 c us (by omega) hu h1 hm hl hbase
  have hxn := hown.1
  rcases hown.shape with ⟨h0, _⟩ | ⟨g', cap', e0, k1, k2, k3, k4, k5, _⟩
  · cases h0
  cases e0
  refine ⟨v', w', hrun, r1, r2, fun j hj => ?_⟩
  obtain ⟨_, ⟨h0, _⟩ | ⟨g9, cap9, cur, e9, q1, q2, q3, q4, q5, q6⟩⟩ := hown
  · cases h0
  cases e9
  by_cases hroom : n + 1 ≤ cap
  · have hr := run_append_room (P := P) w t ty e i E.und hi g0 n cap cur q2 ad 1 c us (by rw [h4]; omega) hu h1 hroom (by rw [h4]; have h9 := Nat.mul_le_mul_right K hroom; rw [Nat.add_mul] at h9; omega)
    rw [hr] at hrun
    injection hrun with e1 e2
    subst e1
    rcases OwnsK.shape r1 with ⟨h0, _⟩ | ⟨g', cap', e0, m1, m2, m3, m4, m5, _⟩
    · cases h0
    cases e0
    rw [m5 j (by have : (n + 1) * K = n * K + K := Nat.succ_mul n K; omega), k5 j hj, List.getElem?_append_left (by omega)]
  · have hr := run_append_grow (P := P) w t ty e i z E.und hi hz ⟨g0, 0, none⟩ n cap xs (by rw [h4]; omega) (fun j u hj => by rw [Addr.add_lit, Nat.zero_add, k5 j (by have := (List.getElem?_eq_some_iff.1 hj).1; omega)]; exact hj) ad 1 c us (by rw [h4]; omega) hu (by omega) (by simp only [maxLen] at hm; omega) (growslice_fits (by omega) (by rw [h5]; exact hl))
    rw [hr] at hrun
    injection hrun with e1 e2
    subst e2
    exact World.cell?_of_block (w := w) (a := ⟨g0, j, none⟩) (Below.heap_alloc _ _ _ k2)
theorem OwnsK.freeK {K base : Nat} {e : TypeId} {w : World} {g n cap : Nat} {xs : List Value} (h : OwnsK K base e w (.slice (some ⟨g, 0, none⟩) n cap) n xs) (j : Nat) : w.frozen? ⟨g, j, none⟩ = false := by
  rcases h.shape with ⟨h0, _⟩ | ⟨g', cap', e0, h2, h3, h4, h5, h6, h7⟩
  · cases h0
  · cases e0; exact h7 j
theorem step_run_append {P : Program} {w w' : World} {o : Oper} {a : Act} {K : Act → World → Prop} {Q : Exit → Act → World → Prop} {s x : Operand} {t : TypeId} {v u v' : Value} (ho : o.op = .call { callee := .builtin .append, args := #[s, x], argTypes := #[t, t] }) (hs : a.eval s = v) (hx : a.eval x = u)
    (hrun : (Builtin.append_ #[t, t] o.type #[v, u]).run P w = .ok v' w') (h : K (a.put o.dst v') w') : Oper.wp P o a w K Q := by
  unfold Oper.wp
  simp [execOp, ho, resolve, invoke, builtin, hs, hx, hrun, Result.andThen]
  exact h
theorem OwnsK.setOther {K base : Nat} {e : TypeId} {w : World} {v : Value} {n : Nat} {xs : List Value} (h : OwnsK K base e w v n xs) (p i : Nat) (u : Value) (hne : ∀ k, v.ownBlock = some k → p ≠ k) : OwnsK K base e (w.setCell ⟨p, i, none⟩ u) v n xs :=
  h.block fun k hk => (grownBy_set (grownBy_refl w (some p)) i u).block k (h.lt k hk).2 (by simp; exact fun e' => hne k hk e'.symm)
def ensB (e : EE) : Bool := decide (e.nodes.length ≤ 60) && (decide (e.leaves.length ≤ 60) && (decide (e.base.length ≤ 30) && decide (wrap64 ((e.agg.length : Int) + (e.post.length : Int)) ≤ 100)))
theorem ensB_out {e : EE} (h : ensB e = true) : e.nodes.length ≤ 60 ∧ e.leaves.length ≤ 60 ∧ e.base.length ≤ 30 := by
  unfold ensB at h
  simp only [Bool.and_eq_true, decide_eq_true_eq] at h
  exact ⟨h.1, h.2.1, h.2.2.1⟩
set_option maxRecDepth 100000 in
set_option maxHeartbeats 1000000 in
theorem ens_any (v : Value) (e : EE) (bo : Option Addr) (bc : Nat) (no : Option Addr) (nc : Nat) (lo : Option Addr) (lc : Nat) (w : World) (h : EnsIs w v e bo bc no nc lo lc) (r : Bool) (hr : ensB e = r) :
    Calls Tryz.prog 11 #[v] w fun e' w' => e' = .returned (.bool r) ∧ Below w.heap.size w w' := by
  obtain ⟨rfl, h1, h2, h4, h5, h3, h6, h7, h8, h9⟩ := h
  unfold ensB at hr
  obtain ⟨w0, hw0⟩ : ∃ w0, w0 = (w.alloc (.cells #[.int .i64 e.feats, .int .i64 e.tgts, .string ⟨e.agg.toArray⟩, .string ⟨e.post.toArray⟩, .slice bo e.base.length bc, .slice no e.nodes.length nc, .slice lo e.leaves.length lc] 33)) := ⟨_, rfl⟩
  have hbf : Below w.heap.size w w0 := by rw [hw0]; exact ((Below.refl _ w).alloc (Nat.le_refl _) _)
  obtain ⟨pe, hpe⟩ : ∃ p, p = w.heap.size := ⟨_, rfl⟩
  have hbe : BoxL w0 pe [.int .i64 e.feats, .int .i64 e.tgts, .string ⟨e.agg.toArray⟩, .string ⟨e.post.toArray⟩, .slice bo e.base.length bc, .slice no e.nodes.length nc, .slice lo e.leaves.length lc] := by rw [hw0, hpe]; exact BoxL.of7 (by go_simp) (by go_simp) (by go_simp) (by go_simp) (by go_simp) (by go_simp) (by go_simp) (by go_simp) (by go_simp) (by go_simp) (by go_simp) (by go_simp) (by go_simp) (by go_simp)
  have HP : Hid (w.heap.size ≤ pe) := Lib.hid (by omega)
  have HW := Lib.hid hw0; clear hw0
  go_enter Tryz.func11, Tryz.ntmps11
  go_upto_region 1 with fail
  rw [← HW.out, ← hpe]
  clear hpe HW
  have ee0 := hbe.cell 0 _ rfl
  have ee1 := hbe.cell 1 _ rfl
  have ee2 := hbe.cell 2 _ rfl
  have ee3 := hbe.cell 3 _ rfl
  have ee4 := hbe.cell 4 _ rfl
  have ee5 := hbe.cell 5 _ rfl
  have ee6 := hbe.cell 6 _ rfl
  by_cases q0 : e.nodes.length ≤ 60
  case neg =>
    have z : ¬ (e.nodes.length : Int) ≤ 60 := by omega
    have hr2 : r = false := by rw [← hr]; simp only [q0, decide_true, decide_false, Bool.true_and, Bool.false_and]
    subst hr2
    clear hr
    go_wp2_with fail
    go_ret
    exact ⟨rfl, hbf⟩
  have z0 : (e.nodes.length : Int) ≤ 60 := by omega
  by_cases q1 : e.leaves.length ≤ 60
  case neg =>
    have z : ¬ (e.leaves.length : Int) ≤ 60 := by omega
    have hr2 : r = false := by rw [← hr]; simp only [q0, q1, decide_true, decide_false, Bool.true_and, Bool.false_and]
    subst hr2
    clear hr
    go_wp2_with fail
    go_ret
    exact ⟨rfl, hbf⟩
  have z1 : (e.leaves.length : Int) ≤ 60 := by omega
  by_cases q2 : e.base.length ≤ 30
  case neg =>
    have z : ¬ (e.base.length : Int) ≤ 30 := by omega
    have hr2 : r = false := by rw [← hr]; simp only [q0, q1, q2, decide_true, decide_false, Bool.true_and, Bool.false_and]
    subst hr2
    clear hr
    go_wp2_with fail
    go_ret
    exact ⟨rfl, hbf⟩
  have z2 : (e.base.length : Int) ≤ 30 := by omega
  have hr2 : decide (wrap64 ((e.agg.length : Int) + (e.post.length : Int)) ≤ 100) = r := by rw [← hr]; simp only [q0, q1, q2, decide_true, Bool.true_and]
  clear hr
  subst hr2
  go_wp2_with fail
  go_ret
  exact ⟨rfl, hbf⟩
end Go.Proofs.YtieffhkfefimeaaGreatDoor
