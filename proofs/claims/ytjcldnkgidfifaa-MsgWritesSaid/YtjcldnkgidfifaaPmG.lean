/-
  pmsg: walks (7): Ints.
-/
import Derived.Test.YtjcldnkgidfifaaPmF
import Derived.Test.YtjcldnkgidfifaaBookI
namespace Go.Proofs.Ytjcldnkgidfifaa
open Go.RowKit Go.Shelf
set_option linter.unusedVariables false
set_option linter.unusedSimpArgs false
attribute [local go_sem] Oper.semAt_some

/-- 64 bits as an int. -/
def i64 (v : Nat) : Int := IntKind.i64.wrap (v : Int)
/-- Bytes read as numbers, one behind the other. -/
def getInts (b : List UInt8) : Option (List Int) :=
  if h0 : b = [] then some [] else
  match getV 0 0 b with
  | none => none
  | some (v, k) => if h : k = 0 then none else (getInts (b.drop k)).map (i64 v :: ·)
termination_by b.length
decreasing_by
  have : 0 < b.length := List.length_pos_iff.2 h0
  rw [List.length_drop]; omega
theorem getInts_nil : getInts [] = some [] := by rw [getInts, dif_pos rfl]
theorem getInts_cons {b : List UInt8} {r : List Int} (hb : b ≠ []) (h : getInts b = some r) : ∃ v k r', getV 0 0 b = some (v, k) ∧ 1 ≤ k ∧ k ≤ b.length ∧ v < 18446744073709551616 ∧ getInts (b.drop k) = some r' ∧ r = i64 v :: r' := by
  rw [getInts, dif_neg hb] at h
  cases hg : getV 0 0 b with
  | none => rw [hg] at h; cases h
  | some vk =>
    obtain ⟨v, k⟩ := vk
    rw [hg] at h
    have hl := getV_lim b 0 0 v k (by decide) hg
    simp only [] at h
    rw [dif_neg (by omega)] at h
    cases hr : getInts (b.drop k) with
    | none => rw [hr] at h; cases h
    | some r' =>
      rw [hr] at h
      exact ⟨v, k, r', rfl, by omega, by omega, hl.1, hr, by simpa using h.symm⟩
def intsOf (x : Fld × Int) : List Int := if x.1.kind = 0 then [i64 x.1.val] else if x.1.kind = 2 then (getInts x.1.data).getD [] else []
def intsE (l : List (Fld × Int)) : List Int := l.flatMap intsOf
theorem intsE_snoc (l : List (Fld × Int)) (x : Fld × Int) : intsE (l ++ [x]) = intsE l ++ intsOf x := by simp [intsE]
theorem intsE_prefix {a b : List (Fld × Int)} (h : a <+: b) : (intsE a).length ≤ (intsE b).length := by
  obtain ⟨c, rfl⟩ := h
  unfold intsE; rw [List.flatMap_append, List.length_append]; omega
theorem step_appendO {P : Program} {t e : TypeId} {z : Value} {bytes : Nat} (E : Elem P t e z bytes) {w : World} {o : Oper} {a : Act} {K : Act → World → Prop} {Q : Exit → Act → World → Prop} {s x : Operand} {u : Value} {base : Nat} {v : Value} {xs : List Value} {ad : Addr}
    (hown : Owns base e w v xs) (ho : o.op = .call { callee := .builtin .append, args := #[s, x], argTypes := #[t, t] }) (hs : a.eval s = v) (hx : a.eval x = .slice (some ad) 1 1) (hu : w.cell? ad = some u) (h1 : u.oneCell' = true) (hl : (xs.length + 1) * bytes ≤ 140737488355328) (hm : xs.length + 1 ≤ maxLen) (hbase : base ≤ w.heap.size)
    (h : ∀ v' w', Owns base e w' v' (xs ++ [u]) → w.grownBy w' v.ownBlock → (∀ g, v'.ownBlock = some g → v.ownBlock = some g ∨ w.heap.size ≤ g) → K (a.put o.dst v') w') : Oper.wp P o a w K Q := by
  obtain ⟨v', w', hrun, r1, r2, r3, r4⟩ := run_append1 E o.type hown ad 1 u hu h1 hl hm hbase
  unfold Oper.wp
  simp [execOp, ho, resolve, invoke, builtin, hs, hx, hrun, Result.andThen]
  exact h _ _ r1 r2 r3
theorem Owns.slice {base : Nat} {e : TypeId} {w : World} {v : Value} {xs : List Value} (h : Owns base e w v xs) : ∃ ao cap, v = .slice ao xs.length cap ∧ xs.length ≤ cap ∧ cap ≤ maxLen ∧ (ao = none → cap = 0) := OwnsK.slice (K := 1) h
theorem Owns.blockO {base : Nat} {e : TypeId} {w w' : World} {v : Value} {xs : List Value} (h : Owns base e w v xs) (hb : ∀ g, v.ownBlock = some g → w'.heap[g]? = w.heap[g]?) : Owns base e w' v xs := OwnsK.block (K := 1) h hb
theorem Owns.ltO {base : Nat} {e : TypeId} {w : World} {v : Value} {xs : List Value} (h : Owns base e w v xs) : ∀ g, v.ownBlock = some g → base ≤ g ∧ g < w.heap.size := OwnsK.lt (K := 1) h
theorem Owns.extO {B base : Nat} {e : TypeId} {w w' : World} {v : Value} {xs : List Value} (h : Owns base e w v xs) (hx : Ext B w w') : Owns base e w' v xs := OwnsK.ext (K := 1) h hx
/-- What an append into a box leaves. -/
structure Grow (base po : Nat) (e : TypeId) (W W' : World) (v v' : Value) (xs : List Value) : Prop where
  own : Owns base e W' v' xs
  box : BoxL W' po [v']
  foot : Foot (fun k => k = po ∨ v.ownBlock = some k) (fun k => k = po ∨ v'.ownBlock = some k) W W'
  top : ∀ k, (k = po ∨ v'.ownBlock = some k) → k < W'.heap.size
theorem Grow.trans {base po : Nat} {e : TypeId} {A B C : World} {v v' v'' : Value} {xs ys : List Value} (h : Grow base po e A B v v' xs) (h' : Grow base po e B C v' v'' ys) : Grow base po e A C v v'' ys := ⟨h'.own, h'.box, h.foot.trans h'.foot, h'.top⟩
theorem Grow.refl {base po : Nat} {e : TypeId} {A : World} {v : Value} {xs : List Value} (hO : Owns base e A v xs) (hb : BoxL A po [v]) : Grow base po e A A v v xs := ⟨hO, hb, Foot.refl _ _, fun k hk => by
  rcases hk with rfl | hk
  · exact hb.lt
  · exact (hO.ltO k hk).2⟩
theorem Grow.then {base po : Nat} {e : TypeId} {A B C : World} {v v' : Value} {xs : List Value} (h : Grow base po e A B v v' xs) (hb : Below B.heap.size B C) : Grow base po e A C v v' xs := ⟨OwnsK.kept (K := 1) h.own hb, h.box.kept hb, h.foot.trans (Foot.of_below hb), fun k hk => Nat.lt_of_lt_of_le (h.top k hk) hb.size⟩
theorem Grow.same {base po : Nat} {e : TypeId} {A B : World} {v v' : Value} {xs ys : List Value} (h : Grow base po e A B v v' ys) (hO : Owns base e A v xs) {k : Nat} (hk : k < A.heap.size) (h1 : k ≠ po) (h2 : k < base) : B.heap[k]? = A.heap[k]? := h.foot.same k hk (fun hs => by
  rcases hs with hs | hs
  · exact h1 hs
  · have := (hO.ltO k hs).1; omega)
theorem Grow.boxO {base po p : Nat} {e : TypeId} {A B : World} {v v' : Value} {xs ys cs : List Value} (h : Grow base po e A B v v' ys) (hO : Owns base e A v xs) (hb : BoxL A p cs) (h1 : p ≠ po) (h2 : p < base) : BoxL B p cs := hb.block (h.same hO hb.lt h1 h2)
theorem Grow.below {base po n : Nat} {e : TypeId} {A B w : World} {v v' : Value} {xs ys : List Value} (h : Grow base po e A B v v' ys) (hO : Owns base e A v xs) (hb : Below n w A) (h1 : n ≤ po) (h2 : n ≤ base) (h3 : n ≤ A.heap.size) : Below n w B := hb.trans ⟨h.foot.os, h.foot.tape, h.foot.output, h.foot.size, fun k hk => h.same hO (by omega) (by omega) (by omega)⟩
theorem Grow.mk' {base po : Nat} {e : TypeId} {W w2 : World} {v v' : Value} {xs : List Value} {B : Value} (hO : Owns base e w2 v' xs) (hg : W.grownBy w2 v.ownBlock) (hn : ∀ g, v'.ownBlock = some g → v.ownBlock = some g ∨ W.heap.size ≤ g) (hb : BoxL W po [B]) (hne : v.ownBlock ≠ some po) :
    Grow base po e W (w2.setCell ⟨po, 0, none⟩ v') v v' xs := by
  have hs := grownBy_set (grownBy_refl w2 (some po)) 0 v'
  have hb2 := hb.grown hg hne
  have hne' : v'.ownBlock ≠ some po := fun e => by
    rcases hn po e with h | h
    · exact hne h
    · have := hb.lt; omega
  refine ⟨hO.blockO (fun g hg' => hs.block g (hO.ltO g hg').2 (fun e => by cases e; exact hne' hg')), hb2.set 0 v' (by simp), grown_footP hg hb.lt hn v', fun k hk => ?_⟩
  rcases hk with rfl | hk
  · exact Nat.lt_of_lt_of_le hb2.lt hs.size
  · exact Nat.lt_of_lt_of_le (hO.ltO k hk).2 hs.size
end Go.Proofs.Ytjcldnkgidfifaa
