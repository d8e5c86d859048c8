/-
  nat: walks (2): Of, Zero, at, Clone.
-/
import Derived.Test.YtegneoaoodddoaaDoorNatA
namespace Go.Proofs.YtegneoaoodddoaaDoor
open Go.RowKit
set_option linter.unusedVariables false
set_option linter.unusedSimpArgs false

theorem Tryd.info73 : (Tryd.prog.info? 73).map (fun i => (i.zero, i.size, i.bytes)) = some (some (.int .u32 0), 1, 4) := by kernel_rfl
theorem E32 : Elem Tryd.prog 23 73 (.int .u32 0) 4 := elem_of Tryd.underlying23 Tryd.info73 rfl

theorem NatIs.open {w : World} {v : Value} {n : Nat} (h : NatIs w v n) : ∃ ao cap, v = .agg #[.slice ao (limbs n).length cap] ∧ (limbs n).length ≤ cap ∧ cap ≤ 9223372036854775807 ∧ (ao = none → cap = 0) ∧ Cells .u32 w ao (limbs n) := by
  obtain ⟨sv, rfl, ao, cap, rfl, h1, h2, h3, h4⟩ := h
  exact ⟨ao, cap, rfl, h1, h2, h3, h4⟩

theorem NatIs.zero (w : World) : NatIs w (.agg #[.slice none 0 0]) 0 :=
  ⟨_, rfl, none, 0, by rw [limbs_zero]; rfl, by rw [limbs_zero]; simp, Nat.zero_le _, fun _ => rfl, .inl limbs_zero⟩

set_option maxRecDepth 100000 in
theorem zero_any (v : Value) (n : Nat) (w : World) (h : NatIs w v n) :
    Calls Tryd.prog 12 #[v] w fun e w' => e = .returned (.bool (decide (n = 0))) ∧ Below w.heap.size w w' := by
  obtain ⟨ao, cap, rfl, h1, h2, h3, h4⟩ := h.open
  have e : ((((limbs n).length : Nat) : Int) == 0) = decide (n = 0) := by
    rw [Bool.eq_iff_iff]; simp [limbs_eq_nil]
  have HE := Lib.hid e; clear e
  clear h3 h4
  go_enter Tryd.func12, Tryd.ntmps12
  go_wp2
  go_ret
  exact ⟨congrArg (fun b => Ending.returned (.bool b)) HE.out, (Below.refl _ _).alloc (Nat.le_refl _) _⟩

set_option maxRecDepth 100000 in
theorem at_any (v : Value) (n : Nat) (i : Nat) (w : World) (h : NatIs w v n) (hi : i ≤ 9223372036854775807) :
    Calls Tryd.prog 58 #[v, .int .i64 i] w fun e w' => e = .returned (.int .u32 (((limbs n)[i]?.getD 0 : Nat) : Int)) ∧ Below w.heap.size w w' := by
  obtain ⟨ao, cap, rfl, h1, h2, h3, h4⟩ := h.open
  clear h3
  by_cases hlt : i < (limbs n).length
  · rcases h4 with h4 | ⟨b, off, rfl, hb, hc⟩
    · rw [h4] at hlt; simp at hlt
    have hi := hc i hlt
    have hi2 : (w.alloc (.cells #[.slice (some ⟨b, off, none⟩) (limbs n).length cap] 25)).cell? ⟨b, off + i, none⟩ = some (.int .u32 (((limbs n)[i]?.getD 0 : Nat) : Int)) := (World.cell?_alloc_past _ _ _ hb).trans hi
    clear hc hi
    generalize (limbs n)[i]?.getD 0 = x at *
    go_enter Tryd.func58, Tryd.ntmps58
    go_wp2
    go_ret
    exact ⟨rfl, (Below.refl _ _).alloc (Nat.le_refl _) _⟩
  · have e : (limbs n)[i]?.getD 0 = 0 := by rw [List.getElem?_eq_none (by omega)]; rfl
    rw [e]
    clear h4 e
    go_enter Tryd.func58, Tryd.ntmps58
    go_wp2
    go_ret
    exact ⟨rfl, (Below.refl _ _).alloc (Nat.le_refl _) _⟩

theorem field_nat (w : World) (x : Value) : (Instr.field 25 (.agg #[x]) 0).run Tryd.prog w = .ok x w := by kernel_rfl

theorem load_nat {w : World} {p : Addr} {v : Value} (h : w.cell? p = some v) : (loadVar 25 p).run Tryd.prog w = .ok (.agg #[v]) w := by
  simp [go_sem, h]

/-- The end of a function whose one result is a number. -/
theorem ret_nat {fn : Func} {s : Nat} {R : Ending → World → Prop} {a : Act} {w : World} {p : Addr} {v : Value} (hres : fn.results = #[.cell s 25]) (hp : a.tmps.getD s undef = .pointer (some p)) (hc : w.cell? p = some v) (hd : a.defers = []) (hR : R (.returned (.agg #[v])) w) : bodyPost Tryd.prog fn R .ret a w := by
  refine bodyPost_ret (v := .agg #[v]) ?_ hd hR
  have hp' : a.tmps[s]?.getD undef = .pointer (some p) := by simpa using hp
  simp only [results, hres]
  simp [Sem.run_bind, Sem.run_pure, Result.andThen, hp', asAddr, load_nat hc]

theorem ret_pair {r u u' : Value} (h : u = u') : Ending.returned (.tuple #[r, u]) = .returned (.tuple #[r, u']) := by rw [h]

/-- The end of a function whose results are a number and a plain value. -/
theorem ret_nat_tmp {fn : Func} {s t : Nat} {R : Ending → World → Prop} {a : Act} {w : World} {p : Addr} {v u : Value} (hres : fn.results = #[.cell s 25, .tmp t]) (hp : a.tmps.getD s undef = .pointer (some p)) (hu : a.tmps.getD t undef = u) (hc : w.cell? p = some v) (hd : a.defers = []) (hR : R (.returned (.tuple #[.agg #[v], u])) w) : bodyPost Tryd.prog fn R .ret a w := by
  refine bodyPost_ret (v := .tuple #[.agg #[v], u]) ?_ hd hR
  rw [results_cell_tmp hres, hp, hu]
  simp [asAddr, load_nat hc]

theorem val_of (v : Nat) (h : v < 18446744073709551616) : val [v % 4294967296, v / 4294967296] = v := by simp only [val]; omega

attribute [local go_sem] and_low
set_option maxRecDepth 100000 in
theorem of_any (v : Nat) (w : World) (h : v < 18446744073709551616) :
    Calls Tryd.prog 16 #[.int .u64 v] w fun e w' => ∃ r, e = .returned r ∧ NatIs w' r v ∧ Below w.heap.size w w' := by
  go_enter Tryd.func16, Tryd.ntmps16
  go_wp2_with fail
  have hcell : Cells .u32 ((w.alloc (.cells #[.slice none 0 0] 25)).alloc (.cells #[.int .u32 ((v : Int) % 4294967296), .int .u32 ((v : Int) / 4294967296)] 73)) (some ⟨w.heap.size + 1, 0, none⟩) [v % 4294967296, v / 4294967296] := by
    refine .inr ⟨w.heap.size + 1, 0, rfl, by simp, fun i hi => ?_⟩
    match i, hi with
    | 0, _ => go_simp
    | 1, _ => go_simp
  refine (trim_any (some ⟨w.heap.size + 1, 0, none⟩) 2 [v % 4294967296, v / 4294967296] _ hcell (by simp) (by decide) (by intro x hx; simp at hx; omega)).mono ?_
  rintro e w1 ⟨rfl, hb⟩
  obtain ⟨hc, hf⟩ := bcell hb
  have hbox : w1.cell? ⟨w.heap.size, 0, none⟩ = some (.slice none 0 0) := by rw [hc _ _ (by simp; omega)]; go_simp
  have hn := trim_nat (w' := w1) (cap := 2) (hcell.below hb) (by simp) (by intro x hx; simp at hx; omega) (by decide)
  generalize (limbs (val [v % 4294967296, v / 4294967296])).length = m at *
  go_wp2
  refine ret_nat rfl rfl (cell_set hbox) rfl ⟨_, rfl, ?_, ?_⟩
  · rw [val_of v h] at hn
    exact hn.set _ _ (fun n e => by rw [hbox] at e; cases e)
  · exact (((((Below.refl _ w).alloc (Nat.le_refl _) _).alloc (by simp) _).trans (hb.mono (by simp <;> omega))).setCell (Nat.le_refl _) _)

set_option maxRecDepth 100000 in
theorem clone_any (ao : Option Addr) (cap : Nat) (xs : List Nat) (w : World) (hc : Cells .u32 w ao xs) (hcap : xs.length ≤ cap) (hm : cap ≤ maxLen) (hn : ao = none → cap = 0) (hl : xs.length ≤ 1000000000) :
    Calls Tryd.prog 46 #[.slice ao xs.length cap] w fun e w' =>
      ∃ v, e = .returned v ∧ Owns w.heap.size 73 w' v (ints .u32 xs) ∧ Below w.heap.size w w' := by
  have hnil := fun (W : World) a n c => Lib.run_eql_slice_nil (P := Tryd.prog) W 23 73 a n c 0 0 Tryd.underlying23
  cases ao with
  | none =>
    obtain rfl := hn rfl
    have : xs = [] := List.eq_nil_of_length_eq_zero (by omega)
    subst this
    go_enter Tryd.func46, Tryd.ntmps46
    go_wp2
    go_ret
    exact ⟨_, rfl, Owns.nil _ _ _, Below.refl _ _⟩
  | some ad =>
    go_enter Tryd.func46, Tryd.ntmps46
    have ho : Owns w.heap.size 73 (w.alloc (.cells #[] 73)) (.slice (some ⟨w.heap.size, 0, none⟩) 0 0) [] :=
      ⟨rfl, .inr ⟨w.heap.size, 0, #[], rfl, Nat.le_refl _, heap_alloc_new w _, Nat.le_refl _, Nat.zero_le _, rfl, rfl⟩⟩
    have hc2 := (hc.alloc (.cells #[] 73)).at
    have hlen := ints_length .u32 xs
    go_wp2_with (at_builtin; refine appendN E32 ho rfl rfl rfl (ys := ints .u32 xs) (ad := ad) (c := cap) (by rw [hlen]; rfl) hc2 (ints_one _ _) (by simp [hlen]; omega) (by simp [hlen, maxLen]; omega) (by simp) ?_; intro v' w1 hown hbel hg)
    go_ret
    exact ⟨_, rfl, hown, (((Below.refl _ w).alloc (Nat.le_refl _) _).trans hbel)⟩
end Go.Proofs.YtegneoaoodddoaaDoor
