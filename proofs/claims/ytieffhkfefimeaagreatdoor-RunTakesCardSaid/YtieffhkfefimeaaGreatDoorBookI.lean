import Derived.Test.YtieffhkfefimeaaGreatDoorHeapN
import Derived.BigQuiet
import Derived.Deep.LoopGhost
import Derived.Deep.Cut
import Derived.BigRegion
import Derived.WalkKit
import Derived.ProofKit
import Derived.OpenShut
import Derived.Carry
import Derived.ChangeSlices
namespace Go.Proofs.YtieffhkfefimeaaGreatDoor
open Go.ChangeShapes Go.WideShapes Go.ChangeAt Go.RowKit
set_option linter.unusedVariables false
set_option linter.unusedSimpArgs false
/-- A list of ints in memory. -/
def IntsI (k : IntKind) (w : World) (v : Value) (ns : List Int) : Prop :=
  ∃ ao cap, v = .slice ao ns.length cap ∧ ns.length ≤ cap ∧ cap ≤ maxLen ∧ (ns = [] ∨ ∃ b off, ao = some ⟨b, off, none⟩ ∧ b < w.heap.size ∧ ∀ i, i < ns.length → w.cell? ⟨b, off + i, none⟩ = some (.int k (ns[i]?.getD 0)))
theorem IntsI.below {k : IntKind} {w w' : World} {v : Value} {ns : List Int} (h : IntsI k w v ns) (hb : Below w.heap.size w w') : IntsI k w' v ns := by
  obtain ⟨ao, cap, h1, h2, h3, h4⟩ := h
  refine ⟨ao, cap, h1, h2, h3, ?_⟩
  rcases h4 with h4 | ⟨b, off, h5, h6, h7⟩
  · exact .inl h4
  · exact .inr ⟨b, off, h5, Nat.lt_of_lt_of_le h6 hb.size, fun i hi => (hb.cell (p := ⟨b, off + i, none⟩) h6).trans (h7 i hi)⟩
/-- A list of ints that came in: a nil one has no room. -/
def IntsN (k : IntKind) (w : World) (v : Value) (ns : List Int) : Prop := IntsI k w v ns ∧ ∀ l c, v = .slice none l c → c = 0
theorem IntsN.below {k : IntKind} {w w' : World} {v : Value} {ns : List Int} (h : IntsN k w v ns) (hb : Below w.heap.size w w') : IntsN k w' v ns := ⟨h.1.below hb, h.2⟩
def ivals (k : IntKind) (ns : List Int) : List Value := ns.map fun n => .int k n
theorem ivals_length (k : IntKind) (ns : List Int) : (ivals k ns).length = ns.length := by simp [ivals]
theorem ivals_get {k : IntKind} {ns : List Int} {i : Nat} (hi : i < ns.length) : (ivals k ns)[i]? = some (.int k (ns[i]?.getD 0)) := by
  simp [ivals, List.getElem?_eq_getElem hi]
theorem ivals_one (k : IntKind) (ns : List Int) : ∀ u ∈ ivals k ns, u.oneCell' = true := by
  intro u hu
  obtain ⟨_, _, rfl⟩ := List.mem_map.1 hu
  rfl
/-- What is owned is a list. -/
theorem ints_of_owns {k : IntKind} {B : Nat} {e : TypeId} {W : World} {v : Value} {ns : List Int} (h : Owns B e W v (ivals k ns)) : IntsN k W v ns := by
  rcases h.shape with ⟨e1, h1⟩ | ⟨g, cap, e1, h2, h3, h4, h5, h6, h7⟩
  · have hn : ns = [] := by cases ns <;> simp [ivals] at h1 ⊢
    subst hn
    exact ⟨⟨none, 0, e1, Nat.le_refl _, Nat.zero_le _, .inl rfl⟩, fun l c e => by rw [e1] at e; cases e; rfl⟩
  · rw [ivals_length] at h4 h6 e1
    exact ⟨⟨some ⟨g, 0, none⟩, cap, e1, h4, h5, .inr ⟨g, 0, rfl, h3, fun i hi => by rw [Nat.zero_add, h6 i hi, ivals_get hi]⟩⟩, fun l c e => by rw [e1] at e; cases e⟩
/-- A list of the call's own with a mark behind it. -/
structure LentI (k : IntKind) (mark : Int) (B : Nat) (W : World) (v : Value) (ns : List Int) : Prop where
  row : ∃ g cap, v = .slice (some ⟨g, 0, none⟩) ns.length cap ∧ B ≤ g ∧ g < W.heap.size ∧ ns.length + 1 ≤ cap ∧ cap ≤ maxLen ∧ (∀ i, i < ns.length → W.cell? ⟨g, i, none⟩ = some (.int k (ns[i]?.getD 0))) ∧ W.cell? ⟨g, ns.length, none⟩ = some (.int k mark)
theorem LentI.below {k : IntKind} {mark : Int} {B : Nat} {w w' : World} {v : Value} {ns : List Int} (h : LentI k mark B w v ns) (hb : Below w.heap.size w w') : LentI k mark B w' v ns := by
  obtain ⟨g, cap, h1, h2, h3, h4, h5, h6, h7⟩ := h.row
  exact ⟨g, cap, h1, h2, Nat.lt_of_lt_of_le h3 hb.size, h4, h5, fun i hi => (hb.cell (p := ⟨g, i, none⟩) h3).trans (h6 i hi), (hb.cell (p := ⟨g, ns.length, none⟩) h3).trans h7⟩
theorem LentI.ints {k : IntKind} {mark : Int} {B : Nat} {w : World} {v : Value} {ns : List Int} (h : LentI k mark B w v ns) : IntsI k w v ns := by
  obtain ⟨g, cap, h1, h2, h3, h4, h5, h6, h7⟩ := h.row
  exact ⟨some ⟨g, 0, none⟩, cap, h1, by omega, h5, .inr ⟨g, 0, rfl, h3, fun i hi => by rw [Nat.zero_add]; exact h6 i hi⟩⟩
set_option maxRecDepth 100000 in
/-- What the reader says of an argument that is such a list. -/
theorem ints_of_trodK {k : IntKind} {t e : TypeId} {H : Type} {enc : TypeId × Value → H} {W : World} {base : Nat} {v : Value} {d : DataW H} {p : List MemPlace} (ht : Tryz.prog.underlying t = some (.slice e)) (he : Tryz.prog.underlying e = some (.int k)) (hc : Tryz.prog.cellsOf e = 1)
    (hok : Value.okWide Tryz.prog W .any base t v) (h : DataW.Trod enc Tryz.prog W 0 (fun _ => true) true t v d p) :
    ∃ ns, IntsN k W v ns ∧ ∀ n ∈ ns, (Lit.int k n).wf = true := by
  obtain ⟨a0, len, cap, rfl⟩ := okWide_slice ht hok
  obtain ⟨fuel, hf⟩ := h
  rcases ChangeShapes.open_ints ht he hc hf with ⟨hcs, hx⟩ | ⟨a, len', cap', ss, hcs, _, hl, hm, hz, hx, hcell, hws⟩
  · simp [Value.cells] at hcs
    obtain ⟨rfl, rfl, rfl⟩ := hcs
    exact ⟨[], ⟨⟨none, 0, rfl, Nat.le_refl _, Nat.zero_le _, .inl rfl⟩, fun l c e => by cases e; rfl⟩, by simp⟩
  · simp [Value.cells] at hcs
    obtain ⟨rfl, rfl, rfl⟩ := hcs
    simp only [if_true] at hz
    have hlen : (ss.take len).length = len := by simp; omega
    refine ⟨ss.take len, ⟨⟨some a, cap, by rw [hlen], by rw [hlen]; exact hl, hm, ?_⟩, fun l c e => by cases e⟩, ?_⟩
    · rcases Nat.eq_zero_or_pos len with h0 | h0
      · left; subst h0; simp
      · right
        obtain ⟨blk, off, spot⟩ := a
        have hc0 := hcell 0 (by omega)
        have hsp : spot = none := by
          unfold World.cell? at hc0
          split at hc0
          · cases spot with
            | none => rfl
            | some x => simp [Addr.add] at hc0
          · cases hc0
        subst hsp
        refine ⟨blk, off, rfl, World.block_lt_of_cell? W _ hc0, fun i hi => ?_⟩
        rw [hlen] at hi
        have hc := hcell i (by omega)
        rw [Addr.add_lit] at hc
        rw [hc, List.getElem?_take, if_pos hi]
        rfl
    · intro l hl'
      exact hws l (List.mem_of_mem_take hl')
theorem E_ints : Elem Tryz.prog 41 3 (.int .i64 0) 8 := elem_of Tryz.underlying41 (by kernel_rfl) rfl
set_option maxRecDepth 100000 in
theorem ints_of_trod {H : Type} {enc : TypeId × Value → H} {W : World} {base : Nat} {v : Value} {d : DataW H} {p : List MemPlace} (hok : Value.okWide Tryz.prog W .any base 41 v) (h : DataW.Trod enc Tryz.prog W 0 (fun _ => true) true 41 v d p) :
    ∃ ns, IntsN .i64 W v ns ∧ ∀ n ∈ ns, (Lit.int .i64 n).wf = true := ints_of_trodK Tryz.underlying41 Tryz.underlying3 (by kernel_rfl) hok h
set_option maxRecDepth 100000 in
set_option maxHeartbeats 1000000 in
/-- SameInts, of one list twice. -/
theorem same_ints (va vb : Value) (ns : List Int) (w : World) (ha : IntsI .i64 w va ns) (hb : IntsI .i64 w vb ns) :
    Calls Tryz.prog 128 #[va, vb] w fun e w' => e = .returned (.bool true) ∧ Below w.heap.size w w' := by
  obtain ⟨ao, ca, rfl, ha1, ha2, ha3⟩ := ha
  obtain ⟨bo, cb, rfl, hb1, hb2, hb3⟩ := hb
  unfold maxLen at ha2 hb2
  go_enter Tryz.func128, Tryz.ntmps128
  go_wp2_with fail
  go_loopg [5] ns.length (fun gg iv wr => ∃ i : Nat, i + gg = ns.length ∧ iv = .int .i64 (i : Int) ∧ Below w.heap.size w wr)
  case atStart => exact ⟨0, by omega, rfl, Below.refl _ _⟩
  case round =>
    obtain ⟨i, hi, rfl, hbr⟩ := hrel
    by_cases hil : i < ns.length
    · rcases ha3 with h | ⟨ga, oa, rfl, hga, hca⟩
      · rw [h] at hil; simp at hil
      rcases hb3 with h | ⟨gb, ob, rfl, hgb, hcb⟩
      · rw [h] at hil; simp at hil
      have ea := (hbr.cell (p := ⟨ga, oa + i, none⟩) hga).trans (hca i hil)
      have eb := (hbr.cell (p := ⟨gb, ob + i, none⟩) hgb).trans (hcb i hil)
      clear hca hcb
      generalize ns[i]?.getD 0 = s at *
      have hss : (s == s) = true := beq_self_eq_true _
      have q1 : (i : Int) < (ns.length : Int) := by omega
      have q2 : (0 : Int) ≤ (i : Int) := by omega
      go_wp2_with fail
      go_quiet (fail)
      go_wp2_with fail
      go_roundg (gk - 1)
      case measure => omega
      case rel => exact ⟨i + 1, by omega, by first | rfl | go_num, ⟨hbr.os, hbr.tape, hbr.output, hbr.size, hbr.block⟩⟩
    · have q1 : ¬ (i : Int) < (ns.length : Int) := by omega
      go_wp2_with fail
      go_ret
      exact ⟨rfl, hbr⟩
theorem E_pats : Elem Tryz.prog 29 22 (.int .u64 0) 8 := elem_of Tryz.underlying29 (by kernel_rfl) rfl
set_option maxRecDepth 100000 in
theorem pats_of_trod {H : Type} {enc : TypeId × Value → H} {W : World} {base : Nat} {v : Value} {d : DataW H} {p : List MemPlace} (hok : Value.okWide Tryz.prog W .any base 29 v) (h : DataW.Trod enc Tryz.prog W 0 (fun _ => true) true 29 v d p) :
    ∃ ns, IntsN .u64 W v ns ∧ ∀ n ∈ ns, (Lit.int .u64 n).wf = true := ints_of_trodK Tryz.underlying29 Tryz.underlying22 (by kernel_rfl) hok h
set_option maxRecDepth 100000 in
set_option maxHeartbeats 1000000 in
/-- SamePats, of one list twice. -/
theorem same_pats (va vb : Value) (ns : List Int) (w : World) (ha : IntsI .u64 w va ns) (hb : IntsI .u64 w vb ns) :
    Calls Tryz.prog 59 #[va, vb] w fun e w' => e = .returned (.bool true) ∧ Below w.heap.size w w' := by
  obtain ⟨ao, ca, rfl, ha1, ha2, ha3⟩ := ha
  obtain ⟨bo, cb, rfl, hb1, hb2, hb3⟩ := hb
  unfold maxLen at ha2 hb2
  go_enter Tryz.func59, Tryz.ntmps59
  go_wp2_with fail
  go_loopg [5] ns.length (fun gg iv wr => ∃ i : Nat, i + gg = ns.length ∧ iv = .int .i64 (i : Int) ∧ Below w.heap.size w wr)
  case atStart => exact ⟨0, by omega, rfl, Below.refl _ _⟩
  case round =>
    obtain ⟨i, hi, rfl, hbr⟩ := hrel
    by_cases hil : i < ns.length
    · rcases ha3 with h | ⟨ga, oa, rfl, hga, hca⟩
      · rw [h] at hil; simp at hil
      rcases hb3 with h | ⟨gb, ob, rfl, hgb, hcb⟩
      · rw [h] at hil; simp at hil
      have ea := (hbr.cell (p := ⟨ga, oa + i, none⟩) hga).trans (hca i hil)
      have eb := (hbr.cell (p := ⟨gb, ob + i, none⟩) hgb).trans (hcb i hil)
      clear hca hcb
      generalize ns[i]?.getD 0 = s at *
      have hss : (s == s) = true := beq_self_eq_true _
      have q1 : (i : Int) < (ns.length : Int) := by omega
      have q2 : (0 : Int) ≤ (i : Int) := by omega
      go_wp2_with fail
      go_quiet (fail)
      go_wp2_with fail
      go_roundg (gk - 1)
      case measure => omega
      case rel => exact ⟨i + 1, by omega, by first | rfl | go_num, ⟨hbr.os, hbr.tape, hbr.output, hbr.size, hbr.block⟩⟩
    · have q1 : ¬ (i : Int) < (ns.length : Int) := by omega
      go_wp2_with fail
      go_ret
      exact ⟨rfl, hbr⟩
set_option maxRecDepth 100000 in
set_option maxHeartbeats 1000000 in
/-- LentPats: a copy with a mark behind it. -/
theorem lent_pats (va : Value) (ns : List Int) (w : World) (ha : IntsN .u64 w va ns) (hl : ns.length ≤ 1000000) :
    Calls Tryz.prog 22 #[va] w fun e w' => ∃ v, e = .returned v ∧ LentI .u64 77 w.heap.size w' v ns ∧ Below w.heap.size w w' := by
  obtain ⟨⟨ao, ca, rfl, ha1, ha2, ha3⟩, hnil⟩ := ha
  have hlen := ivals_length .u64 ns
  have key : ∀ (v6 : Value) (w6 : World), Owns w.heap.size 22 w6 v6 (ivals .u64 ns ++ [.int .u64 77]) → Below w.heap.size w w6 → ∃ g cap, v6 = .slice (some ⟨g, 0, none⟩) (ns.length + 1) cap ∧ LentI .u64 77 w.heap.size w6 (.slice (some ⟨g, 0, none⟩) ns.length cap) ns ∧ ns.length + 1 ≤ cap ∧ cap ≤ maxLen := fun v6 w6 ho hb => by
    rcases ho.shape with ⟨_, h⟩ | ⟨g, cap, rfl, h2, h3, h4, h5, h6, h7⟩
    · simp at h
    · have hl2 : (ivals .u64 ns ++ [Value.int .u64 77]).length = ns.length + 1 := by simp [hlen]
      rw [hl2] at h4 h6 ⊢
      refine ⟨g, cap, rfl, ⟨g, cap, rfl, h2, h3, h4, h5, fun i hi => ?_, ?_⟩, h4, h5⟩
      · rw [h6 i (by omega), List.getElem?_append_left (by omega), ivals_get hi]
      · rw [h6 _ (by omega), ← hlen, List.getElem?_concat_length]
  go_enter Tryz.func22, Tryz.ntmps22
  cases ao with
  | none =>
    obtain rfl := hnil _ _ rfl
    have hls : ns = [] := List.eq_nil_of_length_eq_zero (by omega)
    subst hls
    obtain ⟨i9, hi9, _⟩ := E_pats.info
    go_wp2_with (first
      | (at_builtin; refine wpList_append_own_none rfl _ _ _ rfl w.heap.size 22 i9 1 E_pats.und hi9 _ 0 [] rfl (Owns.nil w.heap.size 22 w) rfl ?_)
      | (at_builtin; refine append1 E_pats (Owns.nil w.heap.size 22 w) rfl rfl rfl rfl rfl (by simp) (by simp [maxLen]) (Nat.le_refl _) ?_; intro v6 w6 ho6 hb6 hg6; obtain ⟨g, cap, rfl, hL, hc1, hc2⟩ := key v6 w6 ho6 hb6; unfold maxLen at hc2))
    go_ret
    exact ⟨_, rfl, hL, hb6⟩
  | some ad =>
    have hy : ∀ j u, (ivals .u64 ns)[j]? = some u → w.cell? (ad.add j) = some u := fun j u hj => by
      have hjl : j < ns.length := by have := (List.getElem?_eq_some_iff.1 hj).1; omega
      rcases ha3 with h | ⟨b, off, hab, hb, hc⟩
      · rw [h] at hjl; simp at hjl
      · cases hab
        rw [Addr.add_lit, hc j hjl, ← hj, ivals_get hjl]
    have hlc : (ivals .u64 ns).length + 1 ≤ 1000001 := by omega
    go_wp2_with (first
      | (at_builtin; refine appendN E_pats (Owns.nil w.heap.size 22 w) rfl rfl rfl (ys := ivals .u64 ns) (ad := ad) (c := ca) (by rw [hlen]; rfl) hy (ivals_one .u64 ns) (by simp; omega) (by simp [maxLen]; omega) (Nat.le_refl _) ?_; intro v5 w5 ho5 hb5 hg5; rw [List.nil_append] at ho5)
      | (at_builtin; refine append1 E_pats ho5 rfl rfl rfl rfl rfl (by omega) (by unfold maxLen; omega) hb5.size ?_; intro v6 w6 ho6 hb6 hg6; obtain ⟨g, cap, rfl, hL, hc1, hc2⟩ := key v6 w6 ho6 (hb5.trans hb6); unfold maxLen at hc2))
    go_ret
    exact ⟨_, rfl, hL, hb5.trans hb6⟩
set_option maxRecDepth 100000 in
set_option maxHeartbeats 1000000 in
/-- StaysPats, of a lent list and the one that it was. -/
theorem stays_pats (B : Nat) (va vb : Value) (ns : List Int) (w : World) (ha : LentI .u64 77 B w va ns) (hb : IntsI .u64 w vb ns) (hl : ns.length ≤ 1000000) :
    Calls Tryz.prog 24 #[va, vb] w fun e w' => e = .returned (.bool true) ∧ Below w.heap.size w w' := by
  have hs := ha.ints
  obtain ⟨g, cap, rfl, h2, h3, h4, h5, h6, h7⟩ := ha.row
  unfold maxLen at h5
  go_enter Tryz.func24, Tryz.ntmps24
  go_wp2_with (go_at_call 59; refine (same_pats _ _ ns _ hs hb).mono ?_; rintro e w1 ⟨rfl, hb1⟩; have e7 := (hb1.cell (p := ⟨g, ns.length, none⟩) h3).trans h7)
  go_ret
  exact ⟨rfl, hb1⟩
end Go.Proofs.YtieffhkfefimeaaGreatDoor
