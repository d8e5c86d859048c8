/-
  Pb25: MathBd MathFr EnsP RunT (what is needed of them).
-/
import Derived.Test.YtieffhkfefimeaaGreatDoorPb08
import Derived.Test.YtieffhkfefimeaaGreatDoorPb12
import Derived.Test.YtieffhkfefimeaaGreatDoorPb17
import Derived.Test.YtieffhkfefimeaaGreatDoorPb18
import Derived.Test.YtieffhkfefimeaaGreatDoorPb20
import Derived.Test.YtieffhkfefimeaaGreatDoorPb22
import Derived.Test.YtieffhkfefimeaaGreatDoorPb23
import Derived.Test.YtieffhkfefimeaaGreatDoorPb24

namespace Go.Proofs.YtieffhkfefimeaaGreatDoor
set_option linter.unusedVariables false
@[elab_as_elim] theorem snocRec {α : Type} {motive : List α → Prop} (l : List α) (nil : motive []) (snoc : ∀ l x, motive l → motive (l ++ [x])) : motive l := by
  have h : ∀ l : List α, motive l.reverse := fun l => by
    induction l with
    | nil => exact nil
    | cons a l ih => rw [List.reverse_cons]; exact snoc _ _ ih
  rw [← List.reverse_reverse l]
  exact h _
theorem pkL_spec (way : Int) (hw : way ≠ 0) (l : List Rat) : (l = [] ∧ pkL way l = (0, false)) ∨ ((pkL way l).2 = true ∧ (pkL way l).1 ∈ l) := by
  induction l using snocRec with
  | nil => left; exact ⟨rfl, rfl⟩
  | snoc l x ih =>
    right
    rw [pkL_snoc]
    unfold pkStep
    rcases ih with ⟨rfl, h⟩ | ⟨h1, h2⟩
    · rw [h]; simp
    · split
      · simp
      · exact ⟨h1, List.mem_append_left _ h2⟩
theorem pkL_least (l : List Rat) : ∀ x ∈ l, (pkL (-1) l).1 ≤ x := by
  induction l using snocRec with
  | nil => intro x hx; cases hx
  | snoc l y ih =>
    intro x hx
    rw [pkL_snoc]
    unfold pkStep
    rcases pkL_spec (-1) (by decide) l with ⟨rfl, h⟩ | ⟨h1, h2⟩
    · rw [h]; simp at hx ⊢; rw [hx]; exact Rat.le_refl
    · rw [h1]
      by_cases hq : qcmp y (pkL (-1) l).1 = -1
      · rw [if_pos (by rw [hq]; rfl)]
        have hlt : y < (pkL (-1) l).1 := by
          unfold qcmp at hq
          split at hq
          · assumption
          · split at hq <;> cases hq
        rcases List.mem_append.1 hx with h | h
        · exact Rat.le_trans (Rat.le_of_lt hlt) (ih x h)
        · simp at h; rw [h]; exact Rat.le_refl
      · rw [if_neg (by simpa using hq)]
        have hge : (pkL (-1) l).1 ≤ y := by
          refine Rat.not_lt.1 fun h => hq ?_
          unfold qcmp; rw [if_pos h]
        rcases List.mem_append.1 hx with h | h
        · exact ih x h
        · simp at h; rw [h]; exact hge
theorem pkL_most (l : List Rat) : ∀ x ∈ l, x ≤ (pkL 1 l).1 := by
  induction l using snocRec with
  | nil => intro x hx; cases hx
  | snoc l y ih =>
    intro x hx
    rw [pkL_snoc]
    unfold pkStep
    rcases pkL_spec 1 (by decide) l with ⟨rfl, h⟩ | ⟨h1, h2⟩
    · rw [h]; simp at hx ⊢; rw [hx]; exact Rat.le_refl
    · rw [h1]
      by_cases hq : qcmp y (pkL 1 l).1 = 1
      · rw [if_pos (by rw [hq]; rfl)]
        have hlt : (pkL 1 l).1 < y := by
          unfold qcmp at hq
          split at hq
          · cases hq
          · split at hq
            · assumption
            · cases hq
        rcases List.mem_append.1 hx with h | h
        · exact Rat.le_trans (ih x h) (Rat.le_of_lt hlt)
        · simp at h; rw [h]; exact Rat.le_refl
      · rw [if_neg (by simpa using hq)]
        have hge : y ≤ (pkL 1 l).1 := by
          refine Rat.not_lt.1 fun h => hq ?_
          unfold qcmp
          rw [if_neg (fun h2 => Rat.not_lt.2 (Rat.le_of_lt h) h2), if_pos h]
        rcases List.mem_append.1 hx with h | h
        · exact ih x h
        · simp at h; rw [h]; exact hge
theorem qsumL_snoc' (l : List Rat) (x : Rat) : qsumL (l ++ [x]) = qsumL l + x := by unfold qsumL; rw [List.foldl_append]; rfl
theorem rat_add_le {a b c d : Rat} (h1 : a ≤ b) (h2 : c ≤ d) : a + c ≤ b + d := by
  have e1 : a + c ≤ b + c := by rw [Rat.add_comm a, Rat.add_comm b]; exact (Rat.add_le_add_left).2 h1
  exact Rat.le_trans e1 ((Rat.add_le_add_left).2 h2)
theorem qsumL_ge (m : Rat) (l : List Rat) (h : ∀ x ∈ l, m ≤ x) : ((l.length : Int) : Rat) * m ≤ qsumL l := by
  induction l using snocRec with
  | nil => show ((0 : Int) : Rat) * m ≤ 0; simp
  | snoc l y ih =>
    rw [qsumL_snoc', List.length_append]
    have h1 := ih fun x hx => h x (List.mem_append_left _ hx)
    have h2 := h y (by simp)
    have h3 : (((l.length + [y].length : Nat) : Int) : Rat) * m = ((l.length : Int) : Rat) * m + m := by
      rw [List.length_singleton, Int.natCast_add, Rat.intCast_add, Rat.add_mul]
      simp
    rw [h3]
    exact rat_add_le h1 h2
theorem qsumL_le (m : Rat) (l : List Rat) (h : ∀ x ∈ l, x ≤ m) : qsumL l ≤ ((l.length : Int) : Rat) * m := by
  induction l using snocRec with
  | nil => show 0 ≤ ((0 : Int) : Rat) * m; simp
  | snoc l y ih =>
    rw [qsumL_snoc', List.length_append]
    have h1 := ih fun x hx => h x (List.mem_append_left _ hx)
    have h2 := h y (by simp)
    have h3 : (((l.length + [y].length : Nat) : Int) : Rat) * m = ((l.length : Int) : Rat) * m + m := by
      rw [List.length_singleton, Int.natCast_add, Rat.intCast_add, Rat.add_mul]
      simp
    rw [h3]
    exact rat_add_le h1 h2
/-- Least and greatest. -/
theorem pk_le (l : List Rat) : (pkL (-1) l).1 ≤ (pkL 1 l).1 := by
  rcases pkL_spec 1 (by decide) l with ⟨rfl, h⟩ | ⟨_, h2⟩
  · exact Rat.le_refl
  · exact pkL_least l _ h2
theorem div_ge {s m : Rat} {n : Nat} (hn : 1 ≤ n) (h : ((n : Int) : Rat) * m ≤ s) : m ≤ s / ((n : Int) : Rat) := by
  have h0 : (0 : Rat) < ((n : Int) : Rat) := by exact_mod_cast (by omega : (0 : Int) < n)
  have h1 : ((n : Int) : Rat) * ((n : Int) : Rat)⁻¹ = 1 := Rat.mul_inv_cancel _ (fun h => by rw [h] at h0; exact absurd h0 (by decide))
  refine Rat.not_lt.1 fun hlt => ?_
  have h2 := Rat.mul_lt_mul_of_pos_left hlt h0
  rw [Rat.div_def, Rat.mul_comm s, ← Rat.mul_assoc, h1, Rat.one_mul] at h2
  exact absurd h (Rat.not_le.2 h2)
theorem div_le {s m : Rat} {n : Nat} (hn : 1 ≤ n) (h : s ≤ ((n : Int) : Rat) * m) : s / ((n : Int) : Rat) ≤ m := by
  have h0 : (0 : Rat) < ((n : Int) : Rat) := by exact_mod_cast (by omega : (0 : Int) < n)
  have h1 : ((n : Int) : Rat) * ((n : Int) : Rat)⁻¹ = 1 := Rat.mul_inv_cancel _ (fun h => by rw [h] at h0; exact absurd h0 (by decide))
  refine Rat.not_lt.1 fun hlt => ?_
  have h2 := Rat.mul_lt_mul_of_pos_left hlt h0
  rw [Rat.div_def, Rat.mul_comm s, ← Rat.mul_assoc, h1, Rat.one_mul] at h2
  exact absurd h (Rat.not_le.2 h2)
theorem giveL_all (ls : List EL) (lvs : List EN) (k : Int) (h : ∀ y ∈ lvs, weightsE ls y.tree y.node k ≠ []) : (giveL ls lvs k).length = lvs.length := by
  induction lvs with
  | nil => rfl
  | cons y l ih =>
    have h1 := h y (by simp)
    have h2 := ih fun z hz => h z (by simp [hz])
    unfold giveL at h2 ⊢
    rw [List.filterMap_cons]
    have : giveO ls k y = some (qsumL (numsOf (weightsE ls y.tree y.node k))) := by unfold giveO; rw [if_neg h1]
    rw [this]
    simp [h2]
def minE (e : EE) : EE := { e with base := [], tgts := 1, agg := [77, 73, 78] }
def avgE (e : EE) : EE := { e with base := [], tgts := 1, agg := [65, 86, 69, 82, 65, 71, 69] }
def maxE (e : EE) : EE := { e with base := [], tgts := 1, agg := [77, 65, 88] }
theorem bounds_a (e : EE) (row : List Nat) : qcmp (scoreQ (minE e) row 0) (scoreQ (maxE e) row 0) ≤ 0 := by
  refine qcmp_le ?_
  unfold scoreQ
  rw [if_pos (show (minE e).base = [] from rfl), if_pos (show (maxE e).base = [] from rfl)]
  exact pk_le _
theorem bounds_b (e : EE) (row : List Nat) (hc : checkE (minE e) = 0) (hn : 1 ≤ e.nodes.length) (ht : 1 ≤ (treesE e.nodes).length) (hall : ∀ y ∈ e.nodes, y.mode = 7 → weightsE e.leaves y.tree y.node 0 ≠ []) :
    qcmp (scoreQ (minE e) row 0) (scoreQ (avgE e) row 0) ≤ 0 ∧ qcmp (scoreQ (avgE e) row 0) (scoreQ (maxE e) row 0) ≤ 0 := by
  have hg : (giveL e.leaves ((treesE e.nodes).map (lfE e.nodes row)) 0).length = (treesE e.nodes).length := by
    rw [giveL_all, List.length_map]
    intro y hy
    obtain ⟨t, _, rfl⟩ := List.mem_map.1 hy
    have h1 := placeE_ok (e := minE e) hc row (at' := (rootE e.nodes t).getD 0) (rootE_lt (by omega))
    refine hall _ ?_ h1.2
    unfold lfE
    have h2 : placeE e.nodes row ((rootE e.nodes t).getD 0) < e.nodes.length := h1.1
    rw [getElem!_pos e.nodes _ h2]
    exact List.getElem_mem _
  unfold scoreQ
  rw [if_pos (show (minE e).base = [] from rfl), if_pos (show (avgE e).base = [] from rfl), if_pos (show (maxE e).base = [] from rfl)]
  unfold togQ
  obtain ⟨gs, hgs⟩ : ∃ gs, giveL e.leaves ((treesE e.nodes).map (lfE e.nodes row)) ((0 : Nat) : Int) = gs := ⟨_, rfl⟩
  have e1 : giveL (minE e).leaves ((treesE (minE e).nodes).map (lfE (minE e).nodes row)) ((0 : Nat) : Int) = gs := hgs
  have e2 : giveL (avgE e).leaves ((treesE (avgE e).nodes).map (lfE (avgE e).nodes row)) ((0 : Nat) : Int) = gs := hgs
  have e3 : giveL (maxE e).leaves ((treesE (maxE e).nodes).map (lfE (maxE e).nodes row)) ((0 : Nat) : Int) = gs := hgs
  have e4 : (treesE (avgE e).nodes).length = gs.length := by rw [← hgs]; exact hg.symm
  have e5 : 1 ≤ gs.length := by rw [← e4]; exact ht
  rw [e1, e2, e3, e4]
  have d1 : ∀ m, togE (minE e).agg gs m = (pkL (-1) gs).1 := fun m => rfl
  have d2 : togE (avgE e).agg gs gs.length = qsumL gs / ((gs.length : Int) : Rat) := rfl
  have d3 : ∀ m, togE (maxE e).agg gs m = (pkL 1 gs).1 := fun m => rfl
  rw [d1, d2, d3]
  exact ⟨qcmp_le (div_ge e5 (qsumL_ge _ _ (pkL_least gs))), qcmp_le (div_le e5 (qsumL_le _ _ (pkL_most gs)))⟩
end Go.Proofs.YtieffhkfefimeaaGreatDoor

namespace Go.Proofs.YtieffhkfefimeaaGreatDoor
set_option linter.unusedVariables false
set_option linter.unusedSimpArgs false
/-! Numbers that are their own; kids that are there. -/
structure NumOk (ns : List EN) : Prop where
  own : ∀ k, k < ns.length → findE ns ns[k]!.tree ns[k]!.node = some k
  tru : ∀ k, k < ns.length → ns[k]!.mode ≠ 7 → ∃ a, findE ns ns[k]!.tree ns[k]!.tru = some a
  fls : ∀ k, k < ns.length → ns[k]!.mode ≠ 7 → ∃ a, findE ns ns[k]!.tree ns[k]!.fls = some a
  two : ∀ k, k < ns.length → ns[k]!.mode ≠ 7 → ns[k]!.tru ≠ ns[k]!.fls
theorem kids_two {ns : List EN} {y : EN} {a b : Nat} (h : y.mode ≠ 7) (ha : findE ns y.tree y.tru = some a) (hb : findE ns y.tree y.fls = some b) : kidsE ns y = [a, b] := by
  unfold kidsE; rw [if_neg h, ha, hb]; rfl
theorem NumOk.kids {ns : List EN} (h : NumOk ns) {k : Nat} (hk : k < ns.length) (hm : ns[k]!.mode ≠ 7) :
    ∃ a b, findE ns ns[k]!.tree ns[k]!.tru = some a ∧ findE ns ns[k]!.tree ns[k]!.fls = some b ∧ kidsE ns ns[k]! = [a, b] ∧ a ≠ b ∧ a < ns.length ∧ b < ns.length ∧ ns[a]!.tree = ns[k]!.tree ∧ ns[a]!.node = ns[k]!.tru ∧ ns[b]!.tree = ns[k]!.tree ∧ ns[b]!.node = ns[k]!.fls := by
  obtain ⟨a, ha⟩ := h.tru k hk hm
  obtain ⟨b, hb⟩ := h.fls k hk hm
  have la := findE_lt ha
  have lb := findE_lt hb
  have ta := findE_at ha la
  have tb := findE_at hb lb
  rw [← getElem!_pos ns a la] at ta
  rw [← getElem!_pos ns b lb] at tb
  refine ⟨a, b, ha, hb, kids_two hm ha hb, ?_, la, lb, ta.1, ta.2, tb.1, tb.2⟩
  intro e
  rw [e] at ta
  exact h.two k hk hm (ta.2.symm.trans tb.2)
theorem tree_mem {ns : List EN} {k : Nat} (hk : k < ns.length) : ns[k]!.tree ∈ treesE ns := by
  unfold treesE
  rw [setT_mem]
  exact List.mem_map.2 ⟨ns[k]!, by rw [getElem!_pos ns k hk]; exact List.getElem_mem hk, rfl⟩
end Go.Proofs.YtieffhkfefimeaaGreatDoor

namespace Go.Proofs.YtieffhkfefimeaaGreatDoor
open Go.RowKit
set_option linter.unusedVariables false
set_option linter.unusedSimpArgs false
/-- A node in its row. -/
def NdAt (w : World) (b off p : Nat) (y : EN) : Prop := ∀ j c, (enC y)[j]? = some c → w.cell? ⟨b, off + p * 8 + j, none⟩ = some c
theorem NdAt.c8 {w : World} {b off p : Nat} {y : EN} (h : NdAt w b off p y) :
    w.cell? ⟨b, off + p * 8, none⟩ = some (.int .i64 y.tree) ∧ w.cell? ⟨b, off + p * 8 + 1, none⟩ = some (.int .i64 y.node) ∧ w.cell? ⟨b, off + p * 8 + 2, none⟩ = some (.int .i64 y.feat) ∧ w.cell? ⟨b, off + p * 8 + 3, none⟩ = some (.int .i64 y.mode) ∧ w.cell? ⟨b, off + p * 8 + 4, none⟩ = some (.int .u64 (y.val : Int)) ∧ w.cell? ⟨b, off + p * 8 + 5, none⟩ = some (.int .i64 y.tru) ∧ w.cell? ⟨b, off + p * 8 + 6, none⟩ = some (.int .i64 y.fls) ∧ w.cell? ⟨b, off + p * 8 + 7, none⟩ = some (.bool y.trk) :=
  ⟨h 0 _ rfl, h 1 _ rfl, h 2 _ rfl, h 3 _ rfl, h 4 _ rfl, h 5 _ rfl, h 6 _ rfl, h 7 _ rfl⟩
theorem NdAt.below {w W : World} {b off p : Nat} {y : EN} (h : NdAt w b off p y) (hb : Below w.heap.size w W) : NdAt W b off p y := fun j c hj => by
  have h1 := h j c hj
  exact (hb.cell (p := ⟨b, off + p * 8 + j, none⟩) (World.block_lt_of_cell? w ⟨b, off + p * 8 + j, none⟩ h1)).trans h1
theorem NdAt.drew {w : World} {b off p : Nat} {y : EN} (h : NdAt w b off p y) : NdAt w.drew b off p y := h.below (Below.refl _ _).drew
theorem NdAt.of {w : World} {b off : Nat} {ns : List EN} {i : Nat} {y : EN} (h : RowC 8 enC w (some ⟨b, off, none⟩) ns) (hi : i < ns.length) (hy : ns[i] = y) : NdAt w b off i y := by
  have h10 := h.get hi
  rw [hy] at h10
  exact h10.2
end Go.Proofs.YtieffhkfefimeaaGreatDoor

namespace Go.Proofs.YtieffhkfefimeaaGreatDoor
open Go.RowKit
set_option linter.unusedVariables false
set_option linter.unusedSimpArgs false
attribute [local go_sem] field_nat
theorem trim_r (v : Value) (n : Nat) (w : World) (h : RIs w v n) : Calls Tryz.prog 125 #[v] w fun e w' => e = .returned v ∧ Below w.heap.size w w' :=
  (rtrim_same v n w h).mono fun e w' h => ⟨h.1, h.2 ▸ Below.refl _ _⟩
theorem RIs.len {w : World} {o : Option Addr} {l c n : Nat} (h : RIs w (.slice o l c) n) : l = (rlimbs n).length := by
  obtain ⟨ao, cap, h1, _⟩ := h.open
  injection h1
theorem rlimbs_mono {a b k : Nat} (hab : a ≤ b) (h : (rlimbs b).length ≤ k) : (rlimbs a).length ≤ k := Nat.le_trans (rlimbs_length_mono hab) h
set_option maxRecDepth 100000 in
set_option maxHeartbeats 1000000 in
/-- Make. -/
theorem rmake_any (neg : Bool) (vn vd : Value) (n d : Nat) (w : World) (hn : RIs w vn n) (hd : RIs w vd d) (hln : (rlimbs n).length ≤ 1000000) (hld : (rlimbs d).length ≤ 1000000) (hd0 : 0 < d) :
    Calls Tryz.prog 48 #[.bool neg, vn, vd] w (RQPost w (qOf neg n d)) := by
  obtain ⟨nO, nL, nC, rfl⟩ := hn.form
  obtain ⟨dO, dL, dC, rfl⟩ := hd.form
  obtain ⟨w0, hw0⟩ : ∃ w0, w0 = (w.alloc (.cells #[.bool false, .slice none 0 0, .slice none 0 0] 44)) := ⟨_, rfl⟩
  have hbf : Below w.heap.size w w0 := by rw [hw0]; exact ((Below.refl _ w).alloc (Nat.le_refl _) _)
  obtain ⟨pr, hpr⟩ : ∃ p, p = w.heap.size := ⟨_, rfl⟩
  have hbr : Box3 w0 pr (Value.bool false) (Value.slice none 0 0) (Value.slice none 0 0) := by rw [hw0, hpr]; exact ⟨by go_simp, by go_simp, by go_simp, by go_simp, by go_simp, by go_simp⟩
  have HP : Hid (w.heap.size ≤ pr) := Lib.hid (by omega)
  replace hn := hn.below hbf
  replace hd := hd.below hbf
  have HW := Lib.hid hw0; clear hw0
  go_enter Tryz.func48, Tryz.ntmps48
  go_upto_region 1 with fail
  rw [← HW.out, ← hpr]
  clear hpr HW
  have HD := Lib.hid hd0; clear hd0
  go_wp2_with fail
  refine (trim_r _ n _ hn).mono ?_
  rintro e w1 ⟨rfl, hb⟩
  replace hbr := hbr.kept hb
  replace hn := hn.below hb
  replace hd := hd.below hb
  replace hbf := hbf.trans (hb.mono hbf.size)
  clear hb
  go_wp2_with fail
  refine (trim_r _ d _ hd).mono ?_
  rintro e w2 ⟨rfl, hb⟩
  replace hbr := hbr.kept hb
  replace hn := hn.below hb
  replace hd := hd.below hb
  replace hbf := hbf.trans (hb.mono hbf.size)
  clear hb
  go_wp2_with fail
  refine (rgcd_any _ _ n d _ hn hd hln hld).mono ?_
  rintro e w3 ⟨r9, rfl, hg, hb⟩
  replace hbr := hbr.kept hb
  replace hn := hn.below hb
  replace hd := hd.below hb
  replace hbf := hbf.trans (hb.mono hbf.size)
  clear hb
  obtain ⟨gO, gL, gC, rfl⟩ := hg.form
  have HG : Hid (0 < Nat.gcd n d) := Lib.hid (Nat.gcd_pos_of_pos_right _ HD.out)
  have hlg : (rlimbs (Nat.gcd n d)).length ≤ 1000000 := rlimbs_mono (Nat.gcd_le_right _ HD.out) hld
  go_wp2_with fail
  refine (rdivmod_any _ _ n (Nat.gcd n d) _ hn hg hln hlg HG.out).mono ?_
  rintro e w4 ⟨r9, s9, rfl, hx, hs, hb⟩
  replace hbr := hbr.kept hb
  replace hn := hn.below hb
  replace hd := hd.below hb
  replace hg := hg.below hb
  replace hbf := hbf.trans (hb.mono hbf.size)
  clear hb
  obtain ⟨xO, xL, xC, rfl⟩ := hx.form
  obtain ⟨sO, sL, sC, rfl⟩ := hs.form
  clear hs
  go_wp2_with fail
  refine (rdivmod_any _ _ d (Nat.gcd n d) _ hd hg hld hlg HG.out).mono ?_
  rintro e w5 ⟨r9, s9, rfl, hy, hs, hb⟩
  replace hbr := hbr.kept hb
  replace hn := hn.below hb
  replace hd := hd.below hb
  replace hg := hg.below hb
  replace hx := hx.below hb
  replace hbf := hbf.trans (hb.mono hbf.size)
  clear hb
  obtain ⟨yO, yL, yC, rfl⟩ := hy.form
  obtain ⟨tO, tL, tC, rfl⟩ := hs.form
  clear hs
  have hxl := hx.len
  have hx0 : decide ((0 : Int) < (xL : Int)) = decide (0 < n) := by
    rw [hxl]
    by_cases h0 : n = 0
    · subst h0; simp [rlimbs_zero]
    · have h1 : 0 < n / Nat.gcd n d := Nat.div_pos (Nat.gcd_le_left _ (by omega)) HG.out
      have h2 : rlimbs (n / Nat.gcd n d) ≠ [] := fun h => by have := rlimbs_eq_nil.1 h; omega
      have h3 : 0 < (rlimbs (n / Nat.gcd n d)).length := List.length_pos_iff.2 h2
      rw [decide_eq_true (by omega), decide_eq_true (by omega)]
  have HX := Lib.hid hx0; clear hx0 hxl
  cases neg
  case false =>
    have er0 := hbr.c0
    have fr0 := hbr.f0
    have er1 := hbr.c1
    have fr1 := hbr.f1
    have er2 := hbr.c2
    have fr2 := hbr.f2
    go_wp2_with fail
    exact end_r rfl rfl rfl hbr (show w.heap.size ≤ pr by have := HP.out; omega) (RQIs.made HD.out (by first | rfl | (rw [← HX.out]; simp)) hx hy) hbf
  case true =>
    have er0 := hbr.c0
    have fr0 := hbr.f0
    have er1 := hbr.c1
    have fr1 := hbr.f1
    have er2 := hbr.c2
    have fr2 := hbr.f2
    go_wp2_with fail
    exact end_r rfl rfl rfl hbr (show w.heap.size ≤ pr by have := HP.out; omega) (RQIs.made HD.out (by first | rfl | (rw [← HX.out]; simp)) hx hy) hbf
theorem qb_pf2 {a : Rat} (hs : Hid (false = decide (a < 0))) (h : ¬ a.den = 1) : ((⟨(str (dec a.num.natAbs)).toArray⟩ ++ ⟨#[47]⟩) ++ ⟨(str (dec a.den)).toArray⟩ : ByteArray) = ⟨(qtext a).toArray⟩ := by
  rw [← qb_pf hs h]; apply ByteArray.ext; simp
theorem qb_nf2 {a : Rat} (hs : Hid (true = decide (a < 0))) (h : ¬ a.den = 1) : (((⟨#[45]⟩ ++ ⟨(str (dec a.num.natAbs)).toArray⟩) ++ ⟨#[47]⟩) ++ ⟨(str (dec a.den)).toArray⟩ : ByteArray) = ⟨(qtext a).toArray⟩ := by
  rw [← qb_nf hs h]; apply ByteArray.ext; simp
set_option maxRecDepth 100000 in
set_option maxHeartbeats 1000000 in
/-- RatText. -/
theorem rqtext_any (va : Value) (a : Rat) (w : World) (ha : RQIs w va a) (hla : QB a 30000) :
    Calls Tryz.prog 16 #[va] w fun e w' => e = .returned (.string ⟨(qtext a).toArray⟩) ∧ Below w.heap.size w w' := by
  obtain ⟨aB, axO, axL, axC, ayO, ayL, ayC, rfl, hS, hax, hay⟩ := ha.form
  have HaS := Lib.hid hS; clear hS
  obtain ⟨w0, hw0⟩ : ∃ w0, w0 = (w.alloc (.cells #[.bool aB, .slice axO axL axC, .slice ayO ayL ayC] 44)) := ⟨_, rfl⟩
  have hbf : Below w.heap.size w w0 := by rw [hw0]; exact ((Below.refl _ w).alloc (Nat.le_refl _) _)
  obtain ⟨pa, hpa⟩ : ∃ p, p = w.heap.size := ⟨_, rfl⟩
  have hba : Box3 w0 pa (Value.bool aB) (Value.slice axO axL axC) (Value.slice ayO ayL ayC) := by rw [hw0, hpa]; exact ⟨by go_simp, by go_simp, by go_simp, by go_simp, by go_simp, by go_simp⟩
  have HP : Hid (w.heap.size ≤ pa) := Lib.hid (by omega)
  replace ha := ha.below hbf
  replace hax := hax.below hbf
  replace hay := hay.below hbf
  have HW := Lib.hid hw0; clear hw0
  go_enter Tryz.func16, Tryz.ntmps16
  go_upto_region 1 with fail
  rw [← HW.out, ← hpa]
  clear hpa HW
  have hla1 := hla.1
  have hla2 := hla.2
  have hr1 := rlimbs_of_limbs hla1
  have hr2 := rlimbs_of_limbs hla2
  have ea0 := hba.c0
  have ea1 := hba.c1
  have ea2 := hba.c2
  go_wp2_with fail
  refine (rtext_any _ a.num.natAbs _ hax (by omega)).mono ?_
  rintro e w1 ⟨rfl, hb⟩
  clear ea0 ea1 ea2
  replace hba := hba.kept hb
  replace ha := ha.below hb
  replace hax := hax.below hb
  replace hay := hay.below hb
  replace hbf := hbf.trans (hb.mono hbf.size)
  clear hb
  obtain ⟨T, hT⟩ : ∃ T, T = str (dec a.num.natAbs) := ⟨_, rfl⟩
  obtain ⟨D, hD⟩ : ∃ D, D = str (dec a.den) := ⟨_, rfl⟩
  rw [← hT]
  have hTl : T.length ≤ 300001 := by rw [hT]; exact dec_limbsK hla1 (by omega)
  have hDl : D.length ≤ 300001 := by rw [hD]; exact dec_limbsK hla2 (by omega)
  have HT := Lib.hid hT.symm; clear hT
  have HDD := Lib.hid hD.symm; clear hD
  have hcmp : (cmpI a.den 1 != 0) = !decide (a.den = 1) := by
    unfold cmpI; by_cases h1 : a.den < 1 <;> by_cases h2 : 1 < a.den <;> simp [h1, h2] <;> omega
  have HCM := Lib.hid hcmp; clear hcmp
  cases aB
  case false =>
    obtain ⟨w2, hwE⟩ : ∃ W, W = (w1.alloc (.cells #[.int .i64 1] 3)) := ⟨_, rfl⟩
    have hb : Below w1.heap.size w1 w2 := by rw [hwE]; exact ((Below.refl _ w1).alloc (Nat.le_refl _) _)
    obtain ⟨oP, hpo⟩ : ∃ p, p = w1.heap.size := ⟨_, rfl⟩
    have ho : RIs w2 (.slice (some ⟨oP, 0, none⟩) 1 1) 1 := by rw [hwE, hpo]; exact (one_is w1 (x := 1) (by omega) (by omega))
    have ea0 := hba.c0
    have ea1 := hba.c1
    have ea2 := hba.c2
    have HW := Lib.hid hwE; clear hwE
    go_wp2_with fail
    rw [← HW.out, ← hpo]
    clear hpo HW
    clear ea0 ea1 ea2
    replace hba := hba.kept hb
    replace ha := ha.below hb
    replace hax := hax.below hb
    replace hay := hay.below hb
    replace hbf := hbf.trans (hb.mono hbf.size)
    clear hb
    refine (rcmp_any _ _ a.den 1 _ hay ho).mono ?_
    rintro e w3 ⟨rfl, hb⟩
    replace hba := hba.kept hb
    replace ha := ha.below hb
    replace hax := hax.below hb
    replace hay := hay.below hb
    replace ho := ho.below hb
    replace hbf := hbf.trans (hb.mono hbf.size)
    clear hb
    by_cases h1 : a.den = 1
    case pos =>
      have hc0 : cmpI a.den 1 = 0 := by rw [h1]; rfl
      rw [hc0]
      have hq := qb_pw HaS h1
      rw [HT.out] at hq
      have HQ := Lib.hid hq; clear hq h1 hc0
      go_wp2_with fail
      go_ret
      exact ⟨ret_one (by rw [← HQ.out]; rfl), hbf⟩
    obtain ⟨c9, hc9⟩ : ∃ c, c = cmpI a.den 1 := ⟨_, rfl⟩
    rw [← hc9]
    have hcn : (c9 != 0) = true := by rw [hc9, HCM.out, decide_eq_false h1]; rfl
    have hcn2 : (c9 == 0) = false := by simpa using hcn
    have hcn3 : ¬ c9 = 0 := by simpa using hcn
    clear hc9
    have hq := qb_pf2 HaS h1
    rw [HT.out, HDD.out] at hq
    have HQ := Lib.hid hq; clear hq
    clear h1
    have ea0 := hba.c0
    have ea1 := hba.c1
    have ea2 := hba.c2
    go_wp2_with fail
    refine (rtext_any _ a.den _ hay (by omega)).mono ?_
    rintro e w4 ⟨rfl, hb⟩
    clear ea0 ea1 ea2
    replace hba := hba.kept hb
    replace ha := ha.below hb
    replace hax := hax.below hb
    replace hay := hay.below hb
    replace ho := ho.below hb
    replace hbf := hbf.trans (hb.mono hbf.size)
    clear hb
    rw [HDD.out]
    go_wp2_with fail
    go_ret
    exact ⟨ret_one (by rw [← HQ.out]; rfl), hbf⟩
  case true =>
    obtain ⟨w2, hwE⟩ : ∃ W, W = (w1.alloc (.cells #[.int .i64 1] 3)) := ⟨_, rfl⟩
    have hb : Below w1.heap.size w1 w2 := by rw [hwE]; exact ((Below.refl _ w1).alloc (Nat.le_refl _) _)
    obtain ⟨oP, hpo⟩ : ∃ p, p = w1.heap.size := ⟨_, rfl⟩
    have ho : RIs w2 (.slice (some ⟨oP, 0, none⟩) 1 1) 1 := by rw [hwE, hpo]; exact (one_is w1 (x := 1) (by omega) (by omega))
    have ea0 := hba.c0
    have ea1 := hba.c1
    have ea2 := hba.c2
    have HW := Lib.hid hwE; clear hwE
    go_wp2_with fail
    rw [← HW.out, ← hpo]
    clear hpo HW
    clear ea0 ea1 ea2
    replace hba := hba.kept hb
    replace ha := ha.below hb
    replace hax := hax.below hb
    replace hay := hay.below hb
    replace hbf := hbf.trans (hb.mono hbf.size)
    clear hb
    refine (rcmp_any _ _ a.den 1 _ hay ho).mono ?_
    rintro e w3 ⟨rfl, hb⟩
    replace hba := hba.kept hb
    replace ha := ha.below hb
    replace hax := hax.below hb
    replace hay := hay.below hb
    replace ho := ho.below hb
    replace hbf := hbf.trans (hb.mono hbf.size)
    clear hb
    by_cases h1 : a.den = 1
    case pos =>
      have hc0 : cmpI a.den 1 = 0 := by rw [h1]; rfl
      rw [hc0]
      have hq := qb_nw HaS h1
      rw [HT.out] at hq
      have HQ := Lib.hid hq; clear hq h1 hc0
      go_wp2_with fail
      go_ret
      exact ⟨ret_one (by rw [← HQ.out]; rfl), hbf⟩
    obtain ⟨c9, hc9⟩ : ∃ c, c = cmpI a.den 1 := ⟨_, rfl⟩
    rw [← hc9]
    have hcn : (c9 != 0) = true := by rw [hc9, HCM.out, decide_eq_false h1]; rfl
    have hcn2 : (c9 == 0) = false := by simpa using hcn
    have hcn3 : ¬ c9 = 0 := by simpa using hcn
    clear hc9
    have hq := qb_nf2 HaS h1
    rw [HT.out, HDD.out] at hq
    have HQ := Lib.hid hq; clear hq
    clear h1
    have ea0 := hba.c0
    have ea1 := hba.c1
    have ea2 := hba.c2
    go_wp2_with fail
    refine (rtext_any _ a.den _ hay (by omega)).mono ?_
    rintro e w4 ⟨rfl, hb⟩
    clear ea0 ea1 ea2
    replace hba := hba.kept hb
    replace ha := ha.below hb
    replace hax := hax.below hb
    replace hay := hay.below hb
    replace ho := ho.below hb
    replace hbf := hbf.trans (hb.mono hbf.size)
    clear hb
    rw [HDD.out]
    go_wp2_with fail
    go_ret
    exact ⟨ret_one (by rw [← HQ.out]; rfl), hbf⟩
theorem cmpI_cases (a b : Nat) : cmpI a b = -1 ∨ cmpI a b = 0 ∨ cmpI a b = 1 := by
  unfold cmpI; split <;> (try split) <;> simp
theorem cmpI_neg (a b : Nat) : cmpI b a = -cmpI a b := by
  unfold cmpI; by_cases h1 : a < b <;> by_cases h2 : b < a <;> simp [h1, h2] <;> omega
set_option maxRecDepth 100000 in
set_option maxHeartbeats 1000000 in
/-- RatCmp. -/
theorem rqcmp_any (va vc : Value) (a c : Rat) (i j : Nat) (w : World) (ha : RQIs w va a) (hc : RQIs w vc c) (hla : QB a i) (hlc : QB c j) (hij : i + j ≤ 90000) :
    Calls Tryz.prog 20 #[va, vc] w fun e w' => e = .returned (.int .i64 (qcmp a c)) ∧ Below w.heap.size w w' := by
  obtain ⟨aB, axO, axL, axC, ayO, ayL, ayC, rfl, hS, hax, hay⟩ := ha.form
  have HaS := Lib.hid hS; clear hS
  obtain ⟨cB, cxO, cxL, cxC, cyO, cyL, cyC, rfl, hS, hcx, hcy⟩ := hc.form
  have HcS := Lib.hid hS; clear hS
  obtain ⟨w0, hw0⟩ : ∃ w0, w0 = ((w.alloc (.cells #[.bool aB, .slice axO axL axC, .slice ayO ayL ayC] 44)).alloc (.cells #[.bool cB, .slice cxO cxL cxC, .slice cyO cyL cyC] 44)) := ⟨_, rfl⟩
  have hbf : Below w.heap.size w w0 := by rw [hw0]; exact (((Below.refl _ w).alloc (Nat.le_refl _) _).alloc (by simp <;> omega) _)
  obtain ⟨pa, hpa⟩ : ∃ p, p = w.heap.size := ⟨_, rfl⟩
  have hba : Box3 w0 pa (Value.bool aB) (Value.slice axO axL axC) (Value.slice ayO ayL ayC) := by rw [hw0, hpa]; exact ⟨by go_simp, by go_simp, by go_simp, by go_simp, by go_simp, by go_simp⟩
  obtain ⟨pc, hpc⟩ : ∃ p, p = w.heap.size + 1 := ⟨_, rfl⟩
  have hbc : Box3 w0 pc (Value.bool cB) (Value.slice cxO cxL cxC) (Value.slice cyO cyL cyC) := by rw [hw0, hpc]; exact ⟨by go_simp, by go_simp, by go_simp, by go_simp, by go_simp, by go_simp⟩
  have HP : Hid (w.heap.size ≤ pa ∧ pa < pc) := Lib.hid (by omega)
  replace ha := ha.below hbf
  replace hc := hc.below hbf
  replace hax := hax.below hbf
  replace hay := hay.below hbf
  replace hcx := hcx.below hbf
  replace hcy := hcy.below hbf
  have HW := Lib.hid hw0; clear hw0
  go_enter Tryz.func20, Tryz.ntmps20
  go_upto_region 1 with fail
  rw [← HW.out, ← hpc, ← hpa]
  clear hpa hpc HW
  have hra1 := rlimbs_of_limbs hla.1
  have hra2 := rlimbs_of_limbs hla.2
  have hrc1 := rlimbs_of_limbs hlc.1
  have hrc2 := rlimbs_of_limbs hlc.2
  cases aB
  case false =>
    cases cB
    case false =>
      have ea0 := hba.c0
      have ea1 := hba.c1
      have ea2 := hba.c2
      have ec0 := hbc.c0
      have ec1 := hbc.c1
      have ec2 := hbc.c2
      go_upto_region 5 with fail
      clear ea0 ea1 ea2 ec0 ec1 ec2
      refine wp_region_seq (S := fun w' => Box3 w' pa (Value.bool false) (Value.slice axO axL axC) (Value.slice ayO ayL ayC) ∧ Box3 w' pc (Value.bool false) (Value.slice cxO cxL cxC) (Value.slice cyO cyL cyC)) [(true, 0), (true, 1), (true, 2), (true, 3), (true, 5), (true, 6), (true, 7), (true, 8), (false, 4), (false, 9), (false, 10), (true, 11)] (by kernel_rfl) (by kernel_rfl) (by kernel_rfl) (by kernel_rfl) (by kernel_rfl) (fun d _ _ _ _ h => by cases d <;> exact h) ⟨hba.drew, hbc.drew⟩ (fun _ => ?_)
      simp only [pickOps, List.append_eq, List.cons_append, List.nil_append, List.getElem?_toArray, List.getElem?_cons_succ, List.getElem?_cons_zero]
      have hb : Below w0.heap.size w0 w0.drew := (Below.refl _ _).drew
      generalize w0.drew = w1 at hb ⊢
      replace hba := hba.kept hb
      replace hbc := hbc.kept hb
      replace ha := ha.below hb
      replace hc := hc.below hb
      replace hax := hax.below hb
      replace hay := hay.below hb
      replace hcx := hcx.below hb
      replace hcy := hcy.below hb
      replace hbf := hbf.trans (hb.mono hbf.size)
      clear hb
      repeat (first | (refine seq_take (v := ?_) (by rfl) ?_ ?_; rotate_left; (· intro w hSw; (try dsimp only at hSw); obtain ⟨⟨ea0, ea1, ea2, _, _, _⟩, ⟨ec0, ec1, ec2, _, _, _⟩⟩ := hSw; go_simp; all_goals with_reducible rfl); (try simp only [Act.put, List.setIfInBounds_toArray, List.set_cons_zero, List.set_cons_succ])) | (refine seq_leave (by rfl) ?_; (try simp only [Act.put, List.setIfInBounds_toArray, List.set_cons_zero, List.set_cons_succ])))
      refine seq_step (by rfl) (fun K hK => ?_)
      go_simp
      go_at_call 49
      (with_reducible refine (rmul_any _ _ a.num.natAbs c.den _ hax hcy (by omega) (by omega)).mono ?_)
      rintro e w2 ⟨r9, rfl, hx, hb⟩
      obtain ⟨xO, xL, xC, rfl⟩ := hx.form
      replace hba := hba.kept hb
      replace hbc := hbc.kept hb
      replace ha := ha.below hb
      replace hc := hc.below hb
      replace hax := hax.below hb
      replace hay := hay.below hb
      replace hcx := hcx.below hb
      replace hcy := hcy.below hb
      replace hbf := hbf.trans (hb.mono hbf.size)
      clear hb
      first | refine hK.out _ _ ⟨hba, hbc⟩ (fun _ => ?_) | (go_wp2_with fail; refine hK.out _ _ ⟨hba, hbc⟩ (fun _ => ?_))
      clear hK K
      (try simp only [Act.put, List.setIfInBounds_toArray, List.set_cons_zero, List.set_cons_succ])
      refine seq_step (by rfl) (fun K hK => ?_)
      go_simp
      go_at_call 49
      (with_reducible refine (rmul_any _ _ c.num.natAbs a.den _ hcx hay (by omega) (by omega)).mono ?_)
      rintro e w3 ⟨r9, rfl, hy, hb⟩
      obtain ⟨yO, yL, yC, rfl⟩ := hy.form
      replace hba := hba.kept hb
      replace hbc := hbc.kept hb
      replace ha := ha.below hb
      replace hc := hc.below hb
      replace hax := hax.below hb
      replace hay := hay.below hb
      replace hcx := hcx.below hb
      replace hcy := hcy.below hb
      replace hx := hx.below hb
      replace hbf := hbf.trans (hb.mono hbf.size)
      clear hb
      first | refine hK.out _ _ ⟨hba, hbc⟩ (fun _ => ?_) | (go_wp2_with fail; refine hK.out _ _ ⟨hba, hbc⟩ (fun _ => ?_))
      clear hK K
      (try simp only [Act.put, List.setIfInBounds_toArray, List.set_cons_zero, List.set_cons_succ])
      refine seq_step (by rfl) (fun K hK => ?_)
      go_simp
      go_at_call 53
      (with_reducible refine (rcmp_any _ _ _ _ _ hx hy).mono ?_)
      rintro e w4 ⟨rfl, hb⟩
      replace hba := hba.kept hb
      replace hbc := hbc.kept hb
      replace ha := ha.below hb
      replace hc := hc.below hb
      replace hax := hax.below hb
      replace hay := hay.below hb
      replace hcx := hcx.below hb
      replace hcy := hcy.below hb
      replace hx := hx.below hb
      replace hy := hy.below hb
      replace hbf := hbf.trans (hb.mono hbf.size)
      clear hb
      first | refine hK.out _ _ ⟨hba, hbc⟩ (fun _ => ?_) | (go_wp2_with fail; refine hK.out _ _ ⟨hba, hbc⟩ (fun _ => ?_))
      clear hK K
      (try simp only [Act.put, List.setIfInBounds_toArray, List.set_cons_zero, List.set_cons_succ])
      repeat (first | (refine seq_take (v := ?_) (by rfl) ?_ ?_; rotate_left; (· intro w hSw; (try dsimp only at hSw); obtain ⟨⟨ea0, ea1, ea2, _, _, _⟩, ⟨ec0, ec1, ec2, _, _, _⟩⟩ := hSw; go_simp; all_goals with_reducible rfl); (try simp only [Act.put, List.setIfInBounds_toArray, List.set_cons_zero, List.set_cons_succ])) | (refine seq_leave (by rfl) ?_; (try simp only [Act.put, List.setIfInBounds_toArray, List.set_cons_zero, List.set_cons_succ])))
      refine seq_end ?_
      have hq : qcmp a c = cmpI (a.num.natAbs * c.den) (c.num.natAbs * a.den) := (qcmp_pp HaS.out.symm HcS.out.symm).symm
      have hcs := cmpI_cases (a.num.natAbs * c.den) (c.num.natAbs * a.den)
      generalize cmpI (a.num.natAbs * c.den) (c.num.natAbs * a.den) = c9 at *
      have HQ := Lib.hid hq; clear hq
      have HC9 := Lib.hid hcs; clear hcs
      rcases HC9.out with rfl | rfl | rfl
      all_goals
        have ea0 := hba.c0
        have ea1 := hba.c1
        have ea2 := hba.c2
        go_wp2_with fail
        go_ret
        exact ⟨ret_one (by rw [HQ.out]; rfl), hbf⟩
    case true =>
      have ea0 := hba.c0
      have ea1 := hba.c1
      have ea2 := hba.c2
      have ec0 := hbc.c0
      have ec1 := hbc.c1
      have ec2 := hbc.c2
      go_wp2_with fail
      go_ret
      exact ⟨ret_one (by rw [qcmp_pn HaS.out.symm HcS.out.symm]; rfl), hbf⟩
  case true =>
    cases cB
    case false =>
      have ea0 := hba.c0
      have ea1 := hba.c1
      have ea2 := hba.c2
      have ec0 := hbc.c0
      have ec1 := hbc.c1
      have ec2 := hbc.c2
      go_wp2_with fail
      go_ret
      exact ⟨ret_one (by rw [qcmp_np HaS.out.symm HcS.out.symm]; rfl), hbf⟩
    case true =>
      have ea0 := hba.c0
      have ea1 := hba.c1
      have ea2 := hba.c2
      have ec0 := hbc.c0
      have ec1 := hbc.c1
      have ec2 := hbc.c2
      go_upto_region 5 with fail
      clear ea0 ea1 ea2 ec0 ec1 ec2
      refine wp_region_seq (S := fun w' => Box3 w' pa (Value.bool true) (Value.slice axO axL axC) (Value.slice ayO ayL ayC) ∧ Box3 w' pc (Value.bool true) (Value.slice cxO cxL cxC) (Value.slice cyO cyL cyC)) [(true, 0), (true, 1), (true, 2), (true, 3), (true, 5), (true, 6), (true, 7), (true, 8), (false, 4), (false, 9), (false, 10), (true, 11)] (by kernel_rfl) (by kernel_rfl) (by kernel_rfl) (by kernel_rfl) (by kernel_rfl) (fun d _ _ _ _ h => by cases d <;> exact h) ⟨hba.drew, hbc.drew⟩ (fun _ => ?_)
      simp only [pickOps, List.append_eq, List.cons_append, List.nil_append, List.getElem?_toArray, List.getElem?_cons_succ, List.getElem?_cons_zero]
      have hb : Below w0.heap.size w0 w0.drew := (Below.refl _ _).drew
      generalize w0.drew = w1 at hb ⊢
      replace hba := hba.kept hb
      replace hbc := hbc.kept hb
      replace ha := ha.below hb
      replace hc := hc.below hb
      replace hax := hax.below hb
      replace hay := hay.below hb
      replace hcx := hcx.below hb
      replace hcy := hcy.below hb
      replace hbf := hbf.trans (hb.mono hbf.size)
      clear hb
      repeat (first | (refine seq_take (v := ?_) (by rfl) ?_ ?_; rotate_left; (· intro w hSw; (try dsimp only at hSw); obtain ⟨⟨ea0, ea1, ea2, _, _, _⟩, ⟨ec0, ec1, ec2, _, _, _⟩⟩ := hSw; go_simp; all_goals with_reducible rfl); (try simp only [Act.put, List.setIfInBounds_toArray, List.set_cons_zero, List.set_cons_succ])) | (refine seq_leave (by rfl) ?_; (try simp only [Act.put, List.setIfInBounds_toArray, List.set_cons_zero, List.set_cons_succ])))
      refine seq_step (by rfl) (fun K hK => ?_)
      go_simp
      go_at_call 49
      (with_reducible refine (rmul_any _ _ a.num.natAbs c.den _ hax hcy (by omega) (by omega)).mono ?_)
      rintro e w2 ⟨r9, rfl, hx, hb⟩
      obtain ⟨xO, xL, xC, rfl⟩ := hx.form
      replace hba := hba.kept hb
      replace hbc := hbc.kept hb
      replace ha := ha.below hb
      replace hc := hc.below hb
      replace hax := hax.below hb
      replace hay := hay.below hb
      replace hcx := hcx.below hb
      replace hcy := hcy.below hb
      replace hbf := hbf.trans (hb.mono hbf.size)
      clear hb
      first | refine hK.out _ _ ⟨hba, hbc⟩ (fun _ => ?_) | (go_wp2_with fail; refine hK.out _ _ ⟨hba, hbc⟩ (fun _ => ?_))
      clear hK K
      (try simp only [Act.put, List.setIfInBounds_toArray, List.set_cons_zero, List.set_cons_succ])
      refine seq_step (by rfl) (fun K hK => ?_)
      go_simp
      go_at_call 49
      (with_reducible refine (rmul_any _ _ c.num.natAbs a.den _ hcx hay (by omega) (by omega)).mono ?_)
      rintro e w3 ⟨r9, rfl, hy, hb⟩
      obtain ⟨yO, yL, yC, rfl⟩ := hy.form
      replace hba := hba.kept hb
      replace hbc := hbc.kept hb
      replace ha := ha.below hb
      replace hc := hc.below hb
      replace hax := hax.below hb
      replace hay := hay.below hb
      replace hcx := hcx.below hb
      replace hcy := hcy.below hb
      replace hx := hx.below hb
      replace hbf := hbf.trans (hb.mono hbf.size)
      clear hb
      first | refine hK.out _ _ ⟨hba, hbc⟩ (fun _ => ?_) | (go_wp2_with fail; refine hK.out _ _ ⟨hba, hbc⟩ (fun _ => ?_))
      clear hK K
      (try simp only [Act.put, List.setIfInBounds_toArray, List.set_cons_zero, List.set_cons_succ])
      refine seq_step (by rfl) (fun K hK => ?_)
      go_simp
      go_at_call 53
      (with_reducible refine (rcmp_any _ _ _ _ _ hx hy).mono ?_)
      rintro e w4 ⟨rfl, hb⟩
      replace hba := hba.kept hb
      replace hbc := hbc.kept hb
      replace ha := ha.below hb
      replace hc := hc.below hb
      replace hax := hax.below hb
      replace hay := hay.below hb
      replace hcx := hcx.below hb
      replace hcy := hcy.below hb
      replace hx := hx.below hb
      replace hy := hy.below hb
      replace hbf := hbf.trans (hb.mono hbf.size)
      clear hb
      first | refine hK.out _ _ ⟨hba, hbc⟩ (fun _ => ?_) | (go_wp2_with fail; refine hK.out _ _ ⟨hba, hbc⟩ (fun _ => ?_))
      clear hK K
      (try simp only [Act.put, List.setIfInBounds_toArray, List.set_cons_zero, List.set_cons_succ])
      repeat (first | (refine seq_take (v := ?_) (by rfl) ?_ ?_; rotate_left; (· intro w hSw; (try dsimp only at hSw); obtain ⟨⟨ea0, ea1, ea2, _, _, _⟩, ⟨ec0, ec1, ec2, _, _, _⟩⟩ := hSw; go_simp; all_goals with_reducible rfl); (try simp only [Act.put, List.setIfInBounds_toArray, List.set_cons_zero, List.set_cons_succ])) | (refine seq_leave (by rfl) ?_; (try simp only [Act.put, List.setIfInBounds_toArray, List.set_cons_zero, List.set_cons_succ])))
      refine seq_end ?_
      have hq : qcmp a c = -cmpI (a.num.natAbs * c.den) (c.num.natAbs * a.den) := by rw [← qcmp_nn HaS.out.symm HcS.out.symm, cmpI_neg]
      have hcs := cmpI_cases (a.num.natAbs * c.den) (c.num.natAbs * a.den)
      generalize cmpI (a.num.natAbs * c.den) (c.num.natAbs * a.den) = c9 at *
      have HQ := Lib.hid hq; clear hq
      have HC9 := Lib.hid hcs; clear hcs
      rcases HC9.out with rfl | rfl | rfl
      all_goals
        have ea0 := hba.c0
        have ea1 := hba.c1
        have ea2 := hba.c2
        go_wp2_with fail
        go_ret
        exact ⟨ret_one (by rw [HQ.out]; rfl), hbf⟩
end Go.Proofs.YtieffhkfefimeaaGreatDoor
namespace Go.Proofs.YtieffhkfefimeaaGreatDoor
open Go.RowKit
set_option linter.unusedVariables false
set_option linter.unusedSimpArgs false
attribute [local go_sem] field_nat
theorem QB.small {neg : Bool} {n d k : Nat} (hn : n < 4294967296) (hd : d < 4294967296) (h0 : 0 < d) (hk : 1 ≤ k) : QB (qOf neg n d) k := QB.of _ (limbs_bound hn hk) (limbs_bound hd hk) h0
theorem QB.int {v : Int} {k : Nat} (h : v.natAbs < 18446744073709551616) (hk : 2 ≤ k) : QB (v : Rat) k := by
  have hl : (limbs v.natAbs).length ≤ k := Nat.le_trans (limbs_length_le (k := 2) (by omega)) hk
  rcases (show v < 0 ∨ 0 ≤ v by omega) with h0 | h0
  · rw [← of_neg v h0]; exact QB.of _ hl (limbs_bound (by decide) (by omega)) (by decide)
  · rw [← of_pos v h0]; exact QB.of _ hl (limbs_bound (by decide) (by omega)) (by decide)
end Go.Proofs.YtieffhkfefimeaaGreatDoor
namespace Go.Proofs.YtieffhkfefimeaaGreatDoor
open Go.RowKit
set_option linter.unusedVariables false
set_option linter.unusedSimpArgs false
attribute [local go_sem] field_nat
end Go.Proofs.YtieffhkfefimeaaGreatDoor
namespace Go.Proofs.YtieffhkfefimeaaGreatDoor
open Go.RowKit
set_option linter.unusedVariables false
set_option linter.unusedSimpArgs false
attribute [local go_sem] field_nat
end Go.Proofs.YtieffhkfefimeaaGreatDoor
namespace Go.Proofs.YtieffhkfefimeaaGreatDoor
open Go.RowKit
set_option linter.unusedVariables false
set_option linter.unusedSimpArgs false
attribute [local go_sem] field_nat
end Go.Proofs.YtieffhkfefimeaaGreatDoor
namespace Go.Proofs.YtieffhkfefimeaaGreatDoor
open Go.RowKit
set_option linter.unusedVariables false
set_option linter.unusedSimpArgs false
attribute [local go_sem] field_nat
end Go.Proofs.YtieffhkfefimeaaGreatDoor
namespace Go.Proofs.YtieffhkfefimeaaGreatDoor
open Go.RowKit
set_option linter.unusedVariables false
set_option linter.unusedSimpArgs false
end Go.Proofs.YtieffhkfefimeaaGreatDoor
