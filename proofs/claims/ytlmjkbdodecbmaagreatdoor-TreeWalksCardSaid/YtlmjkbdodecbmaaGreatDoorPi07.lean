/-
  Pi07: BookC BookD (what is needed of them).
-/
import Derived.Test.YtlmjkbdodecbmaaGreatDoorPi06

namespace Go.Proofs.YtlmjkbdodecbmaaGreatDoor
open Go.RowKit Go.Shelf
set_option linter.unusedVariables false
set_option linter.unusedSimpArgs false
/-- A list of values of one cell, in memory. -/
def VView (w : World) (v : Value) (xs : List Value) : Prop := ∃ ao cap, v = .slice ao xs.length cap ∧ xs.length ≤ cap ∧ cap ≤ maxLen ∧ ∀ i x, xs[i]? = some x → ∃ b, ao = some ⟨b, 0, none⟩ ∧ b < w.heap.size ∧ w.cell? ⟨b, i, none⟩ = some x
theorem VView.below {w W : World} {v : Value} {xs : List Value} (h : VView w v xs) (hb : Below w.heap.size w W) : VView W v xs := by
  obtain ⟨ao, cap, h1, h2, h3, h4⟩ := h
  refine ⟨ao, cap, h1, h2, h3, fun i x hx => ?_⟩
  obtain ⟨b, e1, e2, e3⟩ := h4 i x hx
  exact ⟨b, e1, Nat.lt_of_lt_of_le e2 hb.size, (hb.cell (p := ⟨b, i, none⟩) e2).trans e3⟩
theorem VView.of {B : Nat} {e : TypeId} {w : World} {v : Value} {xs : List Value} (h : Owns B e w v xs) : VView w v xs := by
  rcases h.shape with ⟨rfl, rfl⟩ | ⟨g, cap, rfl, k1, k2, k3, k4, k5, _⟩
  · exact ⟨none, 0, rfl, Nat.le_refl _, Nat.zero_le _, fun i x hx => by simp at hx⟩
  · exact ⟨_, _, rfl, k3, k4, fun i x hx => ⟨g, rfl, k2, (k5 i (List.getElem?_eq_some_iff.1 hx).1).trans hx⟩⟩
theorem ivals_getZ {xs : List Int} {j : Nat} {u : Value} (h : (ivals .i64 xs)[j]? = some u) : j < xs.length ∧ u = .int .i64 (xs[j]?.getD 0) := by
  unfold ivals at h
  rw [List.getElem?_map] at h
  cases hq : xs[j]? with
  | none => rw [hq] at h; cases h
  | some x =>
    rw [hq] at h
    exact ⟨(List.getElem?_eq_some_iff.1 hq).1, (Option.some.inj h).symm⟩
theorem ivals_oneZ (xs : List Int) : ∀ u ∈ ivals .i64 xs, u.oneCell' = true := by
  intro u hu
  obtain ⟨_, _, rfl⟩ := List.mem_map.1 hu
  rfl
set_option maxRecDepth 100000 in
/-- copyInts. -/
theorem copyInts_any (v : Value) (ns : List Int) (w : World) (h : IntsN .i64 w v ns) (hl : ns.length ≤ 1000000) :
    Calls Tryz.prog 43 #[v] w fun e w' => ∃ r, e = .returned r ∧ Owns w.heap.size 3 w' r (ivals .i64 ns) ∧ Below w.heap.size w w' := by
  obtain ⟨⟨ao, cap, rfl, h1, h2, h3⟩, h4⟩ := h
  go_enter Tryz.func43, Tryz.ntmps43
  cases ao with
  | none =>
    have hc := h4 _ _ rfl
    subst hc
    have h0 : ns.length = 0 := by omega
    have hn : ns = [] := List.eq_nil_of_length_eq_zero h0
    subst hn
    go_wp2_with fail
    go_ret
    exact ⟨_, rfl, by simpa [ivals] using Owns.nil _ _ _, Below.refl _ _⟩
  | some ad =>
    have hcell : ∀ j u, (ivals .i64 ns)[j]? = some u → w.cell? (ad.add j) = some u := by
      intro j u hj
      obtain ⟨hj1, rfl⟩ := ivals_getZ hj
      rcases h3 with rfl | ⟨b, off, e1, e2, e3⟩
      · simp at hj1
      · obtain rfl := Option.some.inj e1
        rw [Addr.add_lit]
        exact e3 j hj1
    have hll := ivals_length .i64 ns
    go_wp2_with (at_builtin; refine appendN E_ints (ys := ivals .i64 ns) (Owns.nil w.heap.size 3 w) rfl rfl rfl (by rw [hll]; rfl) hcell (ivals_oneZ _) (by rw [hll]; simp; omega) (by rw [hll]; unfold maxLen; simp; omega) (Nat.le_refl _) ?_; intro v6 w6 ho6 hb6 hg6)
    go_ret
    exact ⟨_, rfl, by simpa using ho6, hb6⟩
set_option maxRecDepth 100000 in
set_option maxHeartbeats 2000000 in
/-- stillInts: each list is its copy. -/
theorem stillInts_any (p : Nat) (bi bw : Value) (vs us : List Value) (ls : List (List Int)) (w : World) (h2 : w.cell? ⟨p, 2, none⟩ = some bi) (h3 : w.cell? ⟨p, 3, none⟩ = some bw) (hv : VView w bi vs) (hu : VView w bw us) (hlv : vs.length = ls.length) (hlu : us.length = ls.length)
    (hr : ∀ (i : Nat) (v : Value) (ns : List Int), vs[i]? = some v → ls[i]? = some ns → IntsI .i64 w v ns) (hs : ∀ (i : Nat) (v : Value) (ns : List Int), us[i]? = some v → ls[i]? = some ns → IntsI .i64 w v ns) :
    Calls Tryz.prog 45 #[.pointer (some ⟨p, 0, none⟩)] w fun e w' => e = .returned (.bool true) ∧ Below w.heap.size w w' := by
  obtain ⟨ao, ca9, rfl, ha1, ha2, ha3⟩ := hv
  obtain ⟨bo, cb9, rfl, hb1, hb2, hb3⟩ := hu
  have HLV := Lib.hid hlv
  have HLU := Lib.hid hlu
  clear hlv hlu
  have hl2 := World.block_lt_of_cell? w ⟨p, 2, none⟩ h2
  unfold maxLen at ha2 hb2
  have hvm : vs.length ≤ 9223372036854775807 := by omega
  go_enter Tryz.func45, Tryz.ntmps45
  go_wp2_with fail
  go_loopg [3] vs.length (fun gg iv wr => ∃ i : Nat, i + gg = vs.length ∧ iv = .int .i64 (i : Int) ∧ Below w.heap.size w wr)
  case atStart => exact ⟨0, by omega, rfl, Below.refl _ _⟩
  case round =>
    obtain ⟨i, hi, rfl, hbr⟩ := hrel
    have e2 := (hbr.cell (p := ⟨p, 2, none⟩) hl2).trans h2
    by_cases hil : i < vs.length
    · have hz : (i : Int) < (vs.length : Int) := by omega
      have hz0 : (0 : Int) ≤ (i : Int) := by omega
      have hzu : (i : Int) < (us.length : Int) := by rw [HLU.out, ← HLV.out]; exact hz
      have e3 := (hbr.cell (p := ⟨p, 3, none⟩) hl2).trans h3
      have hiu : i < us.length := by rw [HLU.out, ← HLV.out]; exact hil
      have hils : i < ls.length := by rw [← HLV.out]; exact hil
      obtain ⟨va, hva⟩ : ∃ v, vs[i]? = some v := ⟨_, List.getElem?_eq_getElem hil⟩
      obtain ⟨vb, hvb⟩ : ∃ v, us[i]? = some v := ⟨_, List.getElem?_eq_getElem hiu⟩
      obtain ⟨ns, hns⟩ : ∃ v, ls[i]? = some v := ⟨_, List.getElem?_eq_getElem hils⟩
      have hia := (hr i va ns hva hns).below hbr
      have hib := (hs i vb ns hvb hns).below hbr
      obtain ⟨ga, rfl, la, ca⟩ := ha3 i va hva
      obtain ⟨gb, rfl, lb, cb⟩ := hb3 i vb hvb
      clear hva hvb hns hiu hils
      replace ca := (hbr.cell (p := ⟨ga, i, none⟩) la).trans ca
      replace cb := (hbr.cell (p := ⟨gb, i, none⟩) lb).trans cb
      replace la := Nat.lt_of_lt_of_le la hbr.size
      replace lb := Nat.lt_of_lt_of_le lb hbr.size
      have l2 := Nat.lt_of_lt_of_le hl2 hbr.size
      go_upto_region 4 with fail
      refine wp_region_seq (S := fun w' => w'.cell? ⟨p, 2, none⟩ = some (.slice (some ⟨ga, 0, none⟩) vs.length ca9) ∧ w'.cell? ⟨p, 3, none⟩ = some (.slice (some ⟨gb, 0, none⟩) us.length cb9) ∧ w'.cell? ⟨ga, i, none⟩ = some va ∧ w'.cell? ⟨gb, i, none⟩ = some vb) [(true, 0), (true, 1), (true, 2), (true, 3), (true, 4), (true, 5), (true, 6), (true, 7), (true, 8), (true, 9), (true, 10), (true, 11), (true, 12), (true, 13), (false, 14), (true, 15)] (by kernel_rfl) (by kernel_rfl) (by kernel_rfl) (by kernel_rfl) (by kernel_rfl) (fun d _ _ _ _ h => by cases d <;> exact h) ⟨(by first | exact e2 | simpa using e2), (by first | exact e3 | simpa using e3), (by first | exact ca | simpa using ca), (by first | exact cb | simpa using cb)⟩ (fun _ => ?_)
      simp only [pickOps, List.append_eq, List.cons_append, List.nil_append, List.getElem?_toArray, List.getElem?_cons_succ, List.getElem?_cons_zero]
      have hb : Below wr.heap.size wr wr.drew := (Below.refl _ _).drew
      generalize wr.drew = wd at hb ⊢
      replace e2 := (hb.cell (p := ⟨p, 2, none⟩) l2).trans e2
      replace e3 := (hb.cell (p := ⟨p, 3, none⟩) l2).trans e3
      replace ca := (hb.cell (p := ⟨ga, i, none⟩) la).trans ca
      replace cb := (hb.cell (p := ⟨gb, i, none⟩) lb).trans cb
      replace l2 := Nat.lt_of_lt_of_le l2 hb.size
      replace la := Nat.lt_of_lt_of_le la hb.size
      replace lb := Nat.lt_of_lt_of_le lb hb.size
      replace hia := hia.below hb
      replace hib := hib.below hb
      replace hbr := hbr.trans (hb.mono hbr.size)
      clear hb
      repeat (first | (refine seq_take (v := ?_) (by rfl) ?_ ?_; rotate_left; (· intro w hSw; (try dsimp only at hSw); obtain ⟨e2, e3, ca, cb⟩ := hSw; go_simp; all_goals with_reducible rfl); (try simp only [Act.put, List.setIfInBounds_toArray, List.set_cons_zero, List.set_cons_succ])) | (refine seq_leave (by rfl) ?_; (try simp only [Act.put, List.setIfInBounds_toArray, List.set_cons_zero, List.set_cons_succ])))
      refine seq_step (by rfl) (fun K hK => ?_)
      go_simp
      go_at_call 14
      (with_reducible refine (same_ints va vb ns _ hia hib).mono ?_)
      rintro e9 w3 ⟨rfl, hb⟩
      replace e2 := (hb.cell (p := ⟨p, 2, none⟩) l2).trans e2
      replace e3 := (hb.cell (p := ⟨p, 3, none⟩) l2).trans e3
      replace ca := (hb.cell (p := ⟨ga, i, none⟩) la).trans ca
      replace cb := (hb.cell (p := ⟨gb, i, none⟩) lb).trans cb
      replace l2 := Nat.lt_of_lt_of_le l2 hb.size
      replace la := Nat.lt_of_lt_of_le la hb.size
      replace lb := Nat.lt_of_lt_of_le lb hb.size
      replace hia := hia.below hb
      replace hib := hib.below hb
      replace hbr := hbr.trans (hb.mono hbr.size)
      clear hb
      first | refine hK.out _ _ ⟨(by first | exact e2 | simpa using e2), (by first | exact e3 | simpa using e3), (by first | exact ca | simpa using ca), (by first | exact cb | simpa using cb)⟩ (fun _ => ?_) | (go_wp2_with fail; refine hK.out _ _ ⟨(by first | exact e2 | simpa using e2), (by first | exact e3 | simpa using e3), (by first | exact ca | simpa using ca), (by first | exact cb | simpa using cb)⟩ (fun _ => ?_))
      clear hK K
      (try simp only [Act.put, List.setIfInBounds_toArray, List.set_cons_zero, List.set_cons_succ])
      repeat (first | (refine seq_take (v := ?_) (by rfl) ?_ ?_; rotate_left; (· intro w hSw; (try dsimp only at hSw); obtain ⟨e2, e3, ca, cb⟩ := hSw; go_simp; all_goals with_reducible rfl); (try simp only [Act.put, List.setIfInBounds_toArray, List.set_cons_zero, List.set_cons_succ])) | (refine seq_leave (by rfl) ?_; (try simp only [Act.put, List.setIfInBounds_toArray, List.set_cons_zero, List.set_cons_succ])))
      refine seq_end ?_
      clear e2 e3 ca cb
      go_wp2_with fail
      go_roundg (gk - 1)
      case measure => omega
      case rel => exact ⟨i + 1, by omega, by go_num, hbr⟩
    · have hz : ¬ (i : Int) < (vs.length : Int) := by omega
      go_wp2_with fail
      go_ret
      exact ⟨rfl, hbr⟩
set_option maxRecDepth 100000 in
set_option maxHeartbeats 2000000 in
/-- markedInts: each list holds its marks. -/
theorem markedInts_any (gv : Value) (vs : List Value) (ls : List Nat) (w : World) (hv : VView w gv vs) (hlv : vs.length = ls.length) (hm : vs.length ≤ 1000)
    (hr : ∀ (i : Nat) (v : Value) (n : Nat), vs[i]? = some v → ls[i]? = some n → IntsI .i64 w v (markI i 0 n) ∧ n ≤ 10000000) :
    Calls Tryz.prog 63 #[gv] w fun e w' => e = .returned (.bool true) ∧ Below w.heap.size w w' := by
  obtain ⟨ao, ca9, rfl, ha1, ha2, ha3⟩ := hv
  have HLV := Lib.hid hlv
  clear hlv
  go_enter Tryz.func63, Tryz.ntmps63
  go_wp2_with fail
  go_loopg [3] vs.length (fun gg iv wr => ∃ i : Nat, i + gg = vs.length ∧ iv = .int .i64 (i : Int) ∧ Below w.heap.size w wr)
  case atStart => exact ⟨0, by omega, rfl, Below.refl _ _⟩
  case round =>
    obtain ⟨i, hi, rfl, hbr⟩ := hrel
    by_cases hil : i < vs.length
    · have hz : (i : Int) < (vs.length : Int) := by omega
      have hz0 : (0 : Int) ≤ (i : Int) := by omega
      have hils : i < ls.length := by rw [← HLV.out]; exact hil
      obtain ⟨va, hva⟩ : ∃ v, vs[i]? = some v := ⟨_, List.getElem?_eq_getElem hil⟩
      obtain ⟨n, hns⟩ : ∃ v, ls[i]? = some v := ⟨_, List.getElem?_eq_getElem hils⟩
      obtain ⟨hia, hn⟩ := hr i va n hva hns
      replace hia := hia.below hbr
      obtain ⟨ga, rfl, la, ca⟩ := ha3 i va hva
      obtain ⟨vo, vc, rfl, hv1, hv2, hv3⟩ := hia
      have hia : IntsI .i64 wr (.slice vo (markI i 0 n).length vc) (markI i 0 n) := ⟨_, _, rfl, hv1, hv2, hv3⟩
      rw [markI_len] at hia hva ca
      have hM := fun W => markInts_any i 0 n W (by omega) (by omega) hn
      have e0 : ((0 : Nat) : Int) = 0 := rfl
      rw [e0] at hM
      clear e0
      clear hva hns hils hv1 hv2 hv3
      replace ca := (hbr.cell (p := ⟨ga, i, none⟩) la).trans ca
      replace la := Nat.lt_of_lt_of_le la hbr.size
      go_upto_region 4 with fail
      refine wp_region_seq (S := fun w' => w'.cell? ⟨ga, i, none⟩ = some (.slice vo n vc)) [(true, 0), (true, 1), (true, 2), (true, 3), (true, 4), (true, 5), (true, 6), (true, 7), (true, 8), (true, 9), (false, 10), (false, 11), (true, 12)] (by kernel_rfl) (by kernel_rfl) (by kernel_rfl) (by kernel_rfl) (by kernel_rfl) (fun d _ _ _ _ h => by cases d <;> exact h) (by first | exact ca | simpa using ca) (fun _ => ?_)
      simp only [pickOps, List.append_eq, List.cons_append, List.nil_append, List.getElem?_toArray, List.getElem?_cons_succ, List.getElem?_cons_zero]
      have hb : Below wr.heap.size wr wr.drew := (Below.refl _ _).drew
      generalize wr.drew = wd at hb ⊢
      replace ca := (hb.cell (p := ⟨ga, i, none⟩) la).trans ca
      replace la := Nat.lt_of_lt_of_le la hb.size
      replace hia := hia.below hb
      replace hbr := hbr.trans (hb.mono hbr.size)
      clear hb
      repeat (first | (refine seq_take (v := ?_) (by rfl) ?_ ?_; rotate_left; (· intro w hSw; (try dsimp only at hSw); have ca := hSw; go_simp; all_goals with_reducible rfl); (try simp only [Act.put, List.setIfInBounds_toArray, List.set_cons_zero, List.set_cons_succ])) | (refine seq_leave (by rfl) ?_; (try simp only [Act.put, List.setIfInBounds_toArray, List.set_cons_zero, List.set_cons_succ])))
      refine seq_step (by rfl) (fun K hK => ?_)
      go_simp
      go_at_call 91
      (with_reducible refine (hM _).mono ?_)
      rintro e9 w3 ⟨r9, rfl, hO9, hb⟩
      have hI9 := (ints_of_owns hO9).1
      clear hO9
      replace ca := (hb.cell (p := ⟨ga, i, none⟩) la).trans ca
      replace la := Nat.lt_of_lt_of_le la hb.size
      replace hia := hia.below hb
      replace hbr := hbr.trans (hb.mono hbr.size)
      clear hb
      first | refine hK.out _ _ (by first | exact ca | simpa using ca) (fun _ => ?_) | (go_wp2_with fail; refine hK.out _ _ (by first | exact ca | simpa using ca) (fun _ => ?_))
      clear hK K
      (try simp only [Act.put, List.setIfInBounds_toArray, List.set_cons_zero, List.set_cons_succ])
      repeat (first | (refine seq_take (v := ?_) (by rfl) ?_ ?_; rotate_left; (· intro w hSw; (try dsimp only at hSw); have ca := hSw; go_simp; all_goals with_reducible rfl); (try simp only [Act.put, List.setIfInBounds_toArray, List.set_cons_zero, List.set_cons_succ])) | (refine seq_leave (by rfl) ?_; (try simp only [Act.put, List.setIfInBounds_toArray, List.set_cons_zero, List.set_cons_succ])))
      refine seq_step (by rfl) (fun K hK => ?_)
      go_simp
      go_at_call 14
      (with_reducible refine (same_ints _ _ (markI i 0 n) _ hia hI9).mono ?_)
      rintro e9 w4 ⟨rfl, hb⟩
      clear hI9
      replace ca := (hb.cell (p := ⟨ga, i, none⟩) la).trans ca
      replace la := Nat.lt_of_lt_of_le la hb.size
      replace hia := hia.below hb
      replace hbr := hbr.trans (hb.mono hbr.size)
      clear hb
      first | refine hK.out _ _ (by first | exact ca | simpa using ca) (fun _ => ?_) | (go_wp2_with fail; refine hK.out _ _ (by first | exact ca | simpa using ca) (fun _ => ?_))
      clear hK K
      (try simp only [Act.put, List.setIfInBounds_toArray, List.set_cons_zero, List.set_cons_succ])
      repeat (first | (refine seq_take (v := ?_) (by rfl) ?_ ?_; rotate_left; (· intro w hSw; (try dsimp only at hSw); have ca := hSw; go_simp; all_goals with_reducible rfl); (try simp only [Act.put, List.setIfInBounds_toArray, List.set_cons_zero, List.set_cons_succ])) | (refine seq_leave (by rfl) ?_; (try simp only [Act.put, List.setIfInBounds_toArray, List.set_cons_zero, List.set_cons_succ])))
      refine seq_end ?_
      clear ca
      go_wp2_with fail
      go_roundg (gk - 1)
      case measure => omega
      case rel => exact ⟨i + 1, by omega, by go_num, hbr⟩
    · have hz : ¬ (i : Int) < (vs.length : Int) := by omega
      go_wp2_with fail
      go_ret
      exact ⟨rfl, hbr⟩
end Go.Proofs.YtlmjkbdodecbmaaGreatDoor

namespace Go.Proofs.YtlmjkbdodecbmaaGreatDoor
open Go.RowKit Go.Shelf
set_option linter.unusedVariables false
set_option linter.unusedSimpArgs false
/-- The blocks of lists. -/
def OfL (vs : List Value) (k : Nat) : Prop := ∃ (i : Nat) (v : Value), vs[i]? = some v ∧ v.ownBlock = some k
theorem Keep.cell {S : Nat → Prop} {w w' : World} (h : Keep S w w') {b i : Nat} {x : Value} (hb : ¬ S b) (hc : w.cell? ⟨b, i, none⟩ = some x) : w'.cell? ⟨b, i, none⟩ = some x :=
  (World.cell?_of_block (w := w) (a := ⟨b, i, none⟩) (h.same b (World.block_lt_of_cell? w ⟨b, i, none⟩ hc) hb)).trans hc
theorem half_set {xs ys : List Int} {k : Nat} (hl : xs.length = ys.length) (hk : k < ys.length) : (ivals .i64 (ys.take k ++ xs.drop k)).set k (.int .i64 (ys[k]?.getD 0)) = ivals .i64 (ys.take (k + 1) ++ xs.drop (k + 1)) := by
  unfold ivals
  rw [← List.map_set]
  congr 1
  apply List.ext_getElem?
  intro j
  by_cases e : j = k
  · subst e
    rw [List.getElem?_set_self (by rw [List.length_append, List.length_take, List.length_drop]; omega), List.getElem?_append_left (by rw [List.length_take]; omega), List.getElem?_take_of_lt (by omega), List.getElem?_eq_getElem hk]; rfl
  · rw [List.getElem?_set_ne (fun h => e h.symm)]
    by_cases h : j < k
    · rw [List.getElem?_append_left (by rw [List.length_take]; omega), List.getElem?_append_left (by rw [List.length_take]; omega), List.getElem?_take_of_lt h, List.getElem?_take_of_lt (by omega)]
    · rw [List.getElem?_append_right (by rw [List.length_take]; omega), List.getElem?_append_right (by rw [List.length_take]; omega), List.getElem?_drop, List.getElem?_drop, List.length_take, List.length_take]
      congr 1
      omega
theorem Owns.setO {B : Nat} {e : TypeId} {w : World} {v : Value} {xs : List Value} (h : Owns B e w v xs) (p i : Nat) (u : Value) (hne : ∀ k, v.ownBlock = some k → p ≠ k) : Owns B e (w.setCell ⟨p, i, none⟩ u) v xs :=
  OwnsK.block (K := 1) h (fun g hg => (grownBy_set (grownBy_refl w (some p)) i u).block g (OwnsK.lt (K := 1) h g hg).2 (by simpa using Ne.symm (hne g hg)))
theorem OwnsK.free9 {B : Nat} {e : TypeId} {w : World} {g n cap : Nat} {xs : List Value} (h : Owns B e w (.slice (some ⟨g, 0, none⟩) n cap) xs) (j : Nat) : w.frozen? ⟨g, j, none⟩ = false := by
  rcases h.shape with ⟨h0, _⟩ | ⟨g', cap', e0, _, _, _, _, _, k6⟩
  · cases h0
  · injection e0 with e0 _ _; injection e0 with e0; injection e0 with e0; subst e0; exact k6 j
theorem OwnsK.at9 {B : Nat} {e : TypeId} {w : World} {g n cap : Nat} {xs : List Value} (h : Owns B e w (.slice (some ⟨g, 0, none⟩) n cap) xs) (j : Nat) : j < xs.length → w.cell? ⟨g, j, none⟩ = xs[j]? := by
  intro hj
  rcases h.shape with ⟨h0, _⟩ | ⟨g', cap', e0, _, _, _, _, k5, _⟩
  · cases h0
  · injection e0 with e0 _ _; injection e0 with e0; injection e0 with e0; subst e0; exact k5 j hj
set_option maxRecDepth 100000 in
set_option maxHeartbeats 2000000 in
/-- putInts: each list gets its marks; nothing else is written. -/
theorem putInts_any (B p : Nat) (bi : Value) (vs : List Value) (ls : List (List Int)) (w : World) (h2 : w.cell? ⟨p, 2, none⟩ = some bi) (hv : VView w bi vs) (hlv : vs.length = ls.length) (hm : vs.length ≤ 1000) (hB : B ≤ w.heap.size)
    (hr : ∀ (i : Nat) (v : Value) (ns : List Int), vs[i]? = some v → ls[i]? = some ns → Owns B 3 w v (ivals .i64 ns) ∧ ns.length ≤ 1000000)
    (hap : ∀ (i j : Nat) (v u : Value) (g : Nat), vs[i]? = some v → vs[j]? = some u → v.ownBlock = some g → u.ownBlock = some g → i = j)
    (hp : ¬ OfL vs p) (hbS : ∀ g, bi.ownBlock = some g → ¬ OfL vs g) :
    Calls Tryz.prog 52 #[.pointer (some ⟨p, 0, none⟩)] w fun e w' => e = .returned (.tuple #[]) ∧ (∀ (i : Nat) (v : Value) (ns : List Int), vs[i]? = some v → ls[i]? = some ns → Owns B 3 w' v (ivals .i64 (markI i 0 ns.length))) ∧ Keep (OfL vs) w w' := by
  obtain ⟨ao, cb9, rfl, hb1, hb2, hb3⟩ := hv
  have HLV := Lib.hid hlv
  clear hlv
  unfold maxLen at hb2
  go_enter Tryz.func52, Tryz.ntmps52
  go_wp2_with fail
  go_loopg [2] vs.length (fun gg iv wr => ∃ i : Nat, i + gg = vs.length ∧ iv = .int .i64 (i : Int) ∧ Keep (OfL vs) w wr ∧ Hid (∀ (j : Nat) (v : Value) (ns : List Int), vs[j]? = some v → ls[j]? = some ns → Owns B 3 wr v (ivals .i64 (if j < i then markI j 0 ns.length else ns))))
  case atStart => exact ⟨0, by omega, rfl, Keep.refl _ _, Lib.hid (fun j v ns h1 h2 => by rw [if_neg (by omega)]; exact (hr j v ns h1 h2).1)⟩
  case round =>
    obtain ⟨i, hi, rfl, hKs, hR0⟩ := hrel
    have e2 := hKs.cell hp h2
    by_cases hil : i < vs.length
    · have hz : (i : Int) < (vs.length : Int) := by omega
      have hz0 : (0 : Int) ≤ (i : Int) := by omega
      have hils : i < ls.length := by rw [← HLV.out]; exact hil
      obtain ⟨va, hva⟩ : ∃ v, vs[i]? = some v := ⟨_, List.getElem?_eq_getElem hil⟩
      obtain ⟨ns, hns⟩ : ∃ v, ls[i]? = some v := ⟨_, List.getElem?_eq_getElem hils⟩
      have hnl := (hr i va ns hva hns).2
      have hOv := hR0.out i va ns hva hns
      rw [if_neg (by omega)] at hOv
      obtain ⟨gb, rfl, lb0, cb0⟩ := hb3 i va hva
      have cv := hKs.cell (hbS gb rfl) cb0
      obtain ⟨vo, cv9, rfl, hv1, hv2, _⟩ := OwnsK.slice (K := 1) hOv
      rw [ivals_length] at hva cv cb0 hOv
      clear lb0
      have HVA := Lib.hid hva
      have HNS := Lib.hid hns
      clear hva hns
      have hM := fun W => markInts_any i 0 ns.length W (by omega) (by omega) (by omega)
      have e0 : ((0 : Nat) : Int) = 0 := rfl
      rw [e0] at hM
      clear e0
      have lw := World.block_lt_of_cell? wr ⟨p, 2, none⟩ e2
      have lb := World.block_lt_of_cell? wr ⟨gb, i, none⟩ cv
      have Hlt := Lib.hid (OwnsK.lt (K := 1) hOv)
      go_upto_region 4 with (go_at_call 91; have HWB := Lib.hid (rfl : wr.heap.size = wr.heap.size); (with_reducible refine (hM _).mono ?_); rintro e9 w1 ⟨r9, rfl, hOm, hb⟩)
      replace e2 := (hb.cell (p := ⟨p, 2, none⟩) lw).trans e2
      replace cv := (hb.cell (p := ⟨gb, i, none⟩) lb).trans cv
      replace hKs := hKs.then_below hb
      replace hOv := Owns.kept hOv hb
      have hR1 := Lib.hid (fun j v ns9 h1 h2 => Owns.kept (hR0.out j v ns9 h1 h2) hb)
      obtain ⟨mo, mc, rfl, hm1, hm2, _⟩ := OwnsK.slice (K := 1) hOm
      have hml : (ivals .i64 (markI i 0 ns.length)).length = ns.length := by rw [ivals_length, markI_len]
      rw [hml] at hOm ⊢
      obtain ⟨WB, hWB⟩ : ∃ n, wr.heap.size = n := ⟨_, rfl⟩
      rw [hWB] at hOm
      have Hmf := Lib.hid (OwnsK.lt (K := 1) hOm)
      rw [hWB] at Hlt
      clear hWB
      clear hb hM hR0 lw lb
      obtain ⟨go1, hgo⟩ : ∃ go, go = gk := ⟨_, rfl⟩
      subst hgo
      obtain ⟨w2, hw2⟩ : ∃ x, x = w1 := ⟨_, rfl⟩
      subst hw2
      have hRo : Hid (∀ (j : Nat) (v : Value) (ns9 : List Int), vs[j]? = some v → ls[j]? = some ns9 → j ≠ i → Owns B 3 w2 v (ivals .i64 (if j < i then markI j 0 ns9.length else ns9))) := Lib.hid (fun j v ns9 h1 h2 _ => hR1.out j v ns9 h1 h2)
      clear hR1 e2 cv
      go_wp2_with fail
      go_loopg [4] ns.length (fun gg kv wr => ∃ k : Nat, k + gg = ns.length ∧ kv = .int .i64 (k : Int) ∧ Keep (OfL vs) w wr ∧ Owns WB 3 wr (.slice mo ns.length mc) (ivals .i64 (markI i 0 ns.length)) ∧ Owns B 3 wr (.slice vo ns.length cv9) (ivals .i64 ((markI i 0 ns.length).take k ++ ns.drop k)) ∧ Hid (∀ (j : Nat) (v : Value) (ns9 : List Int), vs[j]? = some v → ls[j]? = some ns9 → j ≠ i → Owns B 3 wr v (ivals .i64 (if j < i then markI j 0 ns9.length else ns9))))
      case atStart => exact ⟨0, by omega, rfl, hKs, hOm, by simpa using hOv, hRo⟩
      case round =>
        clear hKs hOm hOv hRo
        obtain ⟨k, hk, rfl, hKs, hOm, hOv, hR⟩ := hrel
        by_cases hkl : k < ns.length
        · have hkz : (k : Int) < (ns.length : Int) := by omega
          have hkz0 : (0 : Int) ≤ (k : Int) := by omega
          have hlv9 : ((markI i 0 ns.length).take k ++ ns.drop k).length = ns.length := by rw [List.length_append, List.length_take, List.length_drop, markI_len]; omega
          obtain ⟨g, rfl⟩ : ∃ g, vo = some ⟨g, 0, none⟩ := by
            rcases OwnsK.shape (K := 1) hOv with ⟨_, h0⟩ | ⟨g, cap9, h0, _⟩
            · rw [ivals_length, hlv9] at h0; omega
            · injection h0 with h0 _ _; exact ⟨g, h0⟩
          obtain ⟨gm, rfl⟩ : ∃ g, mo = some ⟨g, 0, none⟩ := by
            rcases OwnsK.shape (K := 1) hOm with ⟨_, h0⟩ | ⟨g, cap9, h0, _⟩
            · rw [ivals_length, markI_len] at h0; omega
            · injection h0 with h0 _ _; exact ⟨g, h0⟩
          have hSg : OfL vs g := ⟨i, _, HVA.out, rfl⟩
          have hpg : p ≠ g := fun h => hp (h ▸ hSg)
          have hbg : gb ≠ g := fun h => hbS gb rfl (h ▸ hSg)
          have hmg : gm ≠ g := by
            have h1 := (Hmf.out gm rfl).1
            have h2 := (Hlt.out g rfl).2
            omega
          have hlk : k < (ivals .i64 ((markI i 0 ns.length).take k ++ ns.drop k)).length := by rw [ivals_length, hlv9]; exact hkl
          obtain ⟨xk, hxk⟩ : ∃ x, (ivals .i64 ((markI i 0 ns.length).take k ++ ns.drop k))[k]? = some (.int .i64 x) := by
            unfold ivals
            rw [List.getElem?_map, List.getElem?_eq_getElem (by rw [hlv9]; exact hkl)]
            exact ⟨_, rfl⟩
          have Hxk := Lib.hid hxk
          clear hxk
          obtain ⟨mk, hmk⟩ : ∃ x, (markI i 0 ns.length)[k]?.getD 0 = x := ⟨_, rfl⟩
          have cm : wr.cell? ⟨gm, k, none⟩ = some (.int .i64 mk) := by
            rw [OwnsK.at9 hOm k (by rw [ivals_length, markI_len]; exact hkl)]
            unfold ivals
            rw [List.getElem?_map, List.getElem?_eq_getElem (by rw [markI_len]; exact hkl)]
            rw [List.getElem?_eq_getElem (by rw [markI_len]; exact hkl)] at hmk
            rw [← hmk]; rfl
          have HS := half_set (xs := ns) (ys := markI i 0 ns.length) (k := k) (by rw [markI_len]) (by rw [markI_len]; exact hkl)
          rw [hmk] at HS
          have HS9 := Lib.hid HS
          clear HS hmk
          have e2 := hKs.cell hp h2
          have cv := hKs.cell (hbS gb rfl) cb0
          have l2 := World.block_lt_of_cell? wr ⟨p, 2, none⟩ e2
          have lb := World.block_lt_of_cell? wr ⟨gb, i, none⟩ cv
          have lm := World.block_lt_of_cell? wr ⟨gm, k, none⟩ cm
          go_upto_region 7 with fail
          refine wp_region_seq (S := fun w' => w'.cell? ⟨p, 2, none⟩ = some (.slice (some ⟨gb, 0, none⟩) vs.length cb9) ∧ w'.cell? ⟨gb, i, none⟩ = some (.slice (some ⟨g, 0, none⟩) ns.length cv9) ∧ w'.cell? ⟨gm, k, none⟩ = some (.int .i64 mk)) [(true, 0), (true, 1), (true, 2), (true, 3), (true, 4), (true, 5), (true, 6), (true, 7), (true, 8), (true, 9), (true, 10), (true, 11), (true, 12), (false, 13)] (by kernel_rfl) (by kernel_rfl) (by kernel_rfl) (by kernel_rfl) (by kernel_rfl) (fun d _ _ _ _ h => by cases d <;> exact h) ⟨(by first | exact e2 | simpa using e2), (by first | exact cv | simpa using cv), (by first | exact cm | simpa using cm)⟩ (fun _ => ?_)
          simp only [pickOps, List.append_eq, List.cons_append, List.nil_append, List.getElem?_toArray, List.getElem?_cons_succ, List.getElem?_cons_zero]
          have hb : Below wr.heap.size wr wr.drew := (Below.refl _ _).drew
          generalize wr.drew = wd at hb ⊢
          replace hKs := hKs.then_below hb
          replace hOv := Owns.kept hOv hb
          replace hOm := Owns.kept hOm hb
          replace hR := Lib.hid (fun j v ns9 h1 h2 hne => Owns.kept (hR.out j v ns9 h1 h2 hne) hb)
          replace e2 := (hb.cell (p := ⟨p, 2, none⟩) l2).trans e2
          replace l2 := Nat.lt_of_lt_of_le l2 hb.size
          replace cv := (hb.cell (p := ⟨gb, i, none⟩) lb).trans cv
          replace lb := Nat.lt_of_lt_of_le lb hb.size
          replace cm := (hb.cell (p := ⟨gm, k, none⟩) lm).trans cm
          replace lm := Nat.lt_of_lt_of_le lm hb.size
          clear hb
          repeat (first | (refine seq_take (v := ?_) (by rfl) ?_ ?_; rotate_left; (· intro w hSw; (try dsimp only at hSw); obtain ⟨e2, cv, cm⟩ := hSw; go_simp; all_goals with_reducible rfl); (try simp only [Act.put, List.setIfInBounds_toArray, List.set_cons_zero, List.set_cons_succ])) | (refine seq_leave (by rfl) ?_; (try simp only [Act.put, List.setIfInBounds_toArray, List.set_cons_zero, List.set_cons_succ])))
          refine seq_step (by rfl) (fun K hK => ?_)
          have fg := OwnsK.free9 hOv k
          have cg : wd.cell? ⟨g, k, none⟩ = some (.int .i64 xk) := by
            rw [OwnsK.at9 hOv k hlk, Hxk.out]
          go_simp
          obtain ⟨wz, hwz⟩ : ∃ X, X = wd.setCell ⟨g, k, none⟩ (.int .i64 mk) := ⟨_, rfl⟩
          rw [← hwz]
          have e2z : wz.cell? ⟨p, 2, none⟩ = some (.slice (some ⟨gb, 0, none⟩) vs.length cb9) := by rw [hwz, World.cell?_setCell_other]; exact e2; exact fun h => hpg (by injection h with h _; exact h.symm)
          have cvz : wz.cell? ⟨gb, i, none⟩ = some (.slice (some ⟨g, 0, none⟩) ns.length cv9) := by rw [hwz, World.cell?_setCell_other]; exact cv; exact fun h => hbg (by injection h with h _; exact h.symm)
          have cmz : wz.cell? ⟨gm, k, none⟩ = some (.int .i64 mk) := by rw [hwz, World.cell?_setCell_other]; exact cm; exact fun h => hmg (by injection h with h _; exact h.symm)
          refine hK.out _ _ ⟨e2z, cvz, cmz⟩ (fun _ => ?_)
          clear hK K
          (try simp only [Act.put, List.setIfInBounds_toArray, List.set_cons_zero, List.set_cons_succ])
          refine seq_end ?_
          have hO1 := Owns.stored hOv (by rw [ivals_length, hlv9]) k (.int .i64 mk)
          rw [HS9.out, ← hwz] at hO1
          have hO2 := Owns.setO hOm g k (.int .i64 mk) (fun b hb => by simp [Value.ownBlock] at hb; omega)
          rw [← hwz] at hO2
          have hK2 := hKs.set g k (.int .i64 mk) (.inl hSg)
          rw [← hwz] at hK2
          have hR2 : Hid (∀ (j : Nat) (v : Value) (ns9 : List Int), vs[j]? = some v → ls[j]? = some ns9 → j ≠ i → Owns B 3 wz v (ivals .i64 (if j < i then markI j 0 ns9.length else ns9))) := Lib.hid (fun j v ns9 h1 h2 hne => by
            rw [hwz]
            exact Owns.setO (hR.out j v ns9 h1 h2 hne) g k (.int .i64 mk) (fun b hb h9 => hne (hap j i v _ b h1 HVA.out hb (by rw [h9]; rfl))))
          clear hOv hOm hKs hR e2 cv cm e2z cvz cmz fg cg hwz
          go_wp2_with fail
          go_roundg (gk - 1)
          case measure => omega
          case rel => exact ⟨k + 1, by omega, by go_num, hK2, hO2, hO1, hR2⟩
        · obtain rfl : k = ns.length := by omega
          have hkz : ¬ (ns.length : Int) < (ns.length : Int) := by omega
          rw [List.take_of_length_le (by rw [markI_len]; exact Nat.le_refl _), List.drop_of_length_le (Nat.le_refl _), List.append_nil] at hOv
          have hR3 : Hid (∀ (j : Nat) (v : Value) (ns9 : List Int), vs[j]? = some v → ls[j]? = some ns9 → Owns B 3 wr v (ivals .i64 (if j < i + 1 then markI j 0 ns9.length else ns9))) := Lib.hid (fun j v ns9 h1 h2 => by
            by_cases e : j = i
            · subst e
              have a1 := HVA.out.symm.trans h1
              have a2 := HNS.out.symm.trans h2
              injection a1 with a1
              injection a2 with a2
              subst a1 a2
              rw [if_pos (by omega)]; exact hOv
            · have h9 := hR.out j v ns9 h1 h2 e
              by_cases hlt : j < i
              · rw [if_pos hlt] at h9; rw [if_pos (by omega)]; exact h9
              · rw [if_neg hlt] at h9; rw [if_neg (by omega)]; exact h9)
          clear hR hOv hOm
          go_wp2_with fail
          go_roundg (go1 - 1)
          case measure => omega
          case rel => exact ⟨i + 1, by omega, by go_num, hKs, hR3⟩
    · have hz : ¬ (i : Int) < (vs.length : Int) := by omega
      go_wp2_with fail
      go_end0
      refine ⟨rfl, fun j v ns h1 h2 => ?_, hKs⟩
      have h9 := hR0.out j v ns h1 h2
      rwa [if_pos (by have := (List.getElem?_eq_some_iff.1 h1).1; omega)] at h9
end Go.Proofs.YtlmjkbdodecbmaaGreatDoor
