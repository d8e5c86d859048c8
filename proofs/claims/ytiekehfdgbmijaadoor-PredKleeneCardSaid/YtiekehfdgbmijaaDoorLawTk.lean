/-
  PredKleene: the walk.
-/
import Derived.Test.YtiekehfdgbmijaaDoorTruA
namespace Go.Proofs.YtiekehfdgbmijaaDoor
open Go.RowKit
set_option linter.unusedVariables false
set_option linter.unusedSimpArgs false

set_option maxRecDepth 100000 in
theorem kleene_early (sv : Value) (ns : List Int) (k v : Int) (w : World) (hs : IntsN .i64 w sv ns) (h : ¬ (ns.length ≤ 40 ∧ 0 ≤ k ∧ k < (ns.length : Int) ∧ (v = 0 ∨ v = 1))) :
    Calls Tryd.prog 4 #[sv, .int .i64 k, .int .i64 v] w fun e w' => e = .returned (.bool true) ∧ Below w.heap.size w w' := by
  obtain ⟨⟨ao, ca, rfl, h1, h2, h3⟩, h4⟩ := hs
  clear h1 h2 h3 h4
  by_cases c1 : (40 : Int) < (ns.length : Int)
  · clear h
    go_enter Tryd.func4, Tryd.ntmps4
    go_wp2_with fail
    refine (alive13_any _).mono ?_
    rintro e w2 ⟨rfl, hb2⟩
    go_wp2_with fail
    go_ret
    exact ⟨rfl, hb2⟩
  · by_cases c2 : k < 0
    · clear h
      go_enter Tryd.func4, Tryd.ntmps4
      go_wp2_with fail
      refine (alive13_any _).mono ?_
      rintro e w2 ⟨rfl, hb2⟩
      go_wp2_with fail
      go_ret
      exact ⟨rfl, hb2⟩
    · by_cases c3 : (ns.length : Int) ≤ k
      · clear h
        go_enter Tryd.func4, Tryd.ntmps4
        go_wp2_with fail
        refine (alive13_any _).mono ?_
        rintro e w2 ⟨rfl, hb2⟩
        go_wp2_with fail
        go_ret
        exact ⟨rfl, hb2⟩
      · have c4 : (v == 0) = false := by simp; omega
        have c5 : (v == 1) = false := by simp; omega
        have c6 : (v != 0) = true := by simp; omega
        have c7 : (v != 1) = true := by simp; omega
        clear h
        go_enter Tryd.func4, Tryd.ntmps4
        go_wp2_with fail
        refine (alive13_any _).mono ?_
        rintro e w2 ⟨rfl, hb2⟩
        go_wp2_with fail
        go_ret
        exact ⟨rfl, hb2⟩

theorem own_at {k : IntKind} {B : Nat} {e : TypeId} {W : World} {v : Value} {ns : List Int} (h : Owns B e W v (ivals k ns)) (h0 : 0 < ns.length) :
    ∃ g cap, v = .slice (some ⟨g, 0, none⟩) ns.length cap ∧ B ≤ g ∧ g < W.heap.size ∧ ns.length ≤ cap ∧ cap ≤ maxLen ∧ (∀ j, j < ns.length → W.cell? ⟨g, j, none⟩ = some (.int k (ns[j]?.getD 0))) ∧ ∀ j, W.frozen? ⟨g, j, none⟩ = false := by
  rcases h.shape with ⟨e1, h1⟩ | ⟨g, cap, e1, h2, h3, h4, h5, h6, h7⟩
  · have hn : ns = [] := by cases ns <;> simp [ivals] at h1 ⊢
    subst hn; simp at h0
  · rw [ivals_length] at h4 h6 e1
    exact ⟨g, cap, e1, h2, h3, h4, h5, fun j hj => by rw [h6 j hj, ivals_get hj], h7⟩
theorem ivals_set (k : IntKind) (ns : List Int) (j : Nat) (n : Int) : (ivals k ns).set j (.int k n) = ivals k (ns.set j n) := by unfold ivals; rw [List.map_set]
theorem copy_cells {k : IntKind} {W : World} {gb off : Nat} {ns : List Int} (h : ∀ i, i < ns.length → W.cell? ⟨gb, off + i, none⟩ = some (.int k (ns[i]?.getD 0))) : ∀ j u, (ivals k ns)[j]? = some u → W.cell? ((⟨gb, off, none⟩ : Addr).add j) = some u := fun j u hj => by
  have hjl : j < ns.length := by have := (List.getElem?_eq_some_iff.1 hj).1; rwa [ivals_length] at this
  rw [Addr.add_lit, h j hjl, ← hj, ivals_get hjl]

set_option maxRecDepth 100000 in
set_option maxHeartbeats 2000000 in
theorem kleene_no (sv : Value) (ns : List Int) (k : Nat) (w : World) (hs : IntsN .i64 w sv ns) (hl : ns.length ≤ 40) (hkl : k < ns.length) :
    Calls Tryd.prog 4 #[sv, .int .i64 (k : Int), .int .i64 0] w fun e w' => e = .returned (.bool true) ∧ Below w.heap.size w w' := by
  obtain ⟨⟨ao, ca, rfl, h1, h2, h3⟩, h4⟩ := hs
  clear h4
  have hpos : 0 < ns.length := by omega
  rcases h3 with h | ⟨gb, off, rfl, hgb, hcb⟩
  · subst h; simp at hpos
  have c1 : ¬ (40 : Int) < (ns.length : Int) := by omega
  have c2 : ¬ (k : Int) < 0 := by omega
  have c3 : ¬ (ns.length : Int) ≤ (k : Int) := by omega
  have q1 : (0 : Int) ≤ (k : Int) := by omega
  have q2 : (k : Int) < (ns.length : Int) := by omega
  have hlen := ivals_length .i64 ns
  have K1 := Lib.hid (kleene_and 0 hkl)
  have K2 := Lib.hid (kleene_or 0 hkl)
  have K3 := Lib.hid (kleene_xor hkl)
  go_enter Tryd.func4, Tryd.ntmps4
  go_wp2_with fail
  refine (alive13_any _).mono ?_
  rintro e w1 ⟨rfl, hb1⟩
  have hcb1 : ∀ i, i < ns.length → w1.cell? ⟨gb, off + i, none⟩ = some (.int .i64 (ns[i]?.getD 0)) := fun i hi => (hb1.cell (p := ⟨gb, off + i, none⟩) hgb).trans (hcb i hi)
  have hgb1 : gb < w1.heap.size := Nat.lt_of_lt_of_le hgb hb1.size
  have hy1 := copy_cells hcb1
  clear hcb
  go_upto_region 4 with (at_builtin; refine appendN E_ints (Owns.nil w1.heap.size 3 w1) rfl rfl rfl (ys := ivals .i64 ns) (ad := ⟨gb, off, none⟩) (c := ca) (by rw [hlen]; rfl) hy1 (ivals_one .i64 ns) (by simp; omega) (by simp [maxLen]; omega) (Nat.le_refl _) ?_; intro v5 w5 ho5 hb5 hg5; rw [List.nil_append] at ho5; obtain ⟨ga, cap, rfl, k1, k2, k3, k4, k5, k6⟩ := own_at ho5 hpos; unfold maxLen at k4)
  have hcb5 : ∀ i, i < ns.length → w5.cell? ⟨gb, off + i, none⟩ = some (.int .i64 (ns[i]?.getD 0)) := fun i hi => (hb5.cell (p := ⟨gb, off + i, none⟩) hgb1).trans (hcb1 i hi)
  have e5 := k5 k hkl
  have f5 := k6 k
  clear hy1 hg5 hcb1
  go_upto_region 5 with fail
  clear e5 f5
  have ho6 := ho5.stored hlen.symm k (.int .i64 2)
  rw [ivals_set] at ho6
  have hb6 : Below w1.heap.size w1 (w5.setCell ⟨ga, k, none⟩ (.int .i64 2)) := hb5.setCell (p := ⟨ga, k, none⟩) k1 _
  have hcb6 : ∀ i, i < ns.length → (w5.setCell ⟨ga, k, none⟩ (.int .i64 2)).cell? ⟨gb, off + i, none⟩ = some (.int .i64 (ns[i]?.getD 0)) := fun i hi => by
    rw [World.cell?_setCell_other]
    · exact hcb5 i hi
    · intro e9; injection e9; omega
  obtain ⟨w6, hw6⟩ : ∃ x, x = w5.setCell ⟨ga, k, none⟩ (.int .i64 2) := ⟨_, rfl⟩
  rw [← hw6] at ho6 hb6 hcb6 ⊢
  clear hw6 hcb5 ho5 hb5 k5 k6
  have hy2 := copy_cells hcb6
  have hs6 := hb6.size
  go_upto_region 6 with (at_builtin; refine appendN E_ints (Owns.nil w6.heap.size 3 w6) rfl rfl rfl (ys := ivals .i64 ns) (ad := ⟨gb, off, none⟩) (c := ca) (by rw [hlen]; rfl) hy2 (ivals_one .i64 ns) (by simp; omega) (by simp [maxLen]; omega) (Nat.le_refl _) ?_; intro v7 w7 ho7 hb7 hg7; rw [List.nil_append] at ho7; obtain ⟨gc, cap2, rfl, m1, m2, m3, m4, m5, m6⟩ := own_at ho7 hpos; unfold maxLen at m4)
  have e7 := m5 k hkl
  have f7 := m6 k
  clear hy2 hg7 hcb6
  go_upto_region 7 with fail
  clear e7 f7
  have ho8 := ho7.stored hlen.symm k (.int .i64 0)
  rw [ivals_set] at ho8
  have hb8 : Below w6.heap.size w6 (w7.setCell ⟨gc, k, none⟩ (.int .i64 0)) := hb7.setCell (p := ⟨gc, k, none⟩) m1 _
  obtain ⟨w8, hw8⟩ : ∃ x, x = w7.setCell ⟨gc, k, none⟩ (.int .i64 0) := ⟨_, rfl⟩
  rw [← hw8] at ho8 hb8 ⊢
  have hm := (ints_of_owns (ho6.kept hb8)).1
  have hn := (ints_of_owns ho8).1
  have hbf : Below w.heap.size w w8 := hb1.trans ((hb6.trans (hb8.mono hs6)).mono hb1.size)
  clear hw8 ho7 hb7 m5 m6 ho8 ho6 hb8 hb6
  obtain ⟨r, hr⟩ : ∃ r, andF 1 (ns.set k 2) = r := ⟨_, rfl⟩
  obtain ⟨s, hs⟩ : ∃ r, orF 0 (ns.set k 2) = r := ⟨_, rfl⟩
  obtain ⟨t, ht⟩ : ∃ r, andF 1 (ns.set k 0) = r := ⟨_, rfl⟩
  obtain ⟨u, hu⟩ : ∃ r, orF 0 (ns.set k 0) = r := ⟨_, rfl⟩
  have K4 := K1.out; rw [hr, ht] at K4
  have K5 := K2.out; rw [hs, hu] at K5
  have HR := Lib.hid hr; have HS := Lib.hid hs; have HT := Lib.hid ht; have HU := Lib.hid hu
  clear hr hs ht hu K1 K2
  have hsl : ∀ x : Int, (ns.set k x).length = ns.length := fun x => List.length_set
  have hls := hsl 2
  have hlv := hsl 0
  clear hsl
  go_wp2_with fail
  refine (and_any _ (ns.set k 2) r w8 hm HR).mono ?_
  rintro e w1 ⟨rfl, hb⟩
  replace hm := hm.below hb
  replace hn := hn.below hb
  replace hbf := hbf.trans (hb.mono hbf.size)
  clear hb
  go_wp2_with fail
  refine (or_any _ (ns.set k 2) s w1 hm HS).mono ?_
  rintro e w2 ⟨rfl, hb⟩
  replace hm := hm.below hb
  replace hn := hn.below hb
  replace hbf := hbf.trans (hb.mono hbf.size)
  clear hb
  by_cases hr2 : r = 2
  case pos =>
    subst hr2
    by_cases hs2 : s = 2
    case pos =>
      subst hs2
      go_wp2_with fail
      refine (xor_any _ (ns.set k 2) 2 w2 hm K3).mono ?_
      rintro e w3 ⟨rfl, hb⟩
      replace hm := hm.below hb
      replace hn := hn.below hb
      replace hbf := hbf.trans (hb.mono hbf.size)
      clear hb
      go_wp2_with fail
      go_ret
      exact ⟨rfl, hbf⟩
    case neg =>
      have es : (s == 2) = false := by simp [hs2]
      obtain rfl := K5.resolve_left hs2
      have qs : (s == s) = true := beq_self_eq_true _
      go_wp2_with fail
      refine (or_any _ (ns.set k 0) s w2 hn HU).mono ?_
      rintro e w3 ⟨rfl, hb⟩
      replace hm := hm.below hb
      replace hn := hn.below hb
      replace hbf := hbf.trans (hb.mono hbf.size)
      clear hb
      go_wp2_with fail
      refine (xor_any _ (ns.set k 2) 2 w3 hm K3).mono ?_
      rintro e w4 ⟨rfl, hb⟩
      replace hm := hm.below hb
      replace hn := hn.below hb
      replace hbf := hbf.trans (hb.mono hbf.size)
      clear hb
      go_wp2_with fail
      go_ret
      exact ⟨rfl, hbf⟩
  case neg =>
    have er : (r == 2) = false := by simp [hr2]
    obtain rfl := K4.resolve_left hr2
    have qr : (r == r) = true := beq_self_eq_true _
    go_wp2_with fail
    refine (and_any _ (ns.set k 0) r w2 hn HT).mono ?_
    rintro e w3 ⟨rfl, hb⟩
    replace hm := hm.below hb
    replace hn := hn.below hb
    replace hbf := hbf.trans (hb.mono hbf.size)
    clear hb
    by_cases hs2 : s = 2
    case pos =>
      subst hs2
      go_wp2_with fail
      refine (xor_any _ (ns.set k 2) 2 w3 hm K3).mono ?_
      rintro e w4 ⟨rfl, hb⟩
      replace hm := hm.below hb
      replace hn := hn.below hb
      replace hbf := hbf.trans (hb.mono hbf.size)
      clear hb
      go_wp2_with fail
      go_ret
      exact ⟨rfl, hbf⟩
    case neg =>
      have es : (s == 2) = false := by simp [hs2]
      obtain rfl := K5.resolve_left hs2
      have qs : (s == s) = true := beq_self_eq_true _
      go_wp2_with fail
      refine (or_any _ (ns.set k 0) s w3 hn HU).mono ?_
      rintro e w4 ⟨rfl, hb⟩
      replace hm := hm.below hb
      replace hn := hn.below hb
      replace hbf := hbf.trans (hb.mono hbf.size)
      clear hb
      go_wp2_with fail
      refine (xor_any _ (ns.set k 2) 2 w4 hm K3).mono ?_
      rintro e w5 ⟨rfl, hb⟩
      replace hm := hm.below hb
      replace hn := hn.below hb
      replace hbf := hbf.trans (hb.mono hbf.size)
      clear hb
      go_wp2_with fail
      go_ret
      exact ⟨rfl, hbf⟩

set_option maxRecDepth 100000 in
set_option maxHeartbeats 2000000 in
theorem kleene_yes (sv : Value) (ns : List Int) (k : Nat) (w : World) (hs : IntsN .i64 w sv ns) (hl : ns.length ≤ 40) (hkl : k < ns.length) :
    Calls Tryd.prog 4 #[sv, .int .i64 (k : Int), .int .i64 1] w fun e w' => e = .returned (.bool true) ∧ Below w.heap.size w w' := by
  obtain ⟨⟨ao, ca, rfl, h1, h2, h3⟩, h4⟩ := hs
  clear h4
  have hpos : 0 < ns.length := by omega
  rcases h3 with h | ⟨gb, off, rfl, hgb, hcb⟩
  · subst h; simp at hpos
  have c1 : ¬ (40 : Int) < (ns.length : Int) := by omega
  have c2 : ¬ (k : Int) < 0 := by omega
  have c3 : ¬ (ns.length : Int) ≤ (k : Int) := by omega
  have q1 : (0 : Int) ≤ (k : Int) := by omega
  have q2 : (k : Int) < (ns.length : Int) := by omega
  have hlen := ivals_length .i64 ns
  have K1 := Lib.hid (kleene_and 1 hkl)
  have K2 := Lib.hid (kleene_or 1 hkl)
  have K3 := Lib.hid (kleene_xor hkl)
  go_enter Tryd.func4, Tryd.ntmps4
  go_wp2_with fail
  refine (alive13_any _).mono ?_
  rintro e w1 ⟨rfl, hb1⟩
  have hcb1 : ∀ i, i < ns.length → w1.cell? ⟨gb, off + i, none⟩ = some (.int .i64 (ns[i]?.getD 0)) := fun i hi => (hb1.cell (p := ⟨gb, off + i, none⟩) hgb).trans (hcb i hi)
  have hgb1 : gb < w1.heap.size := Nat.lt_of_lt_of_le hgb hb1.size
  have hy1 := copy_cells hcb1
  clear hcb
  go_upto_region 4 with (at_builtin; refine appendN E_ints (Owns.nil w1.heap.size 3 w1) rfl rfl rfl (ys := ivals .i64 ns) (ad := ⟨gb, off, none⟩) (c := ca) (by rw [hlen]; rfl) hy1 (ivals_one .i64 ns) (by simp; omega) (by simp [maxLen]; omega) (Nat.le_refl _) ?_; intro v5 w5 ho5 hb5 hg5; rw [List.nil_append] at ho5; obtain ⟨ga, cap, rfl, k1, k2, k3, k4, k5, k6⟩ := own_at ho5 hpos; unfold maxLen at k4)
  have hcb5 : ∀ i, i < ns.length → w5.cell? ⟨gb, off + i, none⟩ = some (.int .i64 (ns[i]?.getD 0)) := fun i hi => (hb5.cell (p := ⟨gb, off + i, none⟩) hgb1).trans (hcb1 i hi)
  have e5 := k5 k hkl
  have f5 := k6 k
  clear hy1 hg5 hcb1
  go_upto_region 5 with fail
  clear e5 f5
  have ho6 := ho5.stored hlen.symm k (.int .i64 2)
  rw [ivals_set] at ho6
  have hb6 : Below w1.heap.size w1 (w5.setCell ⟨ga, k, none⟩ (.int .i64 2)) := hb5.setCell (p := ⟨ga, k, none⟩) k1 _
  have hcb6 : ∀ i, i < ns.length → (w5.setCell ⟨ga, k, none⟩ (.int .i64 2)).cell? ⟨gb, off + i, none⟩ = some (.int .i64 (ns[i]?.getD 0)) := fun i hi => by
    rw [World.cell?_setCell_other]
    · exact hcb5 i hi
    · intro e9; injection e9; omega
  obtain ⟨w6, hw6⟩ : ∃ x, x = w5.setCell ⟨ga, k, none⟩ (.int .i64 2) := ⟨_, rfl⟩
  rw [← hw6] at ho6 hb6 hcb6 ⊢
  clear hw6 hcb5 ho5 hb5 k5 k6
  have hy2 := copy_cells hcb6
  have hs6 := hb6.size
  go_upto_region 6 with (at_builtin; refine appendN E_ints (Owns.nil w6.heap.size 3 w6) rfl rfl rfl (ys := ivals .i64 ns) (ad := ⟨gb, off, none⟩) (c := ca) (by rw [hlen]; rfl) hy2 (ivals_one .i64 ns) (by simp; omega) (by simp [maxLen]; omega) (Nat.le_refl _) ?_; intro v7 w7 ho7 hb7 hg7; rw [List.nil_append] at ho7; obtain ⟨gc, cap2, rfl, m1, m2, m3, m4, m5, m6⟩ := own_at ho7 hpos; unfold maxLen at m4)
  have e7 := m5 k hkl
  have f7 := m6 k
  clear hy2 hg7 hcb6
  go_upto_region 7 with fail
  clear e7 f7
  have ho8 := ho7.stored hlen.symm k (.int .i64 1)
  rw [ivals_set] at ho8
  have hb8 : Below w6.heap.size w6 (w7.setCell ⟨gc, k, none⟩ (.int .i64 1)) := hb7.setCell (p := ⟨gc, k, none⟩) m1 _
  obtain ⟨w8, hw8⟩ : ∃ x, x = w7.setCell ⟨gc, k, none⟩ (.int .i64 1) := ⟨_, rfl⟩
  rw [← hw8] at ho8 hb8 ⊢
  have hm := (ints_of_owns (ho6.kept hb8)).1
  have hn := (ints_of_owns ho8).1
  have hbf : Below w.heap.size w w8 := hb1.trans ((hb6.trans (hb8.mono hs6)).mono hb1.size)
  clear hw8 ho7 hb7 m5 m6 ho8 ho6 hb8 hb6
  obtain ⟨r, hr⟩ : ∃ r, andF 1 (ns.set k 2) = r := ⟨_, rfl⟩
  obtain ⟨s, hs⟩ : ∃ r, orF 0 (ns.set k 2) = r := ⟨_, rfl⟩
  obtain ⟨t, ht⟩ : ∃ r, andF 1 (ns.set k 1) = r := ⟨_, rfl⟩
  obtain ⟨u, hu⟩ : ∃ r, orF 0 (ns.set k 1) = r := ⟨_, rfl⟩
  have K4 := K1.out; rw [hr, ht] at K4
  have K5 := K2.out; rw [hs, hu] at K5
  have HR := Lib.hid hr; have HS := Lib.hid hs; have HT := Lib.hid ht; have HU := Lib.hid hu
  clear hr hs ht hu K1 K2
  have hsl : ∀ x : Int, (ns.set k x).length = ns.length := fun x => List.length_set
  have hls := hsl 2
  have hlv := hsl 1
  clear hsl
  go_wp2_with fail
  refine (and_any _ (ns.set k 2) r w8 hm HR).mono ?_
  rintro e w1 ⟨rfl, hb⟩
  replace hm := hm.below hb
  replace hn := hn.below hb
  replace hbf := hbf.trans (hb.mono hbf.size)
  clear hb
  go_wp2_with fail
  refine (or_any _ (ns.set k 2) s w1 hm HS).mono ?_
  rintro e w2 ⟨rfl, hb⟩
  replace hm := hm.below hb
  replace hn := hn.below hb
  replace hbf := hbf.trans (hb.mono hbf.size)
  clear hb
  by_cases hr2 : r = 2
  case pos =>
    subst hr2
    by_cases hs2 : s = 2
    case pos =>
      subst hs2
      go_wp2_with fail
      refine (xor_any _ (ns.set k 2) 2 w2 hm K3).mono ?_
      rintro e w3 ⟨rfl, hb⟩
      replace hm := hm.below hb
      replace hn := hn.below hb
      replace hbf := hbf.trans (hb.mono hbf.size)
      clear hb
      go_wp2_with fail
      go_ret
      exact ⟨rfl, hbf⟩
    case neg =>
      have es : (s == 2) = false := by simp [hs2]
      obtain rfl := K5.resolve_left hs2
      have qs : (s == s) = true := beq_self_eq_true _
      go_wp2_with fail
      refine (or_any _ (ns.set k 1) s w2 hn HU).mono ?_
      rintro e w3 ⟨rfl, hb⟩
      replace hm := hm.below hb
      replace hn := hn.below hb
      replace hbf := hbf.trans (hb.mono hbf.size)
      clear hb
      go_wp2_with fail
      refine (xor_any _ (ns.set k 2) 2 w3 hm K3).mono ?_
      rintro e w4 ⟨rfl, hb⟩
      replace hm := hm.below hb
      replace hn := hn.below hb
      replace hbf := hbf.trans (hb.mono hbf.size)
      clear hb
      go_wp2_with fail
      go_ret
      exact ⟨rfl, hbf⟩
  case neg =>
    have er : (r == 2) = false := by simp [hr2]
    obtain rfl := K4.resolve_left hr2
    have qr : (r == r) = true := beq_self_eq_true _
    go_wp2_with fail
    refine (and_any _ (ns.set k 1) r w2 hn HT).mono ?_
    rintro e w3 ⟨rfl, hb⟩
    replace hm := hm.below hb
    replace hn := hn.below hb
    replace hbf := hbf.trans (hb.mono hbf.size)
    clear hb
    by_cases hs2 : s = 2
    case pos =>
      subst hs2
      go_wp2_with fail
      refine (xor_any _ (ns.set k 2) 2 w3 hm K3).mono ?_
      rintro e w4 ⟨rfl, hb⟩
      replace hm := hm.below hb
      replace hn := hn.below hb
      replace hbf := hbf.trans (hb.mono hbf.size)
      clear hb
      go_wp2_with fail
      go_ret
      exact ⟨rfl, hbf⟩
    case neg =>
      have es : (s == 2) = false := by simp [hs2]
      obtain rfl := K5.resolve_left hs2
      have qs : (s == s) = true := beq_self_eq_true _
      go_wp2_with fail
      refine (or_any _ (ns.set k 1) s w3 hn HU).mono ?_
      rintro e w4 ⟨rfl, hb⟩
      replace hm := hm.below hb
      replace hn := hn.below hb
      replace hbf := hbf.trans (hb.mono hbf.size)
      clear hb
      go_wp2_with fail
      refine (xor_any _ (ns.set k 2) 2 w4 hm K3).mono ?_
      rintro e w5 ⟨rfl, hb⟩
      replace hm := hm.below hb
      replace hn := hn.below hb
      replace hbf := hbf.trans (hb.mono hbf.size)
      clear hb
      go_wp2_with fail
      go_ret
      exact ⟨rfl, hbf⟩

theorem predKleene_walk (sv : Value) (ns : List Int) (k v : Int) (w : World) (hs : IntsN .i64 w sv ns) (hm : ∀ n ∈ ns, (Lit.int .i64 n).wf = true) (w1 : (Lit.int .i64 k).wf = true) (w2 : (Lit.int .i64 v).wf = true) :
    Calls Tryd.prog 4 #[sv, .int .i64 k, .int .i64 v] w fun e w' => e = .returned (.bool true) ∧ Below w.heap.size w w' := by
  by_cases h : ns.length ≤ 40 ∧ 0 ≤ k ∧ k < (ns.length : Int) ∧ (v = 0 ∨ v = 1)
  · obtain ⟨h1, h2, h3, h4⟩ := h
    obtain ⟨n, rfl⟩ := Int.eq_ofNat_of_zero_le h2
    rcases h4 with rfl | rfl
    · exact kleene_no sv ns n w hs h1 (by omega)
    · exact kleene_yes sv ns n w hs h1 (by omega)
  · exact kleene_early sv ns k v w hs h

end Go.Proofs.YtiekehfdgbmijaaDoor
