/-
  MsgBack: the walk.
-/
import Derived.Test.YtjcldnkgidfifaaRtB
namespace Go.Proofs.Ytjcldnkgidfifaa
open Go.RowKit Go.Shelf
set_option linter.unusedVariables false
set_option linter.unusedSimpArgs false
attribute [local go_sem] Oper.semAt_some
theorem rowV_of_pats {w : World} {v : Value} {ns : List Int} (ps : List Nat) (hp : ns = ps.map (fun (n : Nat) => (n : Int))) (h : IntsI .u64 w v ns) : RowV (fun _ => False) w v (pvs ps) := by
  subst hp
  obtain ⟨ao, cap, h1, h2, h3, h4⟩ := h
  rw [List.length_map] at h1 h2
  refine ⟨ao, cap, by rw [pvs_len]; exact h1, by rw [pvs_len]; exact h2, h3, ?_⟩
  rcases h4 with h4 | ⟨b, off, h5, h6, h7⟩
  · have : ps = [] := by simpa using h4
    subst this; exact .inl rfl
  · refine .inr ⟨b, off, h5, h6, fun h => h, fun i x hx => ?_⟩
    have hi : i < ps.length := by
      rcases Nat.lt_or_ge i ps.length with h9 | h9
      · exact h9
      · rw [List.getElem?_eq_none (by rw [pvs_len]; exact h9)] at hx; cases hx
    rw [pvs_get hi] at hx
    cases hx
    rw [h7 i (by rw [List.length_map]; exact hi)]
    simp [hi]
theorem rowV_of_strs {S : Nat → Prop} {w : World} {v : Value} {ts : List (List UInt8)} (h : Strs w v ts) (hS : ∀ k, k < w.heap.size → ¬ S k) : RowV S w v (svs ts) := by
  obtain ⟨ao, cap, h1, h2, h3, h4⟩ := h
  refine ⟨ao, cap, by rw [svs_len]; exact h1, by rw [svs_len]; exact h2, h3, ?_⟩
  rcases h4 with rfl | ⟨b, off, h5, h6, h7⟩
  · exact .inl rfl
  · refine .inr ⟨b, off, h5, h6, hS b h6, fun i x hx => ?_⟩
    have hi : i < ts.length := by
      rcases Nat.lt_or_ge i ts.length with h9 | h9
      · exact h9
      · rw [List.getElem?_eq_none (by rw [svs_len]; exact h9)] at hx; cases hx
    rw [svs_get hi] at hx
    cases hx
    exact h7 i hi
theorem strs_of_owns {base : Nat} {e : TypeId} {w : World} {v : Value} {ls : List (List UInt8)} (h : Owns base e w v (svs ls)) : Strs w v ls := by
  rcases h.shape with ⟨rfl, hx⟩ | ⟨g, cap, rfl, h2, h3, h4, h5, h6, h7⟩
  · have : ls = [] := by simpa [svs] using hx
    subst this
    exact ⟨none, 0, rfl, Nat.le_refl _, Nat.zero_le _, .inl rfl⟩
  · rw [svs_len] at h4 h6 ⊢
    exact ⟨_, cap, rfl, h4, h5, .inr ⟨g, 0, rfl, h3, fun i hi => by rw [Nat.zero_add, h6 i hi, svs_get hi]⟩⟩
theorem patsN {ls : List Int} (h : ∀ n ∈ ls, (Lit.int .u64 n).wf = true) : ∃ ps : List Nat, ls = ps.map (fun (n : Nat) => (n : Int)) ∧ ∀ x ∈ ps, x < 18446744073709551616 := by
  induction ls with
  | nil => exact ⟨[], rfl, by simp⟩
  | cons x xs ih =>
    obtain ⟨ps, h1, h2⟩ := ih (fun n hn => h n (List.mem_cons_of_mem _ hn))
    have h9 := h x (List.mem_cons_self ..)
    simp only [Lit.wf, IntKind.min, IntKind.max, IntKind.signed, IntKind.bits, Bool.and_eq_true, decide_eq_true_eq] at h9
    simp at h9
    refine ⟨x.toNat :: ps, ?_, ?_⟩
    · rw [List.map_cons, ← h1, Int.toNat_of_nonneg h9.1]
    · intro y hy
      rcases List.mem_cons.1 hy with rfl | hy
      · omega
      · exact h2 y hy
/-- What MsgBack puts. -/
def backL (v : List Int) (p : List Nat) (s : List (List UInt8)) (a b : Nat) : List Fld := intsL 1 v ++ fltsL 2 p ++ textL 3 s ++ [⟨4, 0, 0, a, []⟩] ++ [⟨4, 0, 0, b, []⟩]
theorem textL_mem {num : Nat} {ts : List (List UInt8)} {f : Fld} (h : f ∈ textL num ts) : f.num = num ∧ f.kind = 2 ∧ f.data ∈ ts ∧ f = ⟨num, 2, 0, 0, f.data⟩ := by
  obtain ⟨t, ht, rfl⟩ := List.mem_map.1 h
  exact ⟨rfl, rfl, ht, rfl⟩
section
variable {v : List Int} {p : List Nat} {s : List (List UInt8)} {a b : Nat}
theorem backL_good (hv : v.length ≤ 60) (hp : p.length ≤ 60) (hs : ∀ t ∈ s, t.length ≤ 2000) (ha : a < 18446744073709551616) (hb : b < 18446744073709551616) : ∀ f ∈ backL v p s a b, goodF f := by
  intro f hf
  simp only [backL, List.mem_append, List.mem_singleton] at hf
  rcases hf with (((hf | hf) | hf) | rfl) | rfl
  · exact intsL_good (by decide) (by decide) (by omega) f hf
  · exact fltsL_good (by decide) (by decide) (by omega) f hf
  · obtain ⟨_, _, h3, h4⟩ := textL_mem hf
    rw [h4]; exact goodK2 (by decide) (by decide) (Nat.le_trans (hs _ h3) (by decide))
  · exact goodK0 (by decide) (by decide) ha
  · exact goodK0 (by decide) (by decide) hb
theorem backL_data (hv : v.length ≤ 60) (hp : p.length ≤ 60) (hs : ∀ t ∈ s, t.length ≤ 2000) : ∀ f ∈ backL v p s a b, f.data.length ≤ 60000 := by
  intro f hf
  simp only [backL, List.mem_append, List.mem_singleton] at hf
  rcases hf with (((hf | hf) | hf) | rfl) | rfl
  · rw [(intsL_data f hf).1]; have := intsD_len v; omega
  · rw [(fltsL_data f hf).1]; have := floatsD_len p; omega
  · exact Nat.le_trans (hs _ (textL_mem hf).2.2.1) (by decide)
  · exact Nat.zero_le _
  · exact Nat.zero_le _
theorem backL_len (hv : v.length ≤ 60) (hp : p.length ≤ 60) (hs : s.length ≤ 20) (ht : total s ≤ 2000) (ha : a < 18446744073709551616) (hb : b < 18446744073709551616) : ((backL v p s a b).flatMap encF).length ≤ 5000 := by
  have h1 := intsL_len (num := 1) (ls := v) (by decide) (by omega)
  have h2 := fltsL_len (num := 2) (ps := p) (by decide) (by omega)
  have h3 := textL_len (num := 3) (by decide) s (fun t ht9 => by have := total_mem ht9; omega)
  have h4 := encK0_len (num := 4) (by decide) ha
  have h5 := encK0_len (num := 4) (by decide) hb
  simp only [backL, List.flatMap_append, List.length_append, List.flatMap_cons, List.flatMap_nil, List.length_nil]
  omega
theorem filt_all {n : Nat} {num : Int} {l : List Fld} (h : ∀ f ∈ l, f.num = n) (hn : (n : Int) = num) : l.filter (fun f => decide ((f.num : Int) = num)) = l := List.filter_eq_self.2 (fun f hf => by rw [h f hf]; simp [hn])
theorem filt_none {n : Nat} {num : Int} {l : List Fld} (h : ∀ f ∈ l, f.num = n) (hn : (n : Int) ≠ num) : l.filter (fun f => decide ((f.num : Int) = num)) = [] := List.filter_eq_nil_iff.2 (fun f hf => by rw [h f hf]; simp [hn])
theorem backL_ints (hr : inR v) : ((backL v p s a b).filter (fun f => decide ((f.num : Int) = 1))).flatMap intsF = v := by
  simp only [backL, List.filter_append]
  rw [filt_all (n := 1) (num := 1) (fun f hf => (intsL_data f hf).2.2.1) rfl, filt_none (n := 2) (fun f hf => (fltsL_data f hf).2.2.1) (by decide), filt_none (n := 3) (fun f hf => (textL_mem hf).1) (by decide)]
  simp [intsL_ints hr]
theorem backL_flts (hr : ∀ x ∈ p, x < 4294967296) : ((backL v p s a b).filter (fun f => decide ((f.num : Int) = 2))).flatMap fltF = p := by
  simp only [backL, List.filter_append]
  rw [filt_none (n := 1) (fun f hf => (intsL_data f hf).2.2.1) (by decide), filt_all (n := 2) (num := 2) (fun f hf => (fltsL_data f hf).2.2.1) rfl, filt_none (n := 3) (fun f hf => (textL_mem hf).1) (by decide)]
  simp [fltsL_flts hr]
theorem backL_texts : ((backL v p s a b).filter (fun f => decide ((f.num : Int) = 3))).flatMap textF = s := by
  simp only [backL, List.filter_append]
  rw [filt_none (n := 1) (fun f hf => (intsL_data f hf).2.2.1) (by decide), filt_none (n := 2) (fun f hf => (fltsL_data f hf).2.2.1) (by decide), filt_all (n := 3) (num := 3) (fun f hf => (textL_mem hf).1) rfl]
  simp [textL_texts]
theorem backL_five : (backL v p s a b).any (fun f => decide ((f.num : Int) = 5) && decide ((f.kind : Int) = 0)) = false := by
  rw [List.any_eq_false]
  intro f hf
  have hn : f.num ≤ 4 := by
    simp only [backL, List.mem_append, List.mem_singleton] at hf
    rcases hf with (((hf | hf) | hf) | rfl) | rfl
    · rw [(intsL_data f hf).2.2.1]; decide
    · rw [(fltsL_data f hf).2.2.1]; decide
    · rw [(textL_mem hf).1]; decide
    · exact Nat.le_refl _
    · exact Nat.le_refl _
  have h5 : ¬ ((f.num : Int) = 5) := by omega
  simp [h5]
theorem backL_three : (backL v p s a b).any (fun f => decide ((f.num : Int) = 3) && decide ((f.kind : Int) = 2)) = decide (0 < s.length) := by
  rw [Bool.eq_iff_iff, List.any_eq_true, decide_eq_true_eq]
  constructor
  · rintro ⟨f, hf, hh⟩
    simp only [Bool.and_eq_true, decide_eq_true_eq] at hh
    simp only [backL, List.mem_append, List.mem_singleton] at hf
    rcases hf with (((hf | hf) | hf) | rfl) | rfl
    · have := (intsL_data f hf).2.2.1; omega
    · have := (fltsL_data f hf).2.2.1; omega
    · exact List.length_pos_of_mem (textL_mem hf).2.2.1
    · have := hh.1; simp at this
    · have := hh.1; simp at this
  · intro h
    cases s with
    | nil => simp at h
    | cons t ts => exact ⟨⟨3, 2, 0, 0, t⟩, by simp [backL, textL], by rfl⟩
end
set_option maxRecDepth 100000 in
set_option maxHeartbeats 8000000 in
theorem msgBack_walk (v0 : Value) (ls0 : List Int) (v1 : Value) (ls1 : List Int) (v2 : Value) (ls2 : List (List UInt8)) (u : Int) (w : World) (hs0 : IntsN .i64 w v0 ls0) (hm0 : ∀ n ∈ ls0, (Lit.int .i64 n).wf = true) (hs1 : IntsN .u64 w v1 ls1) (hm1 : ∀ n ∈ ls1, (Lit.int .u64 n).wf = true) (hs2 : StrsN w v2 ls2) (hm2 : ∀ l ∈ ls2, l.length ≤ maxLen) (w3 : (Lit.int .u64 u).wf = true) :
    Calls Try.prog 5 #[v0, v1, v2, .int .u64 u] w fun e w' => e = .returned (.bool true) ∧ Below w.heap.size w w' := by
  have HR := Lib.hid (inR_of hm0)
  obtain ⟨ps, rfl, hp64⟩ := patsN hm1
  obtain ⟨uu, rfl, hu64⟩ : ∃ uu : Nat, u = (uu : Int) ∧ uu < 18446744073709551616 := by
    obtain ⟨l, h1, h2⟩ := patsN (ls := [u]) (by intro n hn; simp at hn; subst hn; exact w3)
    cases l with
    | nil => simp at h1
    | cons a l9 => simp at h1; exact ⟨a, h1.1, h2 a (List.mem_cons_self ..)⟩
  clear hm0 hm1 w3
  have H64 := Lib.hid hp64
  clear hp64
  have HS0 := Lib.hid hs0.1
  have HS1 := Lib.hid hs1.1
  have HS2 := Lib.hid hs2.1
  have HM2 := Lib.hid hm2
  obtain ⟨ao0, cap0, rfl, hc01, hc02, hc03⟩ := hs0.1
  obtain ⟨ao1, cap1, rfl, hc11, hc12, hc13⟩ := hs1.1
  obtain ⟨ao2, cap2, rfl, hc21, hc22, hc23⟩ := hs2.1
  clear hs0 hs1 hs2 hc03 hc23 hm2
  simp only [List.length_map] at hc11 hc12 hc13 HS1 ⊢
  go_enter Try.func5, Try.ntmps5
  by_cases hl0n : 60 < ls0.length
  · have hl0 : (60 : Int) < (ls0.length : Int) := by omega
    go_wp2_with fail
    refine (alive11_any _).mono ?_
    rintro e w1 ⟨rfl, hb⟩
    go_wp2_with fail
    go_ret
    exact ⟨rfl, hb⟩
  have hl0 : ¬ (60 : Int) < (ls0.length : Int) := by omega
  by_cases hl1n : 60 < ps.length
  · have hl1 : (60 : Int) < (ps.length : Int) := by omega
    go_wp2_with fail
    refine (alive11_any _).mono ?_
    rintro e w1 ⟨rfl, hb⟩
    go_wp2_with fail
    go_ret
    exact ⟨rfl, hb⟩
  have hl1 : ¬ (60 : Int) < (ps.length : Int) := by omega
  go_wp2_with fail
  refine (short_any 20 2000 _ ls2 w HS2.out (by decide) (by decide) HM2.out).mono ?_
  rintro e w1 ⟨rfl, hb1⟩
  clear hc13
  have hrv := rowV_of_pats ps rfl HS1.out
  have hcp : ∀ i, i < ps.length → ∃ gb off, ao1 = some ⟨gb, off, none⟩ ∧ gb < w.heap.size ∧ w.cell? ⟨gb, off + i, none⟩ = some (.int .u64 ((ps[i]?.getD 0 : Nat) : Int)) := by
    intro i hi
    obtain ⟨ao9, cap9, h9, _, _, hcells⟩ := hrv
    rcases hcells with h8 | ⟨gb, off, h81, hgb, hns, hcb⟩
    · have := pvs_get hi; rw [h8] at this; simp at this
    · injection h9 with h91 _ _
      exact ⟨gb, off, h91.trans h81, hgb, hcb i _ (pvs_get hi)⟩
  by_cases hsh : ls2.length ≤ 20 ∧ total ls2 ≤ 2000
  · obtain ⟨hs20, hs2000⟩ := hsh
    rw [shortB_yes hs20 hs2000]
    go_wp2_with fail
    refine (alive11_any _).mono ?_
    rintro e w2 ⟨rfl, hb2⟩
    have hb12 := hb1.trans (hb2.mono hb1.size)
    clear hb1 hb2
    go_wp2_with fail
    go_loopg [9] ps.length (fun g iv wr => ∃ (i : Nat), i + g = ps.length ∧ iv = .int .i64 (i : Int) ∧ Hid (∀ x ∈ ps.take i, x < 4294967296) ∧ Below w.heap.size w wr)
    case atStart => exact ⟨0, by omega, rfl, Lib.hid (by simp), hb12⟩
    clear hb12
    case round =>
      obtain ⟨i, hi, rfl, HN, hb⟩ := hrel
      by_cases hil : i < ps.length
      · obtain ⟨gb, off, rfl, hgb, hc9⟩ := hcp i hil
        have es := (hb.cell (p := ⟨gb, off + i, none⟩) hgb).trans hc9
        have htk : ps.take (i + 1) = ps.take i ++ [ps[i]?.getD 0] := by rw [List.take_succ_eq_append_getElem hil, List.getElem?_eq_getElem hil]; rfl
        have HTK := Lib.hid htk
        clear htk hc9 hcp
        generalize ps[i]?.getD 0 = x at *
        have q1 : (i : Int) < (ps.length : Int) := by omega
        have q2 : (0 : Int) ≤ (i : Int) := by omega
        by_cases hx : 4294967296 ≤ x
        · have hxi : (4294967296 : Int) ≤ (x : Int) := by omega
          go_wp2_with fail
          go_ret
          exact ⟨rfl, hb⟩
        · have hxi : ¬ (4294967296 : Int) ≤ (x : Int) := by omega
          go_wp2_with fail
          go_roundg (gk - 1)
          case measure => omega
          case rel => exact ⟨i + 1, by omega, by go_num, Lib.hid (by rw [HTK.out]; intro y hy; rcases List.mem_append.1 hy with h9 | h9; exact HN.out y h9; simp at h9; omega), hb⟩
      · have q1 : ¬ (i : Int) < (ps.length : Int) := by omega
        have hw := HN.out
        rw [List.take_of_length_le (by omega)] at hw
        have HW := Lib.hid hw
        clear hw HN
        go_wp2_with fail
        refine (new_any wr).mono ?_
        rintro e w3 ⟨p3, rfl, hm3, hb3⟩
        go_wp2_with fail
        refine (putInts_any wr.heap.size p3 (.slice none 0 0) _ [] 0 1 ls0 w3 hm3 ⟨_, rowV_of_ints (HS0.out.below (hb.trans (hb3.mono hb.size)))⟩ (by omega) (by decide)).mono ?_
        rintro e w4 ⟨rfl, hst⟩
        have hb4 := hst.belowIn (a := wr) hb3 (fun k hk => (hm3.ow k hk).1)
        obtain ⟨v4, hm4, _, _⟩ := hst
        have e4 : intsM ([], 0) 1 ls0 = (mk0 (intsL 1 ls0), 0) := intsM_good (l := []) (num := 1) (ls := ls0) (by decide) (by decide) (by omega)
        rw [e4] at hm4
        simp only at hm4
        have hil0 : (intsL 1 ls0).length ≤ 1 := by unfold intsL; split <;> simp
        have hfl0 : (fltsL 2 ps).length ≤ 1 := by unfold fltsL; split <;> simp
        have hmk : ∀ l : List Fld, (mk0 l).length = l.length := fun l => by simp [mk0]
        have HMK := Lib.hid hmk
        clear hmk e4 hm3 hb3
        go_wp2_with fail
        refine (putFloats_any wr.heap.size p3 v4 _ (mk0 (intsL 1 ls0)) 0 2 ps w4 hm4 ⟨_, hrv.kept (hb.trans (hb4.mono hb.size))⟩ H64.out (by omega) (by rw [HMK.out]; omega)).mono ?_
        rintro e w5 ⟨rfl, hst⟩
        have hb5 := hst.belowIn (a := wr) hb4 (fun k hk => (hm4.ow k hk).1)
        obtain ⟨v5, hm5, _, _⟩ := hst
        have e5 : floatsM (mk0 (intsL 1 ls0), 0) 2 ps = (mk0 (intsL 1 ls0 ++ fltsL 2 ps), 0) := floatsM_good (num := 2) (by decide) (by decide) (by omega) HW.out
        rw [e5] at hm5
        simp only at hm5
        clear e5 hm4 hb4
        have HTM : Hid (∀ t ∈ ls2, t.length ≤ 2000) := Lib.hid (fun t ht => Nat.le_trans (total_mem ht) hs2000)
        have hrt := (rowV_of_strs (S := Ow p3 v5) HS2.out (fun k hk ho => by have := (hm5.ow k ho).1; have := hb.size; omega)).kept (hb.trans (hb5.mono hb.size))
        go_wp2_with fail
        refine (putText_any wr.heap.size p3 v5 _ (mk0 (intsL 1 ls0 ++ fltsL 2 ps)) 0 3 ls2 w5 hm5 hrt (fun x hx => Nat.le_trans (HTM.out x hx) (by decide)) (by rw [HMK.out, List.length_append]; omega)).mono ?_
        rintro e w6 ⟨rfl, hst⟩
        have hb6 := hst.belowIn (a := wr) hb5 (fun k hk => (hm5.ow k hk).1)
        obtain ⟨v6, hm6, _, _⟩ := hst
        have e6 : textsM (mk0 (intsL 1 ls0 ++ fltsL 2 ps), 0) 3 ls2 = (mk0 (intsL 1 ls0 ++ fltsL 2 ps ++ textL 3 ls2), 0) := textsM_good (num := 3) (by decide) (by decide) ls2 _ (fun t ht => Nat.le_trans (HTM.out t ht) (by decide))
        rw [e6] at hm6
        simp only at hm6
        have htl0 : (textL 3 ls2).length = ls2.length := by simp [textL]
        clear e6 hm5 hb5 hrt
        obtain ⟨a, ha⟩ : ∃ a, a = (uu + 1) % 18446744073709551616 := ⟨_, rfl⟩
        have ha64 : a < 18446744073709551616 := by omega
        have hwr : IntKind.u64.wrap ((uu : Int) + 1) = (a : Int) := by rw [IntKind.wrap_u64, ha]; omega
        clear ha
        go_wp2_with fail
        refine (putUint_any wr.heap.size p3 v6 (mk0 (intsL 1 ls0 ++ fltsL 2 ps ++ textL 3 ls2)) 0 4 a w6 hm6 ha64 (by rw [HMK.out]; simp only [List.length_append]; omega)).mono ?_
        rintro e w7 ⟨rfl, hst⟩
        have hb7 := hst.belowIn (a := wr) hb6 (fun k hk => (hm6.ow k hk).1)
        obtain ⟨v7, hm7, _, _⟩ := hst
        have e7 : stepM (mk0 (intsL 1 ls0 ++ fltsL 2 ps ++ textL 3 ls2), 0) 4 0 a [] = (mk0 (intsL 1 ls0 ++ fltsL 2 ps ++ textL 3 ls2 ++ [⟨4, 0, 0, a, []⟩]), 0) := step_good (f := ⟨4, 0, 0, a, []⟩) (goodK0 (by decide) (by decide) ha64)
        rw [e7] at hm7
        simp only at hm7
        clear e7 hm6 hb6 hwr
        go_wp2_with fail
        refine (putUint_any wr.heap.size p3 v7 (mk0 (intsL 1 ls0 ++ fltsL 2 ps ++ textL 3 ls2 ++ [⟨4, 0, 0, a, []⟩])) 0 4 uu w7 hm7 hu64 (by rw [HMK.out]; simp only [List.length_append, List.length_singleton]; omega)).mono ?_
        rintro e w8 ⟨rfl, hst⟩
        have hb8 := hst.belowIn (a := wr) hb7 (fun k hk => (hm7.ow k hk).1)
        obtain ⟨v8, hm8, _, _⟩ := hst
        have e8 : stepM (mk0 (intsL 1 ls0 ++ fltsL 2 ps ++ textL 3 ls2 ++ [⟨4, 0, 0, a, []⟩]), 0) 4 0 uu [] = (mk0 (backL ls0 ps ls2 a uu), 0) := step_good (f := ⟨4, 0, 0, uu, []⟩) (goodK0 (by decide) (by decide) hu64)
        rw [e8] at hm8
        simp only at hm8
        have hb18 := hb.trans (hb8.mono hb.size)
        have HG := Lib.hid (backL_good (v := ls0) (p := ps) (s := ls2) (a := a) (b := uu) (by omega) (by omega) HTM.out ha64 hu64)
        have HD := Lib.hid (backL_data (v := ls0) (p := ps) (s := ls2) (a := a) (b := uu) (by omega) (by omega) HTM.out)
        have hlen := backL_len (v := ls0) (p := ps) (s := ls2) (a := a) (b := uu) (by omega) (by omega) hs20 hs2000 ha64 hu64
        have HL : Hid (((backL ls0 ps ls2 a uu).flatMap encF).length ≤ 60000) := Lib.hid (by omega)
        have hbl : (backL ls0 ps ls2 a uu).length ≤ 1000000 := by unfold backL; simp only [List.length_append, List.length_singleton]; omega
        clear e8 hm7 hb7 hb8 hlen
        go_wp2_with fail
        refine (bytes_good hm8 HG.out HD.out hbl HL.out).mono ?_
        rintro e w9 ⟨rfl, hb9⟩
        have hb19 := hb18.trans (hb9.mono hb18.size)
        clear hm8 hb9 hb18 hbl
        go_wp2_with fail
        refine (parse_good HG.out HL.out _).mono ?_
        rintro e w10 ⟨⟨p10, v10, rfl, hm10⟩, hb10⟩
        have hb110 := hb19.trans (hb10.mono hb19.size)
        clear hb10 hb19 hb
        go_wp2_with fail
        obtain ⟨w11, hw11⟩ : ∃ w11, w11 = w10.alloc (.cells #[.int .i64 0, .int .i64 0, .string ⟨#[]⟩] 54) := ⟨_, rfl⟩
        have hb11 : Below w10.heap.size w10 w11 := by rw [hw11]; exact (Below.refl _ _).alloc (Nat.le_refl _) _
        have hb111 := hb110.trans (hb11.mono hb110.size)
        have hm11 := hm10.kept hb11
        rw [← hw11]
        clear hw11 hm10 hb110 hb11
        refine (ints_good 1 HG.out HL.out HD.out hm11 (fun f hf h1 h2 => ?_) ls0 (backL_ints HR.out) (by omega)).mono ?_
        · simp only [backL, List.mem_append, List.mem_singleton] at hf
          rcases hf with (((hf | hf) | hf) | rfl) | rfl
          · rw [(intsL_data f hf).1, getInts_intsD ls0 HR.out]; simp
          · have := (fltsL_data f hf).2.2.1; omega
          · have := (textL_mem hf).1; omega
          · simp at h1
          · simp at h1
        rintro e w12 ⟨⟨v12, rfl, hI12⟩, hb12⟩
        have hb112 := hb111.trans (hb12.mono hb111.size)
        have hm12 := hm11.kept hb12
        clear hm11 hb12 hb111
        go_wp2_with fail
        obtain ⟨w13, hw13⟩ : ∃ w13, w13 = w12.alloc (.cells #[.int .i64 0, .int .i64 0, .string ⟨#[]⟩] 54) := ⟨_, rfl⟩
        have hb13 : Below w12.heap.size w12 w13 := by rw [hw13]; exact (Below.refl _ _).alloc (Nat.le_refl _) _
        have hcA : ∀ j x, [(.int .i64 0 : Value), .int .i64 0, .string ⟨#[]⟩][j]? = some x → w13.cell? ⟨w12.heap.size, j, none⟩ = some x := fun j x hj => by rw [hw13]; exact (BoxL.new w12 [.int .i64 0, .int .i64 0, .string ⟨#[]⟩] 54).cell j x hj
        have hc13 := hcA 0 _ rfl
        obtain ⟨p13, hp13⟩ : ∃ p, p = w12.heap.size := ⟨_, rfl⟩
        have hb113 := hb112.trans (hb13.mono hb112.size)
        have hm13 := hm12.kept hb13
        replace hI12 := hI12.below hb13
        rw [← hw13]
        rw [← hp13] at hc13 ⊢
        clear hw13 hm12 hb13 hb112 hcA hp13
        refine (floats_good 2 HG.out HL.out HD.out hm13 (fun f hf h1 h2 => ?_) ps (backL_flts HW.out) (by omega)).mono ?_
        · simp only [backL, List.mem_append, List.mem_singleton] at hf
          rcases hf with (((hf | hf) | hf) | rfl) | rfl
          · have := (intsL_data f hf).2.2.1; omega
          · rw [(fltsL_data f hf).1, floatsD_len]; omega
          · have := (textL_mem hf).1; omega
          · simp at h1
          · simp at h1
        rintro e w14 ⟨⟨v14, rfl, hO14⟩, hb14⟩
        have hb114 := hb113.trans (hb14.mono hb113.size)
        have hm14 := hm13.kept hb14
        replace hI12 := hI12.below hb14
        replace hc13 := (hb14.cell (p := ⟨p13, 0, none⟩) (World.block_lt_of_cell? w13 ⟨p13, 0, none⟩ hc13)).trans hc13
        have hpv : pvs ps = ivals .u64 (ps.map (fun (n : Nat) => (n : Int))) := by simp [pvs, ivals]
        rw [hpv] at hO14
        have hI14 := (ints_of_owns hO14).1
        clear hm13 hb14 hb113 hO14 hpv
        go_wp2_with fail
        obtain ⟨w15, hw15⟩ : ∃ w15, w15 = w14.alloc (.cells #[.int .i64 0, .int .i64 0, .string ⟨#[]⟩] 54) := ⟨_, rfl⟩
        have hb15 : Below w14.heap.size w14 w15 := by rw [hw15]; exact (Below.refl _ _).alloc (Nat.le_refl _) _
        have hc15 : w15.cell? ⟨w14.heap.size, 0, none⟩ = some (.int .i64 0) := by rw [hw15]; exact (BoxL.new w14 [.int .i64 0, .int .i64 0, .string ⟨#[]⟩] 54).cell 0 _ rfl
        obtain ⟨p15, hp15⟩ : ∃ p, p = w14.heap.size := ⟨_, rfl⟩
        have hb115 := hb114.trans (hb15.mono hb114.size)
        have hm15 := hm14.kept hb15
        replace hI12 := hI12.below hb15
        replace hI14 := hI14.below hb15
        replace hc13 := (hb15.cell (p := ⟨p13, 0, none⟩) (World.block_lt_of_cell? w14 ⟨p13, 0, none⟩ hc13)).trans hc13
        rw [← hw15]
        rw [← hp15] at hc15 ⊢
        clear hw15 hm14 hb15 hb114 hp15
        have HML := Lib.hid (msgL_len ((backL ls0 ps ls2 a uu).flatMap encF))
        obtain ⟨q, hq⟩ := last_enc (l := intsL 1 ls0 ++ fltsL 2 ps ++ textL 3 ls2 ++ [⟨4, 0, 0, a, []⟩]) (f := ⟨4, 0, 0, uu, []⟩) (num := 4) (kind := 0) HG.out HL.out rfl rfl
        refine (uint_at 4 hm15 HML.out _ (Lib.hid hq)).mono ?_
        rintro e w16 ⟨rfl, hb16⟩
        simp only [Option.getD_some, Option.isSome_some]
        have hb116 := hb115.trans (hb16.mono hb115.size)
        have hm16 := hm15.kept hb16
        replace hI12 := hI12.below hb16
        replace hI14 := hI14.below hb16
        replace hc13 := (hb16.cell (p := ⟨p13, 0, none⟩) (World.block_lt_of_cell? w15 ⟨p13, 0, none⟩ hc13)).trans hc13
        replace hc15 := (hb16.cell (p := ⟨p15, 0, none⟩) (World.block_lt_of_cell? w15 ⟨p15, 0, none⟩ hc15)).trans hc15
        clear hm15 hb16 hb115 hq
        go_wp2_with fail
        obtain ⟨o5, ho5⟩ : ∃ o, lastL (msgL ((backL ls0 ps ls2 a uu).flatMap encF)) 5 0 = o := ⟨_, rfl⟩
        have h5n : o5.isSome = false := by rw [← ho5, last_some HG.out HL.out]; exact backL_five
        refine (uint_at 5 hm16 HML.out o5 (Lib.hid ho5)).mono ?_
        rintro e w17 ⟨rfl, hb17⟩
        rw [h5n]
        have hb117 := hb116.trans (hb17.mono hb116.size)
        have hm17 := hm16.kept hb17
        replace hI12 := hI12.below hb17
        replace hI14 := hI14.below hb17
        replace hc13 := (hb17.cell (p := ⟨p13, 0, none⟩) (World.block_lt_of_cell? w16 ⟨p13, 0, none⟩ hc13)).trans hc13
        replace hc15 := (hb17.cell (p := ⟨p15, 0, none⟩) (World.block_lt_of_cell? w16 ⟨p15, 0, none⟩ hc15)).trans hc15
        clear hm16 hb17 hb116 h5n ho5
        go_wp2_with fail
        obtain ⟨o3, ho3⟩ : ∃ o, lastL (msgL ((backL ls0 ps ls2 a uu).flatMap encF)) 3 2 = o := ⟨_, rfl⟩
        have HO3 := Lib.hid ho3
        refine (text_at 3 hm17 HML.out o3 HO3).mono ?_
        rintro e w18 ⟨rfl, hb18⟩
        have hb118 := hb117.trans (hb18.mono hb117.size)
        have hm18 := hm17.kept hb18
        replace hI12 := hI12.below hb18
        have HI14 := Lib.hid (hI14.below hb18)
        replace hc13 := (hb18.cell (p := ⟨p13, 0, none⟩) (World.block_lt_of_cell? w17 ⟨p13, 0, none⟩ hc13)).trans hc13
        replace hc15 := (hb18.cell (p := ⟨p15, 0, none⟩) (World.block_lt_of_cell? w17 ⟨p15, 0, none⟩ hc15)).trans hc15
        have HI12 := Lib.hid hI12
        clear hm17 hb18 hb117 ho3 hI12 hI14
        by_cases hz : 0 < ls2.length
        · have hzi : (0 : Int) < (ls2.length : Int) := by omega
          have hh : o3.isSome = true := by rw [← HO3.out, last_some HG.out HL.out, backL_three]; exact decide_eq_true hz
          rw [hh]
          clear hh HO3
          go_wp2_with fail
          refine (same_ints v12 _ ls0 w18 HI12.out (HS0.out.below hb118)).mono ?_
          rintro e w19 ⟨rfl, hb19⟩
          have hb119 := hb118.trans (hb19.mono hb118.size)
          replace hc15 := (hb19.cell (p := ⟨p15, 0, none⟩) (World.block_lt_of_cell? w18 ⟨p15, 0, none⟩ hc15)).trans hc15
          go_wp2_with fail
          refine (same_pats v14 _ (ps.map (fun (n : Nat) => (n : Int))) w19 (HI14.out.below hb19) (HS1.out.below hb119)).mono ?_
          rintro e w20 ⟨rfl, hb20⟩
          have hb120 := hb119.trans (hb20.mono hb119.size)
          have hm20 := (hm18.kept hb19).kept hb20
          clear hb118
          go_wp2_with fail
          refine (texts_good 3 HG.out HL.out hm20 ls2 backL_texts (by omega)).mono ?_
          rintro e w21 ⟨⟨v21, rfl, hO21⟩, hb21⟩
          have hb121 := hb120.trans (hb21.mono hb120.size)
          have hS21 := strs_of_owns hO21
          clear hO21 hm20 hb120 hb119
          go_wp2_with fail
          refine (same_texts v21 _ ls2 w21 hS21 (HS2.out.below hb121)).mono ?_
          rintro e w22 ⟨rfl, hb22⟩
          go_wp2_with fail
          go_ret
          exact ⟨rfl, hb121.trans (hb22.mono hb121.size)⟩
        · have hzi : ¬ (0 : Int) < (ls2.length : Int) := by omega
          have hh : o3.isSome = false := by rw [← HO3.out, last_some HG.out HL.out, backL_three]; exact decide_eq_false hz
          rw [hh]
          clear hh HO3
          go_wp2_with fail
          refine (same_ints v12 _ ls0 w18 HI12.out (HS0.out.below hb118)).mono ?_
          rintro e w19 ⟨rfl, hb19⟩
          have hb119 := hb118.trans (hb19.mono hb118.size)
          replace hc15 := (hb19.cell (p := ⟨p15, 0, none⟩) (World.block_lt_of_cell? w18 ⟨p15, 0, none⟩ hc15)).trans hc15
          go_wp2_with fail
          refine (same_pats v14 _ (ps.map (fun (n : Nat) => (n : Int))) w19 (HI14.out.below hb19) (HS1.out.below hb119)).mono ?_
          rintro e w20 ⟨rfl, hb20⟩
          have hb120 := hb119.trans (hb20.mono hb119.size)
          have hm20 := (hm18.kept hb19).kept hb20
          clear hb118
          go_wp2_with fail
          refine (texts_good 3 HG.out HL.out hm20 ls2 backL_texts (by omega)).mono ?_
          rintro e w21 ⟨⟨v21, rfl, hO21⟩, hb21⟩
          have hb121 := hb120.trans (hb21.mono hb120.size)
          have hS21 := strs_of_owns hO21
          clear hO21 hm20 hb120 hb119
          go_wp2_with fail
          refine (same_texts v21 _ ls2 w21 hS21 (HS2.out.below hb121)).mono ?_
          rintro e w22 ⟨rfl, hb22⟩
          go_wp2_with fail
          go_ret
          exact ⟨rfl, hb121.trans (hb22.mono hb121.size)⟩
  · rw [shortB_no (by omega)]
    go_wp2_with fail
    refine (alive11_any _).mono ?_
    rintro e w2 ⟨rfl, hb2⟩
    go_wp2_with fail
    go_ret
    exact ⟨rfl, hb1.trans (hb2.mono hb1.size)⟩
end Go.Proofs.Ytjcldnkgidfifaa
