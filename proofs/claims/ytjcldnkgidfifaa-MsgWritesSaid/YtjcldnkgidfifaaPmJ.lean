/-
  pmsg: walks (10): Texts.
-/
import Derived.Test.YtjcldnkgidfifaaPmI
namespace Go.Proofs.Ytjcldnkgidfifaa
open Go.RowKit Go.Shelf
set_option linter.unusedVariables false
set_option linter.unusedSimpArgs false
attribute [local go_sem] Oper.semAt_some
theorem E_strs : Elem Try.prog 26 9 (.string ⟨#[]⟩) 16 := elem_of Try.underlying26 (by kernel_rfl) rfl
def textOf (x : Fld × Int) : List (List UInt8) := if x.1.kind = 2 then [x.1.data] else []
def textsE (l : List (Fld × Int)) : List (List UInt8) := l.flatMap textOf
theorem textsE_snoc (l : List (Fld × Int)) (x : Fld × Int) : textsE (l ++ [x]) = textsE l ++ textOf x := by simp [textsE]
theorem textsE_prefix {a b : List (Fld × Int)} (h : a <+: b) : (textsE a).length ≤ (textsE b).length := by
  obtain ⟨c, rfl⟩ := h
  unfold textsE; rw [List.flatMap_append, List.length_append]; omega
theorem svs_len (l : List (List UInt8)) : (svs l).length = l.length := by simp [svs]
theorem svs_app (l m : List (List UInt8)) : svs (l ++ m) = svs l ++ svs m := by simp [svs]
set_option maxRecDepth 100000 in
set_option maxHeartbeats 8000000 in
theorem texts_walk (num : Int) (mo : Option Addr) (xs : List (Fld × Int)) (P : Nat → Prop) (w : World)
    (hit : ∀ w0 : World, Below w.heap.size w w0 → ∀ bm bn B, w0.cell? ⟨bm, 0, none⟩ = some (.pointer mo) → w0.cell? ⟨bn, 0, none⟩ = some (.int .i64 num) → IterA Try.prog 52 #[.pointer (some ⟨bm, 0, none⟩), .pointer (some ⟨bn, 0, none⟩)] MEnc xs B (KeepP fun k => P k ∨ k = bm ∨ k = bn) w0)
    (hP : ∀ k, P k → k < w.heap.size) (hcount : (textsE xs).length ≤ 1000000) :
    Calls Try.prog 33 #[.pointer mo, .int .i64 num] w fun e' w' => (∃ v, e' = .returned v ∧ Owns w.heap.size 9 w' v (svs (textsE xs))) ∧ Below w.heap.size w w' := by
  refine (callsIn_wide (n := 0)).1 ?_
  refine callsIn_of_wp_marks Try.func33 rfl (by trivial) ?_ rfl
  simp only [Try.ntmps33, List.size_toArray, List.length_cons, List.length_nil, Nat.reduceAdd, Nat.reduceSub, Array.replicate_succ, Array.replicate_zero, List.push_toArray, List.append_toArray, List.nil_append, List.cons_append]
  gi_wp2_with fail
  refine ⟨trivial, rfl, callsIn_wide.2 ((meach_any mo num _).mono ?_)⟩
  rintro e w1 ⟨rfl, rfl⟩
  obtain ⟨w0, hw0⟩ : ∃ w0, w0 = (((w.alloc (.cells #[.slice none 0 0] 26)).alloc (.cells #[.pointer mo] 31)).alloc (.cells #[.int .i64 num] 3)) := ⟨_, rfl⟩
  have hbel : Below w.heap.size w w0 := by
    rw [hw0]; exact (((Below.refl _ w).alloc (Nat.le_refl _) _).alloc (by simp <;> omega) _).alloc (by simp <;> omega) _
  have hsz0 : w0.heap.size = w.heap.size + 3 := by rw [hw0]; simp
  obtain ⟨po, hpo⟩ : ∃ p, p = w.heap.size := ⟨_, rfl⟩
  obtain ⟨pm, hpm⟩ : ∃ p, p = w.heap.size + 1 := ⟨_, rfl⟩
  obtain ⟨pn, hpn⟩ : ∃ p, p = w.heap.size + 1 + 1 := ⟨_, rfl⟩
  have hbo : BoxL w0 po [.slice none 0 0] := by rw [hw0, hpo]; exact BoxL.of1 (by go_simp) (by go_simp)
  have hcm : w0.cell? ⟨pm, 0, none⟩ = some (.pointer mo) := by rw [hw0, hpm]; go_simp
  have hcn : w0.cell? ⟨pn, 0, none⟩ = some (.int .i64 num) := by rw [hw0, hpn]; go_simp
  have hit0 := hit w0 hbel pm pn w.heap.size hcm hcn
  have HW := Lib.hid hw0
  clear hw0 hit
  gi_wp2_with fail
  rw [← HW.out]
  rw [← hpn, ← hpm, ← hpo]
  clear HW
  have HQ : w.heap.size ≤ po ∧ po < pm ∧ pm < pn ∧ pn < w0.heap.size := by omega
  clear hpo hpm hpn hsz0
  obtain ⟨q3, q4, q4b, q5⟩ := HQ
  have hKP : ∀ k, (P k ∨ k = pm ∨ k = pn) → k < w0.heap.size := fun k hk => by
    rcases hk with h | h | h
    · exact Nat.lt_of_lt_of_le (hP k h) hbel.size
    · omega
    · omega
  have hKo : ∀ k, (P k ∨ k = pm ∨ k = pn) → k ≠ po := fun k hk => by
    rcases hk with h | h | h
    · have := hP k h; omega
    · omega
    · omega
  refine wp_rangeA (gf := 52) (lb := #[.pointer (some ⟨pm, 0, none⟩), .pointer (some ⟨pn, 0, none⟩)]) rfl enters_meach1 hit0 (fun A C D => KeepP.trans) (fun A C h => KeepP.ext hKP h) (fun W v x h => by rw [h]; rfl) (by omega)
    (fun pre S W => ∃ v, (S = fun k => k = po ∨ v.ownBlock = some k) ∧ BoxL W po [v] ∧ Owns w0.heap.size 9 W v (svs (textsE pre)) ∧ Below w.heap.size w W ∧ w0.heap.size ≤ W.heap.size)
    (fun c pre S W => False)
    ?_ ?_ (fun k => k = po) (fun k hk => ⟨by omega, by omega⟩) ?_
    (fun x a' W => ∃ b5, po < b5 ∧ BoxL W b5 (mcells x) ∧ a' = { tmps := #[.pointer mo, .int .i64 num, undef, undef, .slice none 0 0, .pointer (some ⟨po, 0, none⟩), .pointer (some ⟨b5, 0, none⟩), .pointer mo, .int .i64 num, .func (.func 52) #[] #[.pointer (some ⟨pm, 0, none⟩), .pointer (some ⟨pn, 0, none⟩)], mfV x, undef, undef, undef, undef, undef, undef, undef, undef, undef, undef, undef], defers := [] })
    ?_ ?assign ?body ?done ?stop
  case assign =>
    rintro l pre x v S W K hi hnv hpre hK
    obtain rfl : v = #[mfV x] := hnv
    gi_wp2
    have hb : Below W.heap.size W (W.alloc (.cells #[.int .i64 (x.1.num : Int), .int .i64 (x.1.kind : Int), .int .i64 (x.1.place : Int), .int .u64 (x.1.val : Int), .string ⟨x.1.data.toArray⟩, .int .i64 x.2] 81)) := (Below.refl _ W).alloc (Nat.le_refl _) _
    obtain ⟨v', rfl, hBo, hO, hB, hsz⟩ := hi
    refine hK _ _ hb ⟨v', rfl, hBo.kept hb, hO.kept hb, hB.trans (hb.mono hB.size), Nat.le_trans hsz hb.size⟩ ⟨W.heap.size, hBo.lt, BoxL.of6 (by go_simp) (by go_simp) (by go_simp) (by go_simp) (by go_simp) (by go_simp) (by go_simp) (by go_simp) (by go_simp) (by go_simp) (by go_simp) (by go_simp), rfl⟩
  case body =>
    rintro l pre x a' S W ⟨v, rfl, hBo, hO, hB, hsz⟩ ⟨b5, hq5, hB5, rfl⟩ hpre hS
    obtain ⟨f, dp⟩ := x
    obtain ⟨ao, cap, rfl, hcap, hcapm, hnil⟩ := hO.slice
    have hlen0 := svs_len (textsE pre)
    have hpl := textsE_prefix hpre
    rw [textsE_snoc, List.length_append] at hpl
    have hnepo : (Value.slice ao (svs (textsE pre)).length cap).ownBlock ≠ some po := fun e9 => by have := (hO.ltO po e9).1; omega
    have fin : ∀ (W' : World) (v' : Value) (a9 : Act), Grow w0.heap.size po 9 W W' (.slice ao (svs (textsE pre)).length cap) v' (svs (textsE (pre ++ [(f, dp)]))) →
        postS (KeepP fun k => P k ∨ k = pm ∨ k = pn) (fun pre S W => ∃ v, (S = fun k => k = po ∨ v.ownBlock = some k) ∧ BoxL W po [v] ∧ Owns w0.heap.size 9 W v (svs (textsE pre)) ∧ Below w.heap.size w W ∧ w0.heap.size ≤ W.heap.size) (fun c pre S W => False) (pre ++ [(f, dp)]) (fun k => k = po ∨ (Value.slice ao (svs (textsE pre)).length cap).ownBlock = some k) W .normal a9 W' := by
      intro W' v' a9 hG
      exact ⟨_, ⟨v', rfl, hG.box, hG.own, hG.below hO hB (by omega) (by have := hbel.size; omega) hB.size, Nat.le_trans hsz hG.foot.size⟩, hG.foot, hG.top, fun k hk hlt => hG.same hO hlt (hKo k hk) (hKP k hk)⟩
    have FIN := Lib.hid fin
    clear fin
    rw [textsE_snoc, svs_app] at FIN
    have HL0 := Lib.hid hlen0
    clear hlen0
    have e51 := hB5.cell 1 _ rfl
    have e54 := hB5.cell 4 _ rfl
    have eo := hBo.cell 0 _ rfl
    have fo := hBo.free 0 (by simp)
    simp only at e51 e54
    by_cases hk2 : f.kind = 2
    · have hk2i : ((f.kind : Nat) : Int) = 2 := by omega
      have hi : textOf (f, dp) = [f.data] := by unfold textOf; rw [if_pos hk2]
      rw [hi, List.length_singleton] at hpl
      rw [hi] at FIN
      have hs1 : svs [f.data] = [.string ⟨f.data.toArray⟩] := rfl
      rw [hs1] at FIN
      clear hi hk2 hs1
      gi_wp2_with (gi_at_builtin; refine append1In E_strs hO rfl rfl rfl rfl rfl (by rw [HL0.out]; omega) (by rw [HL0.out]; unfold maxLen; omega) (by omega) ?_; intro v' w2 hO1 hb1 hg1 ho1 hp1; obtain ⟨ao', cap', rfl, hcap', hcapm', hnil'⟩ := hO1.slice; have hBo1 := hBo.grown hg1 hnepo; have eo1 := hBo1.cell 0 _ rfl; have fo1 := hBo1.free 0 (by simp))
      have hG := Grow.mk' hO1 hg1 ho1 hBo hnepo
      simp only [List.length_append, List.length_singleton] at hG
      exact FIN.out _ _ _ hG
    · have hk2i : ¬ ((f.kind : Nat) : Int) = 2 := by omega
      have hi : textOf (f, dp) = [] := by unfold textOf; rw [if_neg hk2]
      rw [hi, show svs [] = [] from rfl, List.append_nil] at FIN
      have hG0 : Grow w0.heap.size po 9 W W (.slice ao (svs (textsE pre)).length cap) (.slice ao (svs (textsE pre)).length cap) (svs (textsE pre)) := Grow.refl hO hBo
      clear hi hk2 hpl
      gi_wp2_with fail
      exact FIN.out _ _ _ hG0
  case done =>
    rintro D S W hD ⟨v, rfl, hBo, hO, hB, hsz⟩ hK
    obtain ⟨ao, cap, rfl, hcap, hcapm, hnil⟩ := hO.slice
    have eo := hBo.cell 0 _ rfl
    gi_wp2_with fail
    refine ⟨by simp, .inl ⟨_, _, rfl, run_takeDeferred hK, ?_⟩⟩
    have hx := ext_deferredP hK
    refine ⟨.slice ao (svs (textsE xs)).length cap, ?_, ?_⟩
    · simp [results, Try.results33, go_sem]
    · exact ⟨⟨_, rfl, (hO.extO hx).mono (by omega)⟩, below_ext hB hx (by have := hbel.size; omega) hB.size⟩
  case stop =>
    rintro D c pre S W hD hp h hK
    exact h.elim
  · rintro pre S W W' ⟨v, rfl, hBo, hO, hB, hsz⟩ hx
    exact ⟨v, rfl, hBo.ext hx (by simp), hO.extO hx, below_ext hB hx (by omega) hB.size, Nat.le_trans hsz hx.size⟩
  · rintro c pre S W W' h hx
    exact h.elim
  · exact ⟨.slice none 0 0, by funext k; simp [Value.ownBlock], hbo, Owns.nil _ _ _, hbel, Nat.le_refl _⟩
  · rintro x a' W W' ⟨b5, hq5, hB5, rfl⟩ hx
    exact ⟨b5, hq5, hB5.ext hx (by simp [mcells]), rfl⟩
end Go.Proofs.Ytjcldnkgidfifaa
