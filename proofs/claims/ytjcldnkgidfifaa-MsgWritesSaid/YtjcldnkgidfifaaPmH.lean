/-
  pmsg: walks (8): Ints, of messages whose fields of that number are numbers throughout.
-/
import Derived.Test.YtjcldnkgidfifaaPmG
import Derived.Sort.CutIn
namespace Go.Proofs.Ytjcldnkgidfifaa
open Go.RowKit Go.Shelf
set_option linter.unusedVariables false
set_option linter.unusedSimpArgs false
attribute [local go_sem] Oper.semAt_some

set_option maxRecDepth 100000 in
set_option maxHeartbeats 8000000 in
theorem ints_walk (B9 num : Int) (bm bn : Nat) (mo : Option Addr) (xs : List (Fld × Int)) (P : Nat → Prop) (w : World)
    (hit : ∀ w0 : World, Below w.heap.size w w0 → ∀ bm bn B, w0.cell? ⟨bm, 0, none⟩ = some (.pointer mo) → w0.cell? ⟨bn, 0, none⟩ = some (.int .i64 num) → IterA Try.prog 52 #[.pointer (some ⟨bm, 0, none⟩), .pointer (some ⟨bn, 0, none⟩)] MEnc xs B (KeepP fun k => P k ∨ k = bm ∨ k = bn) w0)
    (hP : ∀ k, P k → k < w.heap.size) (hgood : ∀ x ∈ xs, x.1.kind = 2 → getInts x.1.data ≠ none) (hcount : (intsE xs).length ≤ 1000000) (hval : ∀ x ∈ xs, x.1.val < 18446744073709551616 ∧ x.1.data.length ≤ 1000000000000) :
    Calls Try.prog 26 #[.pointer mo, .int .i64 num] w fun e' w' => (∃ v, e' = .returned (.tuple #[v, diagV 0 0 []]) ∧ Owns w.heap.size 3 w' v (ivals .i64 (intsE xs))) ∧ Below w.heap.size w w' := by
  refine (callsIn_wide (n := 0)).1 ?_
  refine callsIn_of_wp_marks Try.func26 rfl (by trivial) ?_ rfl
  simp only [Try.ntmps26, List.size_toArray, List.length_cons, List.length_nil, Nat.reduceAdd, Nat.reduceSub, Array.replicate_succ, Array.replicate_zero, List.push_toArray, List.append_toArray, List.nil_append, List.cons_append]
  gi_wp2_with fail
  refine ⟨trivial, rfl, callsIn_wide.2 ((meach_any mo num _).mono ?_)⟩
  rintro e w1 ⟨rfl, rfl⟩
  obtain ⟨w0, hw0⟩ : ∃ w0, w0 = (((((w.alloc (.cells #[.slice none 0 0] 27)).alloc (.cells #[.int .i64 0, .int .i64 0, .string ⟨#[]⟩] 54)).alloc (.cells #[.slice none 0 0] 27)).alloc (.cells #[.pointer mo] 31)).alloc (.cells #[.int .i64 num] 3)) := ⟨_, rfl⟩
  have hbel : Below w.heap.size w w0 := by
    rw [hw0]; exact (((((Below.refl _ w).alloc (Nat.le_refl _) _).alloc (by simp <;> omega) _).alloc (by simp <;> omega) _).alloc (by simp <;> omega) _).alloc (by simp <;> omega) _
  have hsz0 : w0.heap.size = w.heap.size + 5 := by rw [hw0]; simp
  obtain ⟨p1, hp1⟩ : ∃ p, p = w.heap.size := ⟨_, rfl⟩
  obtain ⟨p2, hp2⟩ : ∃ p, p = w.heap.size + 1 := ⟨_, rfl⟩
  obtain ⟨po, hpo⟩ : ∃ p, p = w.heap.size + 1 + 1 := ⟨_, rfl⟩
  obtain ⟨pm, hpm⟩ : ∃ p, p = w.heap.size + 1 + 1 + 1 := ⟨_, rfl⟩
  obtain ⟨pn, hpn⟩ : ∃ p, p = w.heap.size + 1 + 1 + 1 + 1 := ⟨_, rfl⟩
  have hr1 : BoxL w0 p1 [.slice none 0 0] := by rw [hw0, hp1]; exact BoxL.of1 (by go_simp) (by go_simp)
  have hr2 : BoxL w0 p2 [.int .i64 0, .int .i64 0, .string ⟨#[]⟩] := by rw [hw0, hp2]; exact BoxL.of3 (by go_simp) (by go_simp) (by go_simp) (by go_simp) (by go_simp) (by go_simp)
  have hbo : BoxL w0 po [.slice none 0 0] := by rw [hw0, hpo]; exact BoxL.of1 (by go_simp) (by go_simp)
  have hcm : w0.cell? ⟨pm, 0, none⟩ = some (.pointer mo) := by rw [hw0, hpm]; go_simp
  have hcn : w0.cell? ⟨pn, 0, none⟩ = some (.int .i64 num) := by rw [hw0, hpn]; go_simp
  have hit0 := hit w0 hbel pm pn w.heap.size hcm hcn
  have HW := Lib.hid hw0
  clear hw0 hit
  gi_wp2_with fail
  rw [← HW.out]
  rw [← hpn, ← hpm, ← hpo, ← hp2, ← hp1]
  clear HW
  have HQ : w.heap.size ≤ p1 ∧ p1 < p2 ∧ p2 < po ∧ po < pm ∧ pm < pn ∧ pn < w0.heap.size := by omega
  clear hp1 hp2 hpo hpm hpn hsz0
  obtain ⟨q1, q2, q3, q4, q4b, q5⟩ := HQ
  have hKP : ∀ k, (P k ∨ k = pm ∨ k = pn) → k < w0.heap.size := fun k hk => by
    rcases hk with h | h | h
    · exact Nat.lt_of_lt_of_le (hP k h) hbel.size
    · omega
    · omega
  have hKo : ∀ k, (P k ∨ k = pm ∨ k = pn) → k ≠ po := fun k hk => by
    rcases hk with h | h | h
    · have := hP k h; omega
    · omega
    · omega
  refine wp_rangeA (gf := 52) (lb := #[.pointer (some ⟨pm, 0, none⟩), .pointer (some ⟨pn, 0, none⟩)]) rfl enters_meach1 hit0 (fun A C D => KeepP.trans) (fun A C h => KeepP.ext hKP h) (fun W v x h => by rw [h]; rfl) (by omega)
    (fun pre S W => ∃ v, (S = fun k => k = po ∨ v.ownBlock = some k) ∧ BoxL W p1 [.slice none 0 0] ∧ BoxL W p2 [.int .i64 0, .int .i64 0, .string ⟨#[]⟩] ∧ BoxL W po [v] ∧ Owns w0.heap.size 3 W v (ivals .i64 (intsE pre)) ∧ Below w.heap.size w W ∧ w0.heap.size ≤ W.heap.size)
    (fun c pre S W => False)
    ?_ ?_ (fun k => k = po) (fun k hk => ⟨by omega, by omega⟩) ?_
    (fun x a' W => ∃ b5, po < b5 ∧ BoxL W b5 (mcells x) ∧ a' = { tmps := #[.pointer mo, .int .i64 num, undef, undef, .pointer (some ⟨p1, 0, none⟩), .pointer (some ⟨p2, 0, none⟩), .pointer (some ⟨po, 0, none⟩), .pointer (some ⟨b5, 0, none⟩), undef, undef, undef, undef, .pointer mo, .int .i64 num, .func (.func 52) #[] #[.pointer (some ⟨pm, 0, none⟩), .pointer (some ⟨pn, 0, none⟩)], mfV x, undef, undef, undef, undef, undef, undef, undef, undef, undef, undef, undef, undef, undef, undef, undef, undef, undef, undef, undef, undef, undef, undef, undef, undef, undef, undef, undef, undef, undef, undef, undef, undef, undef, undef, undef, undef, undef, undef, undef], defers := [] })
    ?_ ?assign ?body ?done ?stop
  case assign =>
    rintro l pre x v S W K hi hnv hpre hK
    obtain rfl : v = #[mfV x] := hnv
    gi_wp2
    have hb : Below W.heap.size W (W.alloc (.cells #[.int .i64 (x.1.num : Int), .int .i64 (x.1.kind : Int), .int .i64 (x.1.place : Int), .int .u64 (x.1.val : Int), .string ⟨x.1.data.toArray⟩, .int .i64 x.2] 81)) := (Below.refl _ W).alloc (Nat.le_refl _) _
    obtain ⟨v', rfl, hB1, hB2, hBo, hO, hB, hsz⟩ := hi
    refine hK _ _ hb ⟨v', rfl, hB1.kept hb, hB2.kept hb, hBo.kept hb, hO.kept hb, hB.trans (hb.mono hB.size), Nat.le_trans hsz hb.size⟩ ⟨W.heap.size, hBo.lt, BoxL.of6 (by go_simp) (by go_simp) (by go_simp) (by go_simp) (by go_simp) (by go_simp) (by go_simp) (by go_simp) (by go_simp) (by go_simp) (by go_simp) (by go_simp), rfl⟩
  case body =>
    rintro l pre x a' S W ⟨v, rfl, hB1, hB2, hBo, hO, hB, hsz⟩ ⟨b5, hq5, hB5, rfl⟩ hpre hS
    obtain ⟨f, dp⟩ := x
    obtain ⟨ao, cap, rfl, hcap, hcapm, hnil⟩ := hO.slice
    have hlen0 := ivals_length .i64 (intsE pre)
    have hmem : (f, dp) ∈ xs := hpre.subset (by simp)
    have hpl := intsE_prefix hpre
    rw [intsE_snoc, List.length_append] at hpl
    obtain ⟨hval1, hval2⟩ := hval _ hmem
    have hgd := hgood _ hmem
    simp only at hval1 hval2 hgd
    have hnepo : (Value.slice ao (ivals .i64 (intsE pre)).length cap).ownBlock ≠ some po := fun e9 => by have := (hO.ltO po e9).1; omega
    have fin : ∀ (W' : World) (v' : Value) (a9 : Act), Grow w0.heap.size po 3 W W' (.slice ao (ivals .i64 (intsE pre)).length cap) v' (ivals .i64 (intsE (pre ++ [(f, dp)]))) →
        postS (KeepP fun k => P k ∨ k = pm ∨ k = pn) (fun pre S W => ∃ v, (S = fun k => k = po ∨ v.ownBlock = some k) ∧ BoxL W p1 [.slice none 0 0] ∧ BoxL W p2 [.int .i64 0, .int .i64 0, .string ⟨#[]⟩] ∧ BoxL W po [v] ∧ Owns w0.heap.size 3 W v (ivals .i64 (intsE pre)) ∧ Below w.heap.size w W ∧ w0.heap.size ≤ W.heap.size) (fun c pre S W => False) (pre ++ [(f, dp)]) (fun k => k = po ∨ (Value.slice ao (ivals .i64 (intsE pre)).length cap).ownBlock = some k) W .normal a9 W' := by
      intro W' v' a9 hG
      exact ⟨_, ⟨v', rfl, hG.boxO hO hB1 (by omega) (by omega), hG.boxO hO hB2 (by omega) (by omega), hG.box, hG.own, hG.below hO hB (by omega) (by have := hbel.size; omega) hB.size, Nat.le_trans hsz hG.foot.size⟩, hG.foot, hG.top, fun k hk hlt => hG.same hO hlt (hKo k hk) (hKP k hk)⟩
    have FIN := Lib.hid fin
    clear fin
    have hivs : ∀ ys, ivals .i64 (intsE pre ++ ys) = ivals .i64 (intsE pre) ++ ivals .i64 ys := fun ys => by simp [ivals]
    have HIVS := Lib.hid hivs
    clear hivs
    have hsn := intsE_snoc pre (f, dp)
    rw [hsn] at FIN
    have HL0 := Lib.hid hlen0
    clear hlen0 hsn
    have e51 := hB5.cell 1 _ rfl
    have e53 := hB5.cell 3 _ rfl
    have e54 := hB5.cell 4 _ rfl
    have eo := hBo.cell 0 _ rfl
    have fo := hBo.free 0 (by simp)
    simp only at e51 e53 e54
    by_cases hk0 : f.kind = 0
    · have hk0i : ((f.kind : Nat) : Int) = 0 := by omega
      have hi : intsOf (f, dp) = [i64 f.val] := by unfold intsOf; rw [if_pos hk0]
      rw [hi, List.length_singleton] at hpl
      rw [hi] at FIN
      clear hi hk0 hgd
      obtain ⟨n, hn⟩ : ∃ n, n = i64 f.val := ⟨_, rfl⟩
      have hw : IntKind.i64.wrap ((f.val : Nat) : Int) = n := by rw [hn]; rfl
      rw [← hn] at FIN
      clear hn
      gi_wp2_with (gi_at_builtin; refine append1In E_ints hO rfl rfl rfl rfl rfl (by rw [HL0.out]; omega) (by rw [HL0.out]; unfold maxLen; omega) (by omega) ?_; intro v' w2 hO1 hb1 hg1 ho1 hp1; obtain ⟨ao', cap', rfl, hcap', hcapm', hnil'⟩ := hO1.slice; have hBo1 := hBo.grown hg1 hnepo; have eo1 := hBo1.cell 0 _ rfl; have fo1 := hBo1.free 0 (by simp))
      have hG := Grow.mk' hO1 hg1 ho1 hBo hnepo
      simp only [List.length_append, List.length_singleton] at hG
      exact FIN.out _ _ _ (by rw [HIVS.out]; exact hG)
    · by_cases hk2 : f.kind = 2
      · have hk2i : ((f.kind : Nat) : Int) = 2 := by omega
        obtain ⟨r, hr⟩ : ∃ r, getInts f.data = some r := Option.ne_none_iff_exists'.1 (hgd hk2)
        have hi : intsOf (f, dp) = r := by unfold intsOf; rw [if_neg hk0, if_pos hk2]; simp only; rw [hr]; rfl
        rw [hi] at FIN hpl
        have HPL := Lib.hid hpl
        clear hi hk0 hk2 hgd hpl
        have hG0 : Grow w0.heap.size po 3 W W (.slice ao (ivals .i64 (intsE pre)).length cap) (.slice ao (ivals .i64 (intsE pre)).length cap) (ivals .i64 (intsE pre)) := Grow.refl hO hBo
        gi_wp2_with fail
        clear e51 e53 e54 eo fo
        gi_loopg [8] f.data.length (fun g p wr => ∃ (rest : List UInt8) (v' : Value) (r1 r2 : List Int), p = .string ⟨rest.toArray⟩ ∧ g = rest.length ∧ Hid (getInts rest = some r2) ∧ Hid (r = r1 ++ r2) ∧ Grow w0.heap.size po 3 W wr (.slice ao (ivals .i64 (intsE pre)).length cap) v' (ivals .i64 (intsE pre ++ r1)) ∧ rest.length ≤ 1000000000000)
        case atStart => exact ⟨f.data, _, [], r, rfl, rfl, Lib.hid hr, Lib.hid rfl, by rw [List.append_nil]; exact hG0, hval2⟩
        case round =>
          obtain ⟨rest, v', r1, r2, rfl, rfl, HR, HRR, hG, hrl⟩ := hrel
          clear hr hG0
          obtain ⟨ao', cap', rfl, hcap', hcapm', hnil'⟩ := hG.own.slice
          rcases nil_or rest with rfl | hne
          · have h2 := HR.out
            rw [getInts_nil] at h2
            injection h2 with h2
            have h3 := HRR.out
            rw [← h2, List.append_nil] at h3
            have H3 := Lib.hid h3
            clear h2 h3
            gi_wp2_with fail
            exact FIN.out _ _ _ (by rw [H3.out]; exact hG)
          · obtain ⟨v, k, r', hgv, hk1, hk2, hv, hg', h2⟩ := getInts_cons (by intro e; subst e; simp at hne) HR.out
            have HGV := Lib.hid hgv
            have HG := Lib.hid hg'
            have H2 := Lib.hid h2
            clear hgv hg' h2
            have hbo' := hG.box
            gi_wp2_with fail
            refine ⟨trivial, rfl, callsIn_wide.2 ((gvarint_any rest (some (v, k)) _ (by omega) HGV).mono ?_)⟩
            rintro e w1 ⟨rfl, hb1⟩
            replace hG := hG.then hb1
            have hki : ((k : Nat) : Int) ≤ (rest.length : Int) := by omega
            have hk0i : (0 : Int) ≤ (k : Int) := by omega
            have hbo1 := hG.box
            clear hbo'
            simp only [tellV]
            gi_upto_region 13 with fail
            refine wpIn_region_any (by kernel_rfl) (wpAnyIn_of_wpAny (by kernel_rfl) (fun ⟨_, _, h⟩ => h) _ _ _ _ ?_)
            (try (change wpAny _ _ _ _ _ _ _ (World.drew _)))
            have hb2 : Below w1.heap.size w1 w1.drew := (Below.refl _ _).drew
            generalize w1.drew = w2 at hb2 ⊢
            replace hG := hG.then hb2
            replace hB := (hG.below hO hB (by omega) (by omega) hB.size)
            clear hb1 hb2 hbo1
            have hx9 := bytes_extract rest k rest.length
            rw [List.take_length] at hx9
            (refine wpAny_take (i := 1) (v := ?_) rfl (by kernel_rfl) (by kernel_rfl) (by kernel_rfl) (fun _ _ _ h => h) (Or.inl ⟨by rfl, ?_⟩) ?_; rotate_left; (· intro w; go_simp; all_goals with_reducible rfl); (try simp only [Act.put, List.setIfInBounds_toArray, List.set_cons_zero, List.set_cons_succ]))
            (refine wpAny_take (i := 2) (v := ?_) rfl (by kernel_rfl) (by kernel_rfl) (by kernel_rfl) (fun _ _ _ h => h) (Or.inl ⟨by rfl, ?_⟩) ?_; rotate_left; (· intro w; go_simp; all_goals with_reducible rfl); (try simp only [Act.put, List.setIfInBounds_toArray, List.set_cons_zero, List.set_cons_succ]))
            (refine wpAny_take (i := 5) (v := ?_) rfl (by kernel_rfl) (by kernel_rfl) (by kernel_rfl) (fun _ _ _ h => h) (Or.inl ⟨by rfl, ?_⟩) ?_; rotate_left; (· intro w; go_simp; all_goals with_reducible rfl); (try simp only [Act.put, List.setIfInBounds_toArray, List.set_cons_zero, List.set_cons_succ]))
            (refine wpAny_take (i := 6) (v := ?_) rfl (by kernel_rfl) (by kernel_rfl) (by kernel_rfl) (fun _ _ _ h => h) (Or.inl ⟨by rfl, ?_⟩) ?_; rotate_left; (· intro w; go_simp; all_goals with_reducible rfl); (try simp only [Act.put, List.setIfInBounds_toArray, List.set_cons_zero, List.set_cons_succ]))
            (refine wpAny_take (i := 7) (v := ?_) rfl (by kernel_rfl) (by kernel_rfl) (by kernel_rfl) (fun _ _ _ h => h) (Or.inl ⟨by rfl, ?_⟩) ?_; rotate_left; (· intro w; go_simp; all_goals with_reducible rfl); (try simp only [Act.put, List.setIfInBounds_toArray, List.set_cons_zero, List.set_cons_succ]))
            obtain ⟨w3, hw3⟩ : ∃ w3, w3 = w2.alloc (.cells #[.int .i64 (IntKind.i64.wrap (v : Int))] 3) := ⟨_, rfl⟩
            have hb3 : Below w2.heap.size w2 w3 := by rw [hw3]; exact (Below.refl _ _).alloc (Nat.le_refl _) _
            have hcx : w3.cell? ⟨w2.heap.size, 0, none⟩ = some (.int .i64 (IntKind.i64.wrap (v : Int))) := by rw [hw3]; go_simp
            have hG3 := hG.then hb3
            have eo2 := hG.box.cell 0 _ rfl
            have eo3 := hG3.box.cell 0 _ rfl
            have HW3 := Lib.hid hw3
            have hln : (ivals .i64 (intsE pre ++ r1)).length + 1 ≤ 1000000 := by
              have h1 := HPL.out; have h2 := HRR.out; have h3 := H2.out
              rw [h2, h3] at h1
              rw [ivals_length]
              simp only [List.length_append, List.length_cons] at h1 ⊢
              omega
            have HLN : Hid ((ivals .i64 (intsE pre ++ r1)).length ≤ 999999) := Lib.hid (by omega)
            clear hln
            have hne9 : (Value.slice ao' (ivals .i64 (intsE pre ++ r1)).length cap').ownBlock ≠ some po := fun e9 => by have := (hG3.own.ltO po e9).1; omega
            clear hw3
            refine wpAny_ready (rs := [0, 3]) (by kernel_rfl) (by simp) (AllReady.cons rfl (fun K hK => ?_) (AllReady.cons rfl (fun K hK => ?_) AllReady.nil))
            · go_simp
              refine hK _ _ ?_
              clear hK K
              refine wpAny_ready (rs := [3]) (by kernel_rfl) (by simp) (AllReady.cons rfl (fun K hK => ?_) AllReady.nil)
              go_simp
              rw [← HW3.out]
              refine hK _ _ ?_
              clear hK K
              refine wpAny_ready (rs := [4]) (by kernel_rfl) (by simp) (AllReady.cons rfl (fun K hK => ?_) AllReady.nil)
              rw [if_pos (by rfl)]
              refine step_appendO E_ints hG3.own rfl rfl rfl hcx rfl (by have := HLN.out; omega) (by have := HLN.out; unfold maxLen; omega) (by have := hb3.size; have := hG.foot.size; omega) ?_
              intro v9 w4 ho9 hg9 hn9
              obtain ⟨ao9, cap9, rfl, _, _, _⟩ := ho9.slice
              have hG9 := Grow.mk' ho9 hg9 hn9 hG3.box hne9
              have hb9 := hG3.box.grown hg9 hne9
              have eb9 := hb9.cell 0 _ rfl
              have fb9 := hb9.free 0 (by simp)
              refine hK _ _ ?_
              clear hK K
              (try simp only [Act.put, List.setIfInBounds_toArray, List.set_cons_zero, List.set_cons_succ])
              refine wpAny_ready (rs := [8]) (by kernel_rfl) (by simp) (AllReady.cons rfl (fun K hK => ?_) AllReady.nil)
              go_simp
              refine hK _ _ ?_
              clear hK K
              refine wpAny_ready (rs := [9]) (by kernel_rfl) (by simp) (AllReady.cons rfl (fun K hK => ?_) AllReady.nil)
              go_simp
              refine hK _ _ ?_
              clear hK K
              refine wpAny_done (by kernel_rfl) ?_ _
              have hGG := hG3.trans hG9
              simp only [List.length_append, List.length_singleton] at hGG
              clear eb9 fb9 hb9 hg9 hn9 eo2 eo3 hcx
              gi_wp2
              gi_roundg ((rest.drop k).length)
              case measure => rw [List.length_drop]; omega
              case rel => exact ⟨rest.drop k, _, r1 ++ [i64 v], r', rfl, rfl, HG, Lib.hid (by rw [HRR.out, H2.out]; simp), by rw [show ivals .i64 (intsE pre ++ (r1 ++ [i64 v])) = ivals .i64 (intsE pre ++ r1) ++ [.int .i64 (IntKind.i64.wrap (v : Int))] by simp [ivals, i64]]; exact hGG, by rw [List.length_drop]; omega⟩
            · go_simp
              rw [← HW3.out]
              refine hK _ _ ?_
              clear hK K
              refine wpAny_ready (rs := [0]) (by kernel_rfl) (by simp) (AllReady.cons rfl (fun K hK => ?_) AllReady.nil)
              go_simp
              refine hK _ _ ?_
              clear hK K
              refine wpAny_ready (rs := [4]) (by kernel_rfl) (by simp) (AllReady.cons rfl (fun K hK => ?_) AllReady.nil)
              rw [if_pos (by rfl)]
              refine step_appendO E_ints hG3.own rfl rfl rfl hcx rfl (by have := HLN.out; omega) (by have := HLN.out; unfold maxLen; omega) (by have := hb3.size; have := hG.foot.size; omega) ?_
              intro v9 w4 ho9 hg9 hn9
              obtain ⟨ao9, cap9, rfl, _, _, _⟩ := ho9.slice
              have hG9 := Grow.mk' ho9 hg9 hn9 hG3.box hne9
              have hb9 := hG3.box.grown hg9 hne9
              have eb9 := hb9.cell 0 _ rfl
              have fb9 := hb9.free 0 (by simp)
              refine hK _ _ ?_
              clear hK K
              (try simp only [Act.put, List.setIfInBounds_toArray, List.set_cons_zero, List.set_cons_succ])
              refine wpAny_ready (rs := [8]) (by kernel_rfl) (by simp) (AllReady.cons rfl (fun K hK => ?_) AllReady.nil)
              go_simp
              refine hK _ _ ?_
              clear hK K
              refine wpAny_ready (rs := [9]) (by kernel_rfl) (by simp) (AllReady.cons rfl (fun K hK => ?_) AllReady.nil)
              go_simp
              refine hK _ _ ?_
              clear hK K
              refine wpAny_done (by kernel_rfl) ?_ _
              have hGG := hG3.trans hG9
              simp only [List.length_append, List.length_singleton] at hGG
              clear eb9 fb9 hb9 hg9 hn9 eo2 eo3 hcx
              gi_wp2
              gi_roundg ((rest.drop k).length)
              case measure => rw [List.length_drop]; omega
              case rel => exact ⟨rest.drop k, _, r1 ++ [i64 v], r', rfl, rfl, HG, Lib.hid (by rw [HRR.out, H2.out]; simp), by rw [show ivals .i64 (intsE pre ++ (r1 ++ [i64 v])) = ivals .i64 (intsE pre ++ r1) ++ [.int .i64 (IntKind.i64.wrap (v : Int))] by simp [ivals, i64]]; exact hGG, by rw [List.length_drop]; omega⟩
      · have hk0i : ¬ ((f.kind : Nat) : Int) = 0 := by omega
        have hk2i : ¬ ((f.kind : Nat) : Int) = 2 := by omega
        have hi : intsOf (f, dp) = [] := by unfold intsOf; rw [if_neg hk0, if_neg hk2]
        rw [hi, List.append_nil] at FIN
        have hG0 : Grow w0.heap.size po 3 W W (.slice ao (ivals .i64 (intsE pre)).length cap) (.slice ao (ivals .i64 (intsE pre)).length cap) (ivals .i64 (intsE pre)) := Grow.refl hO hBo
        clear hi hk0 hk2 hgd hpl
        gi_wp2_with fail
        exact FIN.out _ _ _ hG0
  case done =>
    rintro D S W hD ⟨v, rfl, hB1, hB2, hBo, hO, hB, hsz⟩ hK
    obtain ⟨ao, cap, rfl, hcap, hcapm, hnil⟩ := hO.slice
    have eo := hBo.cell 0 _ rfl
    have e10 := hB1.cell 0 _ rfl
    have f10 := hB1.free 0 (by simp)
    have e20 := hB2.cell 0 _ rfl
    have f20 := hB2.free 0 (by simp)
    have e21 := hB2.cell 1 _ rfl
    have f21 := hB2.free 1 (by simp)
    have e22 := hB2.cell 2 _ rfl
    have f22 := hB2.free 2 (by simp)
    have hne12 : p1 ≠ p2 := by omega
    have hne21 : p2 ≠ p1 := by omega
    gi_wp2_with fail
    obtain ⟨W3, hw3⟩ : ∃ W3, W3 = ((((W.setCell ⟨p1, 0, none⟩ (.slice ao (ivals .i64 (intsE xs)).length cap)).setCell ⟨p2, 0, none⟩ (.int .i64 0)).setCell ⟨p2, 1, none⟩ (.int .i64 0)).setCell ⟨p2, 2, none⟩ (.string ⟨#[]⟩)) := ⟨_, rfl⟩
    rw [← hw3]
    have hR1 : BoxL W3 p1 [.slice ao (ivals .i64 (intsE xs)).length cap] := by rw [hw3]; exact (((hB1.set 0 _ (by simp)).setOther hne12 0 _).setOther hne12 1 _).setOther hne12 2 _
    have hR2 : BoxL W3 p2 [.int .i64 0, .int .i64 0, .string ⟨#[]⟩] := by rw [hw3]; exact (((hB2.setOther hne21 0 _).set 0 _ (by simp)).set 1 _ (by simp)).set 2 _ (by simp)
    have hB3 : Below w.heap.size w W3 := by rw [hw3]; exact (((hB.setCell (p := ⟨p1, 0, none⟩) (by show w.heap.size ≤ p1; omega) _).setCell (p := ⟨p2, 0, none⟩) (by show w.heap.size ≤ p2; omega) _).setCell (p := ⟨p2, 1, none⟩) (by show w.heap.size ≤ p2; omega) _).setCell (p := ⟨p2, 2, none⟩) (by show w.heap.size ≤ p2; omega) _
    have hkeep : ∀ k, p2 < k → W3.heap[k]? = W.heap[k]? := fun k hk => by rw [hw3]; exact (((Below.heap_setCell _ _ _ _ (by show k ≠ p2; omega)).trans (Below.heap_setCell _ _ _ _ (by show k ≠ p2; omega))).trans (Below.heap_setCell _ _ _ _ (by show k ≠ p2; omega))).trans (Below.heap_setCell _ _ _ _ (by show k ≠ p1; omega))
    have hO3 := Owns.mono (base' := w.heap.size) (hO.blockO (w' := W3) (fun g hg => hkeep g (by have := (hO.ltO g hg).1; omega))) (by have := hbel.size; omega)
    have hK3 := (hkeep D (by omega)).trans hK
    clear hw3 eo e10 f10 e20 f20 e21 f21 e22 f22
    have hx := ext_deferredP hK3
    have h1 := (hR1.ext hx (by simp)).cell 0 _ rfl
    have h20 := (hR2.ext hx (by simp)).cell 0 _ rfl
    have h21 := (hR2.ext hx (by simp)).cell 1 _ rfl
    have h22 := (hR2.ext hx (by simp)).cell 2 _ rfl
    refine ⟨by simp, .inl ⟨_, _, rfl, run_takeDeferred hK3, ?_⟩⟩
    refine ⟨.tuple #[.slice ao (ivals .i64 (intsE xs)).length cap, diagV 0 0 []], ?_, ?_⟩
    · simp [results, Try.results26, go_sem, h1, h20, h21, h22]
    · exact ⟨⟨_, rfl, hO3.extO hx⟩, below_ext hB3 hx (by have := hbel.size; omega) hB3.size⟩
  case stop =>
    rintro D c pre S W hD hp h hK
    exact h.elim
  · rintro pre S W W' ⟨v, rfl, hB1, hB2, hBo, hO, hB, hsz⟩ hx
    exact ⟨v, rfl, hB1.ext hx (by simp), hB2.ext hx (by simp), hBo.ext hx (by simp), hO.extO hx, below_ext hB hx (by omega) hB.size, Nat.le_trans hsz hx.size⟩
  · rintro c pre S W W' h hx
    exact h.elim
  · exact ⟨.slice none 0 0, by funext k; simp [Value.ownBlock], hr1, hr2, hbo, Owns.nil _ _ _, hbel, Nat.le_refl _⟩
  · rintro x a' W W' ⟨b5, hq5, hB5, rfl⟩ hx
    exact ⟨b5, hq5, hB5.ext hx (by simp [mcells]), rfl⟩
end Go.Proofs.Ytjcldnkgidfifaa
