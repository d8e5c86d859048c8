/-
  pmsg: walks (13): pattern, Floats.
-/
import Derived.Test.YtjcldnkgidfifaaPmL
import Derived.Sort.CutIn
namespace Go.Proofs.Ytjcldnkgidfifaa
open Go.RowKit Go.Shelf
set_option linter.unusedVariables false
set_option linter.unusedSimpArgs false
attribute [local go_sem] Oper.semAt_some
/-- Patterns of four bytes, one behind the other. -/
def flts (b : List UInt8) : List Nat := (List.range (b.length / 4)).map fun i => highB ((b.drop (4 * i)).take 4)
theorem flts_len (b : List UInt8) : (flts b).length = b.length / 4 := by simp [flts]
theorem flts_take {b : List UInt8} {k : Nat} (h : k < b.length / 4) : (flts b).take (k + 1) = (flts b).take k ++ [highB ((b.drop (4 * k)).take 4)] := by
  have hl : k < (flts b).length := by rw [flts_len]; exact h
  rw [List.take_succ_eq_append_getElem hl]
  simp [flts]
def fltOf (x : Fld × Int) : List Nat := if x.1.kind = 5 then [x.1.val] else if x.1.kind = 2 then flts x.1.data else []
def fltsE (l : List (Fld × Int)) : List Nat := l.flatMap fltOf
theorem fltsE_snoc (l : List (Fld × Int)) (x : Fld × Int) : fltsE (l ++ [x]) = fltsE l ++ fltOf x := by simp [fltsE]
theorem fltsE_prefix {a b : List (Fld × Int)} (h : a <+: b) : (fltsE a).length ≤ (fltsE b).length := by
  obtain ⟨c, rfl⟩ := h
  unfold fltsE; rw [List.flatMap_append, List.length_append]; omega
set_option maxRecDepth 100000 in
set_option maxHeartbeats 1000000 in
theorem pattern_any (b : List UInt8) (n : Nat) (w : World) (hl : b.length ≤ 8) (hn : Hid (n = highB b)) :
    Calls Try.prog 45 #[.string ⟨b.toArray⟩] w fun e w' => e = .returned (.int .u64 (n : Int)) ∧ Below w.heap.size w w' := by
  go_enter Try.func45, Try.ntmps45
  go_wp2_with fail
  go_loopg [3, 7] b.length (fun g vv iv wr => ∃ (i acc : Nat), i + g = b.length ∧ vv = .int .u64 (acc : Int) ∧ iv = .int .i64 (i : Int) ∧ acc < 256 ^ i ∧ Hid (acc = highB (b.take i)) ∧ Below w.heap.size w wr)
  case atStart => exact ⟨0, 0, by omega, rfl, rfl, by decide, Lib.hid rfl, Below.refl _ _⟩
  case round =>
    obtain ⟨i, acc, hi, rfl, rfl, ha, HV, hbf⟩ := hrel
    by_cases hlt : i < b.length
    · have hi1 : (i : Int) < ((b.length : Nat) : Int) := by omega
      have hq0 : (0 : Int) ≤ (i : Int) := by omega
      have hby := byte_at b i hlt (by simpa [ByteArray.size] using hlt)
      have hc256 : (b[i]?.getD 0).toNat < 256 := (b[i]?.getD 0).toNat_lt
      have hst : acc + (b[i]?.getD 0).toNat * 256 ^ i = highB (b.take (i + 1)) := by rw [HV.out]; exact (highB_take hlt).symm
      have HST := Lib.hid hst
      clear hst HV
      generalize (b[i]?.getD 0).toNat = c at *
      have hpw : (256 : Nat) ^ i = 2 ^ (8 * i) := by rw [Nat.pow_mul]
      rw [hpw] at ha
      have hlim : acc + c * 2 ^ (8 * i) < 2 ^ (8 * i) * 256 := by
        have : c * 2 ^ (8 * i) ≤ 255 * 2 ^ (8 * i) := Nat.mul_le_mul_right _ (by omega)
        omega
      have h64 : 2 ^ (8 * i) * 256 ≤ 18446744073709551616 := by
        rw [show (256 : Nat) = 2 ^ 8 by decide, ← Nat.pow_add]
        exact Nat.le_trans (Nat.pow_le_pow_right (by decide) (show 8 * i + 8 ≤ 64 by omega)) (by decide)
      have hor := or_add acc c (8 * i) ha (by omega)
      have hwr : IntKind.u64.wrap ((c : Int) * 2 ^ (8 * i)) = ((c * 2 ^ (8 * i) : Nat) : Int) := by
        rw [show (c : Int) * 2 ^ (8 * i) = ((c * 2 ^ (8 * i) : Nat) : Int) by simp]; exact IntWalk.u64_in _ (by omega)
      rw [← hwr] at hor
      have HOR := Lib.hid hor
      have HPW := Lib.hid hpw
      have HLM : Hid (acc + c * 2 ^ (8 * i) < 256 ^ (i + 1)) := Lib.hid (by rw [Nat.pow_succ, hpw]; exact hlim)
      clear hor hwr hpw hlim h64 ha
      go_wp2_with fail
      go_roundg (gk - 1)
      case measure => omega
      case rel => exact ⟨i + 1, acc + c * 2 ^ (8 * i), by omega, by rw [HOR.out], by go_num, HLM.out, Lib.hid (by rw [← HST.out, HPW.out]), hbf⟩
    · have hi1 : ¬ (i : Int) < ((b.length : Nat) : Int) := by omega
      have hr : acc = n := by rw [hn.out, HV.out, List.take_of_length_le (by omega)]
      subst hr
      go_wp2_with fail
      go_ret
      exact ⟨rfl, hbf⟩
set_option maxRecDepth 100000 in
set_option maxHeartbeats 8000000 in
theorem floats_walk (num : Int) (mo : Option Addr) (xs : List (Fld × Int)) (P : Nat → Prop) (w : World)
    (hit : ∀ w0 : World, Below w.heap.size w w0 → ∀ bm bn B, w0.cell? ⟨bm, 0, none⟩ = some (.pointer mo) → w0.cell? ⟨bn, 0, none⟩ = some (.int .i64 num) → IterA Try.prog 52 #[.pointer (some ⟨bm, 0, none⟩), .pointer (some ⟨bn, 0, none⟩)] MEnc xs B (KeepP fun k => P k ∨ k = bm ∨ k = bn) w0)
    (hP : ∀ k, P k → k < w.heap.size) (hgood : ∀ x ∈ xs, x.1.kind = 2 → x.1.data.length % 4 = 0) (hcount : (fltsE xs).length ≤ 1000000) (hval : ∀ x ∈ xs, x.1.val < 18446744073709551616 ∧ x.1.data.length ≤ 1000000000000) :
    Calls Try.prog 29 #[.pointer mo, .int .i64 num] w fun e' w' => (∃ v, e' = .returned (.tuple #[v, diagV 0 0 []]) ∧ Owns w.heap.size 25 w' v (pvs (fltsE xs))) ∧ Below w.heap.size w w' := by
  refine (callsIn_wide (n := 0)).1 ?_
  refine callsIn_of_wp_marks Try.func29 rfl (by trivial) ?_ rfl
  simp only [Try.ntmps29, List.size_toArray, List.length_cons, List.length_nil, Nat.reduceAdd, Nat.reduceSub, Array.replicate_succ, Array.replicate_zero, List.push_toArray, List.append_toArray, List.nil_append, List.cons_append]
  gi_wp2_with fail
  refine ⟨trivial, rfl, callsIn_wide.2 ((meach_any mo num _).mono ?_)⟩
  rintro e w1 ⟨rfl, rfl⟩
  obtain ⟨w0, hw0⟩ : ∃ w0, w0 = (((((w.alloc (.cells #[.slice none 0 0] 28)).alloc (.cells #[.int .i64 0, .int .i64 0, .string ⟨#[]⟩] 54)).alloc (.cells #[.slice none 0 0] 28)).alloc (.cells #[.pointer mo] 31)).alloc (.cells #[.int .i64 num] 3)) := ⟨_, rfl⟩
  have hbel : Below w.heap.size w w0 := by
    rw [hw0]; exact (((((Below.refl _ w).alloc (Nat.le_refl _) _).alloc (by simp <;> omega) _).alloc (by simp <;> omega) _).alloc (by simp <;> omega) _).alloc (by simp <;> omega) _
  have hsz0 : w0.heap.size = w.heap.size + 5 := by rw [hw0]; simp
  obtain ⟨p1, hp1⟩ : ∃ p, p = w.heap.size := ⟨_, rfl⟩
  obtain ⟨p2, hp2⟩ : ∃ p, p = w.heap.size + 1 := ⟨_, rfl⟩
  obtain ⟨po, hpo⟩ : ∃ p, p = w.heap.size + 1 + 1 := ⟨_, rfl⟩
  obtain ⟨pm, hpm⟩ : ∃ p, p = w.heap.size + 1 + 1 + 1 := ⟨_, rfl⟩
  obtain ⟨pn, hpn⟩ : ∃ p, p = w.heap.size + 1 + 1 + 1 + 1 := ⟨_, rfl⟩
  have hr1 : BoxL w0 p1 [.slice none 0 0] := by rw [hw0, hp1]; exact BoxL.of1 (by go_simp) (by go_simp)
  have hr2 : BoxL w0 p2 [.int .i64 0, .int .i64 0, .string ⟨#[]⟩] := by rw [hw0, hp2]; exact BoxL.of3 (by go_simp) (by go_simp) (by go_simp) (by go_simp) (by go_simp) (by go_simp)
  have hbo : BoxL w0 po [.slice none 0 0] := by rw [hw0, hpo]; exact BoxL.of1 (by go_simp) (by go_simp)
  have hcm : w0.cell? ⟨pm, 0, none⟩ = some (.pointer mo) := by rw [hw0, hpm]; go_simp
  have hcn : w0.cell? ⟨pn, 0, none⟩ = some (.int .i64 num) := by rw [hw0, hpn]; go_simp
  have hit0 := hit w0 hbel pm pn w.heap.size hcm hcn
  have HW := Lib.hid hw0
  clear hw0 hit
  gi_wp2_with fail
  rw [← HW.out]
  rw [← hpn, ← hpm, ← hpo, ← hp2, ← hp1]
  clear HW
  have HQ : w.heap.size ≤ p1 ∧ p1 < p2 ∧ p2 < po ∧ po < pm ∧ pm < pn ∧ pn < w0.heap.size := by omega
  clear hp1 hp2 hpo hpm hpn hsz0
  obtain ⟨q1, q2, q3, q4, q4b, q5⟩ := HQ
  have hKP : ∀ k, (P k ∨ k = pm ∨ k = pn) → k < w0.heap.size := fun k hk => by
    rcases hk with h | h | h
    · exact Nat.lt_of_lt_of_le (hP k h) hbel.size
    · omega
    · omega
  have hKo : ∀ k, (P k ∨ k = pm ∨ k = pn) → k ≠ po := fun k hk => by
    rcases hk with h | h | h
    · have := hP k h; omega
    · omega
    · omega
  refine wp_rangeA (gf := 52) (lb := #[.pointer (some ⟨pm, 0, none⟩), .pointer (some ⟨pn, 0, none⟩)]) rfl enters_meach1 hit0 (fun A C D => KeepP.trans) (fun A C h => KeepP.ext hKP h) (fun W v x h => by rw [h]; rfl) (by omega)
    (fun pre S W => ∃ v, (S = fun k => k = po ∨ v.ownBlock = some k) ∧ BoxL W p1 [.slice none 0 0] ∧ BoxL W p2 [.int .i64 0, .int .i64 0, .string ⟨#[]⟩] ∧ BoxL W po [v] ∧ Owns w0.heap.size 25 W v (pvs (fltsE pre)) ∧ (fltsE pre = [] → v.ownBlock = none) ∧ Below w.heap.size w W ∧ w0.heap.size ≤ W.heap.size)
    (fun c pre S W => False)
    ?_ ?_ (fun k => k = po) (fun k hk => ⟨by omega, by omega⟩) ?_
    (fun x a' W => ∃ b5, po < b5 ∧ BoxL W b5 (mcells x) ∧ a' = { tmps := #[.pointer mo, .int .i64 num, undef, undef, .pointer (some ⟨p1, 0, none⟩), .pointer (some ⟨p2, 0, none⟩), .pointer (some ⟨po, 0, none⟩), .pointer (some ⟨b5, 0, none⟩), undef, .pointer mo, .int .i64 num, .func (.func 52) #[] #[.pointer (some ⟨pm, 0, none⟩), .pointer (some ⟨pn, 0, none⟩)], mfV x, undef, undef, undef, undef, undef, undef, undef, undef, undef, undef, undef, undef, undef, undef, undef, undef, undef, undef, undef, undef, undef, undef, undef, undef, undef, undef, undef, undef, undef, undef, undef, undef, undef, undef, undef, undef, undef, undef, undef, undef, undef, undef, undef, undef, undef, undef, undef, undef, undef, undef, undef, undef], defers := [] })
    ?_ ?assign ?body ?done ?stop
  case assign =>
    rintro l pre x v S W K hi hnv hpre hK
    obtain rfl : v = #[mfV x] := hnv
    gi_wp2
    have hb : Below W.heap.size W (W.alloc (.cells #[.int .i64 (x.1.num : Int), .int .i64 (x.1.kind : Int), .int .i64 (x.1.place : Int), .int .u64 (x.1.val : Int), .string ⟨x.1.data.toArray⟩, .int .i64 x.2] 81)) := (Below.refl _ W).alloc (Nat.le_refl _) _
    obtain ⟨v', rfl, hB1, hB2, hBo, hO, hnb, hB, hsz⟩ := hi
    refine hK _ _ hb ⟨v', rfl, hB1.kept hb, hB2.kept hb, hBo.kept hb, hO.kept hb, hnb, hB.trans (hb.mono hB.size), Nat.le_trans hsz hb.size⟩ ⟨W.heap.size, hBo.lt, BoxL.of6 (by go_simp) (by go_simp) (by go_simp) (by go_simp) (by go_simp) (by go_simp) (by go_simp) (by go_simp) (by go_simp) (by go_simp) (by go_simp) (by go_simp), rfl⟩
  case body =>
    rintro l pre x a' S W ⟨v, rfl, hB1, hB2, hBo, hO, hnb, hB, hsz⟩ ⟨b5, hq5, hB5, rfl⟩ hpre hS
    obtain ⟨f, dp⟩ := x
    obtain ⟨ao, cap, rfl, hcap, hcapm, hnil⟩ := hO.slice
    have hlen0 := pvs_len (fltsE pre)
    have hmem : (f, dp) ∈ xs := hpre.subset (by simp)
    have hpl := fltsE_prefix hpre
    rw [fltsE_snoc, List.length_append] at hpl
    obtain ⟨hval1, hval2⟩ := hval _ hmem
    have hgd := hgood _ hmem
    simp only at hval1 hval2 hgd
    have hnepo : (Value.slice ao (pvs (fltsE pre)).length cap).ownBlock ≠ some po := fun e9 => by have := (hO.ltO po e9).1; omega
    have fin : ∀ (W' : World) (v' : Value) (a9 : Act), Grow w0.heap.size po 25 W W' (.slice ao (pvs (fltsE pre)).length cap) v' (pvs (fltsE (pre ++ [(f, dp)]))) → (fltsE (pre ++ [(f, dp)]) = [] → v'.ownBlock = none) →
        postS (KeepP fun k => P k ∨ k = pm ∨ k = pn) (fun pre S W => ∃ v, (S = fun k => k = po ∨ v.ownBlock = some k) ∧ BoxL W p1 [.slice none 0 0] ∧ BoxL W p2 [.int .i64 0, .int .i64 0, .string ⟨#[]⟩] ∧ BoxL W po [v] ∧ Owns w0.heap.size 25 W v (pvs (fltsE pre)) ∧ (fltsE pre = [] → v.ownBlock = none) ∧ Below w.heap.size w W ∧ w0.heap.size ≤ W.heap.size) (fun c pre S W => False) (pre ++ [(f, dp)]) (fun k => k = po ∨ (Value.slice ao (pvs (fltsE pre)).length cap).ownBlock = some k) W .normal a9 W' := by
      intro W' v' a9 hG hnb9
      exact ⟨_, ⟨v', rfl, hG.boxO hO hB1 (by omega) (by omega), hG.boxO hO hB2 (by omega) (by omega), hG.box, hG.own, hnb9, hG.below hO hB (by omega) (by have := hbel.size; omega) hB.size, Nat.le_trans hsz hG.foot.size⟩, hG.foot, hG.top, fun k hk hlt => hG.same hO hlt (hKo k hk) (hKP k hk)⟩
    have FIN := Lib.hid fin
    clear fin
    have hivs : ∀ ys, pvs (fltsE pre ++ ys) = pvs (fltsE pre) ++ pvs ys := fun ys => by simp [pvs]
    have HIVS := Lib.hid hivs
    clear hivs
    have hsn := fltsE_snoc pre (f, dp)
    rw [hsn] at FIN
    have HL0 := Lib.hid hlen0
    clear hlen0 hsn
    have e51 := hB5.cell 1 _ rfl
    have e53 := hB5.cell 3 _ rfl
    have e54 := hB5.cell 4 _ rfl
    have eo := hBo.cell 0 _ rfl
    have fo := hBo.free 0 (by simp)
    simp only at e51 e53 e54
    have hne5 : (Value.slice ao (pvs (fltsE pre)).length cap).ownBlock ≠ some b5 := fun e9 => by
      rcases OwnsK.shape (K := 1) hO with ⟨h9, _⟩ | ⟨g, cap9, h9, _, _, _, _, h10, _⟩
      · injection h9 with a1 _ _
        rw [a1] at e9; cases e9
      · injection h9 with a1 _ _
        rw [a1] at e9
        have e10 : some g = some b5 := e9
        injection e10 with e11
        subst e11
        cases hfe : fltsE pre with
        | nil => exfalso; have h12 := hnb hfe; simp [a1, Value.ownBlock] at h12
        | cons y ys =>
          have h11 := h10 0 (by rw [hfe]; simp [pvs])
          rw [hfe, hB5.cell 0 _ rfl] at h11
          simp [pvs] at h11
    have hb5lt := hB5.lt
    by_cases hk5 : f.kind = 5
    · have hk5i : ((f.kind : Nat) : Int) = 5 := by omega
      have hi : fltOf (f, dp) = [f.val] := by unfold fltOf; rw [if_pos hk5]
      rw [hi, List.length_singleton] at hpl
      rw [hi] at FIN
      clear hi hk5 hgd
      gi_wp2_with (gi_at_builtin; refine append1In E_pats hO rfl rfl rfl rfl rfl (by rw [HL0.out]; omega) (by rw [HL0.out]; unfold maxLen; omega) (by omega) ?_; intro v' w2 hO1 hb1 hg1 ho1 hp1; obtain ⟨ao', cap', rfl, hcap', hcapm', hnil'⟩ := hO1.slice; have hBo1 := hBo.grown hg1 hnepo; have eo1 := hBo1.cell 0 _ rfl; have fo1 := hBo1.free 0 (by simp))
      have hG := Grow.mk' hO1 hg1 ho1 hBo hnepo
      simp only [List.length_append, List.length_singleton] at hG
      exact FIN.out _ _ _ (by rw [HIVS.out]; exact hG) (by intro h9; simp at h9)
    · by_cases hk2 : f.kind = 2
      · have hk2i : ((f.kind : Nat) : Int) = 2 := by omega
        have hmod := hgd hk2
        have hi : fltOf (f, dp) = flts f.data := by unfold fltOf; rw [if_neg hk5, if_pos hk2]
        rw [hi] at FIN hpl
        have hfl := flts_len f.data
        rw [hfl] at hpl
        have HPL := Lib.hid hpl
        obtain ⟨D, hD⟩ : ∃ D, D = f.data := ⟨_, rfl⟩
        rw [← hD] at FIN HPL hmod hval2 e54 hfl
        have hmcs : BoxL W b5 [.int .i64 (f.num : Int), .int .i64 (f.kind : Int), .int .i64 (f.place : Int), .int .u64 (f.val : Int), .string ⟨D.toArray⟩, .int .i64 dp] := by rw [hD]; exact hB5
        clear hi hk5 hk2 hgd hpl hB5 hD
        have hG0 : Grow w0.heap.size po 25 W W (.slice ao (pvs (fltsE pre)).length cap) (.slice ao (pvs (fltsE pre)).length cap) (pvs (fltsE pre)) := Grow.refl hO hBo
        have hti : (D.length : Int).tmod 4 = 0 := by rw [Int.tmod_eq_emod_of_nonneg (by omega)]; omega
        gi_wp2_with fail
        clear e51 e53 e54 eo fo
        gi_loopg [8] (D.length / 4) (fun g p wr => ∃ (k : Nat) (v' : Value), p = .int .i64 ((4 * k : Nat) : Int) ∧ k + g = D.length / 4 ∧ Grow w0.heap.size po 25 W wr (.slice ao (pvs (fltsE pre)).length cap) v' (pvs (fltsE pre ++ (flts D).take k)) ∧ (fltsE pre ++ (flts D).take k = [] → v'.ownBlock = none))
        case atStart => exact ⟨0, _, rfl, by omega, by rw [List.take_zero, List.append_nil]; exact hG0, by rw [List.take_zero, List.append_nil]; exact hnb⟩
        case round =>
          obtain ⟨k, v', rfl, hkg, hG, hnb'⟩ := hrel
          clear hG0
          obtain ⟨ao', cap', rfl, hcap', hcapm', hnil'⟩ := hG.own.slice
          have hbb : wr.heap[b5]? = W.heap[b5]? := hG.foot.same b5 hb5lt (fun h => by
            rcases h with h | h
            · omega
            · exact hne5 h)
          have hB5r := hmcs.block hbb
          have e54 := hB5r.cell 4 _ rfl
          by_cases hkm : k < D.length / 4
          · have q1 : ((4 * k : Nat) : Int) < (D.length : Int) := by omega
            have q3 : (0 : Int) ≤ ((4 * k : Nat) : Int) := by omega
            obtain ⟨c, hc⟩ : ∃ c, c = 4 * k := ⟨_, rfl⟩
            rw [← hc] at q1 q3 ⊢
            obtain ⟨c4, hc4⟩ : ∃ c4, c4 = c + 4 := ⟨_, rfl⟩
            have q2 : (c4 : Int) ≤ (D.length : Int) := by omega
            have q4 : (c : Int) ≤ (c4 : Int) := by omega
            have hwr : IntKind.i64.wrap ((c : Int) + 4) = (c4 : Int) := by rw [hc4]; rw [IntWalk.i64_in _ (by omega)]; omega
            obtain ⟨n, hn⟩ : ∃ n, n = highB ((D.drop (4 * k)).take 4) := ⟨_, rfl⟩
            have HN : Hid (n = highB ((D.drop c).take 4)) := Lib.hid (by rw [hc]; exact hn)
            have HTK : Hid ((flts D).take (k + 1) = (flts D).take k ++ [n]) := Lib.hid (by rw [hn]; exact flts_take hkm)
            have HC := Lib.hid hc
            clear hn hc
            have hx9 := bytes_extract D c c4
            rw [List.drop_take, show c4 - c = 4 by omega] at hx9
            have HC4 := Lib.hid hc4
            clear hc4
            gi_wp2_with fail
            gi_upto_region 12 with fail
            have hbo1 := hG.box
            clear e54 hbb
            refine wpIn_region_seqT (S := fun w' => BoxL w' po [.slice ao' (pvs (fltsE pre ++ (flts D).take k)).length cap'] ∧ BoxL w' b5 [.int .i64 (f.num : Int), .int .i64 (f.kind : Int), .int .i64 (f.place : Int), .int .u64 (f.val : Int), .string ⟨D.toArray⟩, .int .i64 dp]) [(true, 0), (true, 1), (true, 2), (true, 3), (true, 4), (true, 5), (true, 6), (true, 7), (false, 8), (false, 9), (false, 10)] (by kernel_rfl) (fun ⟨_, _, h⟩ => h) (by kernel_rfl) (by kernel_rfl) (by kernel_rfl) (by kernel_rfl) (by kernel_rfl) (by kernel_rfl) (fun d _ _ _ _ h => by cases d <;> exact h) ⟨hbo1.drew, hB5r.drew⟩ (fun _ => ?_)
            simp only [pickOps, List.append_eq, List.cons_append, List.nil_append, List.getElem?_toArray, List.getElem?_cons_succ, List.getElem?_cons_zero]
            have hb : Below wr.heap.size wr wr.drew := (Below.refl _ _).drew
            generalize wr.drew = w2 at hb ⊢
            replace hG := hG.then hb
            replace hB5r := hB5r.kept hb
            clear hb hbo1
            repeat (first | (refine seq_take (v := ?_) (by rfl) ?_ ?_; rotate_left; (· intro w hSw; (try dsimp only at hSw); obtain ⟨hLo, hL5⟩ := hSw; have eo := hLo.cell 0 _ rfl; have e54 := hL5.cell 4 _ rfl; clear hLo hL5; go_simp; all_goals with_reducible rfl); (try simp only [Act.put, List.setIfInBounds_toArray, List.set_cons_zero, List.set_cons_succ])) | (refine seq_leave (by rfl) ?_; (try simp only [Act.put, List.setIfInBounds_toArray, List.set_cons_zero, List.set_cons_succ])))
            refine seq_step (by rfl) (fun K hK => ?_)
            go_simp
            refine (pattern_any ((D.drop c).take 4) n w2 (by rw [List.length_take]; omega) HN).mono ?_
            rintro e w3 ⟨rfl, hb3⟩
            replace hG := hG.then hb3
            replace hB5r := hB5r.kept hb3
            clear hb3
            go_simp
            refine hK.out _ _ ⟨hG.box, hB5r⟩ (fun _ => ?_)
            clear hK K
            (try simp only [Act.put, List.setIfInBounds_toArray, List.set_cons_zero, List.set_cons_succ])
            refine seq_step (by rfl) (fun K hK => ?_)
            go_simp
            obtain ⟨w4, hw4⟩ : ∃ w4, w4 = w3.alloc (.cells #[.int .u64 (n : Int)] 25) := ⟨_, rfl⟩
            have hb4 : Below w3.heap.size w3 w4 := by rw [hw4]; exact (Below.refl _ _).alloc (Nat.le_refl _) _
            have hcx : w4.cell? ⟨w3.heap.size, 0, none⟩ = some (.int .u64 (n : Int)) := by rw [hw4]; go_simp
            rw [← hw4]
            clear hw4
            replace hG := hG.then hb4
            replace hB5r := hB5r.kept hb4
            have hsz4 := hb4.size
            clear hb4
            refine hK.out _ _ ⟨hG.box, hB5r⟩ (fun _ => ?_)
            clear hK K
            (try simp only [Act.put, List.setIfInBounds_toArray, List.set_cons_zero, List.set_cons_succ])
            refine seq_step (by rfl) (fun K hK => ?_)
            have hln : (pvs (fltsE pre ++ (flts D).take k)).length + 1 ≤ 1000000 := by
              have h1 := HPL.out
              have h2 := List.length_take_le k (flts D)
              rw [pvs_len, List.length_append, List.length_take, hfl]
              omega
            have HLN : Hid ((pvs (fltsE pre ++ (flts D).take k)).length ≤ 999999) := Lib.hid (by omega)
            clear hln
            have hne9 : (Value.slice ao' (pvs (fltsE pre ++ (flts D).take k)).length cap').ownBlock ≠ some po := fun e9 => by have := (hG.own.ltO po e9).1; omega
            refine step_appendO E_pats hG.own rfl rfl rfl hcx rfl (by have := HLN.out; omega) (by have := HLN.out; unfold maxLen; omega) (by have := hG.foot.size; omega) ?_
            intro v9 w5 ho9 hg9 hn9
            obtain ⟨ao9, cap9, rfl, _, _, _⟩ := ho9.slice
            have hG9 := Grow.mk' ho9 hg9 hn9 hG.box hne9
            have hb9 := hG.box.grown hg9 hne9
            have hB9 := hB5r.grown hg9 (fun e9 => by
              rcases hG.foot.fresh b5 (.inr e9) with h | h
              · rcases h with h | h
                · omega
                · exact hne5 h
              · omega)
            have eb9 := hb9.cell 0 _ rfl
            have fb9 := hb9.free 0 (by simp)
            refine hK.out _ _ ⟨hb9, hB9⟩ (fun _ => ?_)
            clear hK K
            (try simp only [Act.put, List.setIfInBounds_toArray, List.set_cons_zero, List.set_cons_succ])
            refine seq_end ?_
            refine tail_end rfl rfl ?_
            go_simp
            have hGG := hG.trans hG9
            have hpe : pvs (fltsE pre ++ (flts D).take k) ++ [.int .u64 (n : Int)] = pvs (fltsE pre ++ (flts D).take (k + 1)) := by rw [HTK.out]; simp [pvs]
            simp only [List.length_append, List.length_singleton] at hGG
            clear eb9 fb9 hb9 hg9 hn9 hcx hx9
            gi_wp2
            gi_roundg (gk - 1)
            case measure => omega
            case rel => exact ⟨k + 1, _, by have := HC.out; have := HC4.out; go_num, by omega, by rw [← hpe]; exact hGG, by intro h9; rw [HTK.out] at h9; simp at h9⟩
          · have q1 : ¬ ((4 * k : Nat) : Int) < (D.length : Int) := by omega
            have htk : (flts D).take k = flts D := List.take_of_length_le (by omega)
            rw [htk] at hG hnb'
            clear htk
            gi_wp2_with fail
            exact FIN.out _ _ _ hG hnb'
      · have hk5i : ¬ ((f.kind : Nat) : Int) = 5 := by omega
        have hk2i : ¬ ((f.kind : Nat) : Int) = 2 := by omega
        have hi : fltOf (f, dp) = [] := by unfold fltOf; rw [if_neg hk5, if_neg hk2]
        rw [hi, List.append_nil] at FIN
        have hG0 : Grow w0.heap.size po 25 W W (.slice ao (pvs (fltsE pre)).length cap) (.slice ao (pvs (fltsE pre)).length cap) (pvs (fltsE pre)) := Grow.refl hO hBo
        clear hi hk5 hk2 hgd hpl
        gi_wp2_with fail
        exact FIN.out _ _ _ hG0 hnb
  case done =>
    rintro D S W hD ⟨v, rfl, hB1, hB2, hBo, hO, hnb, hB, hsz⟩ hK
    obtain ⟨ao, cap, rfl, hcap, hcapm, hnil⟩ := hO.slice
    have eo := hBo.cell 0 _ rfl
    have e10 := hB1.cell 0 _ rfl
    have f10 := hB1.free 0 (by simp)
    have e20 := hB2.cell 0 _ rfl
    have f20 := hB2.free 0 (by simp)
    have e21 := hB2.cell 1 _ rfl
    have f21 := hB2.free 1 (by simp)
    have e22 := hB2.cell 2 _ rfl
    have f22 := hB2.free 2 (by simp)
    have hne12 : p1 ≠ p2 := by omega
    have hne21 : p2 ≠ p1 := by omega
    gi_wp2_with fail
    obtain ⟨W3, hw3⟩ : ∃ W3, W3 = ((((W.setCell ⟨p1, 0, none⟩ (.slice ao (pvs (fltsE xs)).length cap)).setCell ⟨p2, 0, none⟩ (.int .i64 0)).setCell ⟨p2, 1, none⟩ (.int .i64 0)).setCell ⟨p2, 2, none⟩ (.string ⟨#[]⟩)) := ⟨_, rfl⟩
    rw [← hw3]
    have hR1 : BoxL W3 p1 [.slice ao (pvs (fltsE xs)).length cap] := by rw [hw3]; exact (((hB1.set 0 _ (by simp)).setOther hne12 0 _).setOther hne12 1 _).setOther hne12 2 _
    have hR2 : BoxL W3 p2 [.int .i64 0, .int .i64 0, .string ⟨#[]⟩] := by rw [hw3]; exact (((hB2.setOther hne21 0 _).set 0 _ (by simp)).set 1 _ (by simp)).set 2 _ (by simp)
    have hB3 : Below w.heap.size w W3 := by rw [hw3]; exact (((hB.setCell (p := ⟨p1, 0, none⟩) (by show w.heap.size ≤ p1; omega) _).setCell (p := ⟨p2, 0, none⟩) (by show w.heap.size ≤ p2; omega) _).setCell (p := ⟨p2, 1, none⟩) (by show w.heap.size ≤ p2; omega) _).setCell (p := ⟨p2, 2, none⟩) (by show w.heap.size ≤ p2; omega) _
    have hkeep : ∀ k, p2 < k → W3.heap[k]? = W.heap[k]? := fun k hk => by rw [hw3]; exact (((Below.heap_setCell _ _ _ _ (by show k ≠ p2; omega)).trans (Below.heap_setCell _ _ _ _ (by show k ≠ p2; omega))).trans (Below.heap_setCell _ _ _ _ (by show k ≠ p2; omega))).trans (Below.heap_setCell _ _ _ _ (by show k ≠ p1; omega))
    have hO3 := Owns.mono (base' := w.heap.size) (hO.blockO (w' := W3) (fun g hg => hkeep g (by have := (hO.ltO g hg).1; omega))) (by have := hbel.size; omega)
    have hK3 := (hkeep D (by omega)).trans hK
    clear hw3 eo e10 f10 e20 f20 e21 f21 e22 f22
    have hx := ext_deferredP hK3
    have h1 := (hR1.ext hx (by simp)).cell 0 _ rfl
    have h20 := (hR2.ext hx (by simp)).cell 0 _ rfl
    have h21 := (hR2.ext hx (by simp)).cell 1 _ rfl
    have h22 := (hR2.ext hx (by simp)).cell 2 _ rfl
    refine ⟨by simp, .inl ⟨_, _, rfl, run_takeDeferred hK3, ?_⟩⟩
    refine ⟨.tuple #[.slice ao (pvs (fltsE xs)).length cap, diagV 0 0 []], ?_, ?_⟩
    · simp [results, Try.results29, go_sem, h1, h20, h21, h22]
    · exact ⟨⟨_, rfl, hO3.extO hx⟩, below_ext hB3 hx (by have := hbel.size; omega) hB3.size⟩
  case stop =>
    rintro D c pre S W hD hp h hK
    exact h.elim
  · rintro pre S W W' ⟨v, rfl, hB1, hB2, hBo, hO, hnb, hB, hsz⟩ hx
    exact ⟨v, rfl, hB1.ext hx (by simp), hB2.ext hx (by simp), hBo.ext hx (by simp), hO.extO hx, hnb, below_ext hB hx (by omega) hB.size, Nat.le_trans hsz hx.size⟩
  · rintro c pre S W W' h hx
    exact h.elim
  · exact ⟨.slice none 0 0, by funext k; simp [Value.ownBlock], hr1, hr2, hbo, Owns.nil _ _ _, fun _ => rfl, hbel, Nat.le_refl _⟩
  · rintro x a' W W' ⟨b5, hq5, hB5, rfl⟩ hx
    exact ⟨b5, hq5, hB5.ext hx (by simp [mcells]), rfl⟩
end Go.Proofs.Ytjcldnkgidfifaa
