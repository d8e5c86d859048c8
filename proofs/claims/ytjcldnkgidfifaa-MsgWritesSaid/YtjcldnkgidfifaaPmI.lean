/-
  pmsg: walks (9): what a nil message answers.
-/
import Derived.Test.YtjcldnkgidfifaaPmH
import Derived.BigQuiet
namespace Go.Proofs.Ytjcldnkgidfifaa
open Go.RowKit Go.Shelf
set_option linter.unusedVariables false
set_option linter.unusedSimpArgs false
attribute [local go_sem] Oper.semAt_some
theorem below_drewN2 {B : Nat} {w w' : World} (h : Below B w w') (n : Nat) : Below B w (w'.drewN n) := ⟨h.os, h.tape, h.output, h.size, h.block⟩
theorem put_nil (num kind : Int) (val : Nat) (data : List UInt8) (w : World) : Calls Try.prog 37 #[.pointer none, fldV num kind 0 val data] w fun e' w' => (∃ r, e' = .returned r) ∧ Below w.heap.size w w' := by
  go_enter Try.func37, Try.ntmps37
  go_wp2_with fail
  (try simp only [Exit.inBlock, Exit.then])
  refine bodyPost_ret (results_none rfl _ _ _) rfl ?_
  exact ⟨⟨_, rfl⟩, (Below.refl _ w).alloc (Nat.le_refl _) _⟩
theorem putUint_nil (num : Int) (val : Nat) (w : World) (hval : val < 18446744073709551616) : Calls Try.prog 10 #[.pointer none, .int .i64 num, .int .u64 (val : Int)] w fun e' w' => e' = .returned (.pointer none) ∧ Below w.heap.size w w' := by
  go_enter Try.func10, Try.ntmps10
  go_wp2_with fail
  refine (put_nil num 0 val [] _).mono ?_
  rintro e' w' ⟨⟨r, rfl⟩, hs⟩
  go_wp2_with fail
  go_ret
  exact ⟨rfl, hs⟩
theorem nums_nil (w : World) : Calls Try.prog 36 #[.pointer none] w fun e' w' => e' = .returned (.slice none 0 0) ∧ Below w.heap.size w w' := by
  go_enter Try.func36, Try.ntmps36
  go_wp2_with fail
  go_ret
  exact ⟨rfl, Below.refl _ _⟩
set_option maxRecDepth 100000 in
theorem last_nil (num kind : Int) (w : World) : Calls Try.prog 41 #[.pointer none, .int .i64 num, .int .i64 kind] w fun e' w' => e' = .returned (.tuple #[mfV (zeroF, 0), .bool false]) ∧ Below w.heap.size w w' := by
  refine (callsIn_wide (n := 0)).1 ?_
  refine callsIn_of_wp_marks Try.func41 rfl (by trivial) ?_ rfl
  simp only [Try.ntmps41, List.size_toArray, List.length_cons, List.length_nil, Nat.reduceAdd, Nat.reduceSub, Array.replicate_succ, Array.replicate_zero, List.push_toArray, List.append_toArray, List.nil_append, List.cons_append]
  gi_wp2_with fail
  refine ⟨.tuple #[mfV (zeroF, 0), .bool false], ?_, rfl, ?_⟩
  · simp [results, Try.results41, go_sem, mfV, zeroF]
  · exact ((((Below.refl _ w).alloc (Nat.le_refl _) _).alloc (by simp <;> omega) _).alloc (by simp <;> omega) _).alloc (by simp <;> omega) _
theorem uint_nil (num : Int) (w : World) : Calls Try.prog 30 #[.pointer none, .int .i64 num] w fun e' w' => e' = .returned (.tuple #[.int .u64 0, .bool false]) ∧ Below w.heap.size w w' := by
  go_enter Try.func30, Try.ntmps30
  go_wp2_with fail
  refine (last_nil num 0 _).mono ?_
  rintro e' w' ⟨rfl, hs⟩
  go_wp2_with fail
  go_ret2
  exact ⟨rfl, hs.alloc (by exact hs.size) _⟩
theorem float_nil (num : Int) (w : World) : Calls Try.prog 35 #[.pointer none, .int .i64 num] w fun e' w' => e' = .returned (.tuple #[.int .u64 0, .bool false]) ∧ Below w.heap.size w w' := by
  go_enter Try.func35, Try.ntmps35
  go_wp2_with fail
  refine (last_nil num 5 _).mono ?_
  rintro e' w' ⟨rfl, hs⟩
  go_wp2_with fail
  go_ret2
  exact ⟨rfl, hs.alloc (by exact hs.size) _⟩
theorem int_nil (num : Int) (w : World) : Calls Try.prog 34 #[.pointer none, .int .i64 num] w fun e' w' => e' = .returned (.tuple #[.int .i64 0, .bool false]) ∧ Below w.heap.size w w' := by
  go_enter Try.func34, Try.ntmps34
  go_wp2_with fail
  refine (uint_nil num _).mono ?_
  rintro e' w' ⟨rfl, hs⟩
  go_wp2_with fail
  go_ret2
  exact ⟨rfl, hs⟩
theorem text_nil (num : Int) (w : World) : Calls Try.prog 25 #[.pointer none, .int .i64 num] w fun e' w' => e' = .returned (.tuple #[.string ⟨#[]⟩, .int .i64 0, .bool false]) ∧ Below w.heap.size w w' := by
  go_enter Try.func25, Try.ntmps25
  go_wp2_with fail
  refine (last_nil num 2 _).mono ?_
  rintro e' w' ⟨rfl, hs⟩
  go_wp2_with fail
  go_quiet (fail)
  go_wp2_with fail
  go_ret3
  exact ⟨rfl, below_drewN2 (hs.alloc (by exact hs.size) _) _⟩
-- (printed by gen_PmI.py)
set_option maxRecDepth 100000 in
set_option maxHeartbeats 2000000 in
theorem putInts_nil (sv : Value) (num : Int) (xs : List Int) (w : World) (hs : ∃ S, RowV S w sv (ivs xs)) (hxl : xs.length ≤ 1000000) :
    Calls Try.prog 15 #[.pointer none, .int .i64 num, sv] w fun e' w' => e' = .returned (.pointer none) ∧ Below w.heap.size w w' := by
  obtain ⟨S, ao, cap, rfl, hc1, hc2, hcells⟩ := hs
  rw [ivs_len] at hc1 ⊢
  unfold maxLen at hc2
  go_enter Try.func15, Try.ntmps15
  go_wp2_with fail
  go_loopg [7, 12] xs.length (fun gg bv iv wr => ∃ (i : Nat) (D : List UInt8), i + gg = xs.length ∧ bv = .string ⟨D.toArray⟩ ∧ iv = .int .i64 (i : Int) ∧ Hid (D = intsD (xs.take i)) ∧ D.length ≤ 10 * i ∧ Below w.heap.size w wr)
  case atStart => exact ⟨0, [], by omega, rfl, rfl, Lib.hid rfl, by simp, Below.refl _ _⟩
  case round =>
    obtain ⟨i, D, hi, rfl, rfl, HD, hDl, hb⟩ := hrel
    by_cases hil : i < xs.length
    · have HTK := Lib.hid (intsD_take hil)
      have hg9 := ivs_get hil
      rcases hcells with h8 | ⟨gb, off, rfl, hgb, hns, hcb⟩
      · rw [h8] at hg9; simp at hg9
      have es := (hb.cell (p := ⟨gb, off + i, none⟩) hgb).trans (hcb i _ hg9)
      have hwr := wrap_u64 (xs[i]?.getD 0)
      have hx64 := u64_lt (xs[i]?.getD 0)
      generalize xs[i]?.getD 0 = x at *
      obtain ⟨n, hn⟩ : ∃ n, n = u64 x := ⟨_, rfl⟩
      rw [← hn] at hwr hx64 HTK
      have hl10 := vbytes_ten hx64
      obtain ⟨E, hE⟩ : ∃ E, E = vbytes n := ⟨_, rfl⟩
      rw [← hE] at hl10 HTK
      have HE := Lib.hid hE
      have hab := bytes_app D E
      obtain ⟨DE, hDE⟩ : ∃ l, l = D ++ E := ⟨_, rfl⟩
      rw [← hDE] at hab
      have HDE := Lib.hid hDE
      have q1 : (i : Int) < (xs.length : Int) := by omega
      have q2 : (0 : Int) ≤ (i : Int) := by omega
      clear hcb hg9 hn hE hDE
      go_wp2_with fail
      refine (pvarint_any n _ hx64).mono ?_
      rintro e' w2 ⟨rfl, hb2⟩
      rw [← HE.out]
      clear hwr es
      go_wp2_with fail
      go_roundg (gk - 1)
      case measure => omega
      case rel => exact ⟨i + 1, DE, by omega, rfl, by go_num, Lib.hid (by rw [HTK.out, HDE.out, HD.out]), by rw [HDE.out, List.length_append]; omega, hb.trans (hb2.mono hb.size)⟩
    · have q1 : ¬ (i : Int) < (xs.length : Int) := by omega
      by_cases hz : xs.length = 0
      · have q3 : ¬ (0 : Int) < (xs.length : Int) := by omega
        clear hz
        go_wp2_with fail
        go_ret
        exact ⟨rfl, hb⟩
      · have q3 : (0 : Int) < (xs.length : Int) := by omega
        go_wp2_with fail
        refine (put_nil num 2 0 D _).mono ?_
        rintro e' w2 ⟨⟨r, rfl⟩, hs2⟩
        go_wp2_with fail
        go_ret
        exact ⟨rfl, hb.trans (hs2.mono hb.size)⟩
set_option maxRecDepth 100000 in
set_option maxHeartbeats 2000000 in
theorem putFloats_nil (sv : Value) (num : Int) (ps : List Nat) (w : World) (hs : ∃ S, RowV S w sv (pvs ps)) (hp64 : ∀ x ∈ ps, x < 18446744073709551616) (hxl : ps.length ≤ 1000000) :
    Calls Try.prog 19 #[.pointer none, .int .i64 num, sv] w fun e' w' => e' = .returned (.pointer none) ∧ Below w.heap.size w w' := by
  obtain ⟨S, ao, cap, rfl, hc1, hc2, hcells⟩ := hs
  rw [pvs_len] at hc1 ⊢
  unfold maxLen at hc2
  have H64 := Lib.hid hp64
  clear hp64
  go_enter Try.func19, Try.ntmps19
  go_wp2_with fail
  go_loopg [7, 13] ps.length (fun gg bv iv wr => ∃ (i : Nat), i + gg = ps.length ∧ iv = .int .i64 (i : Int) ∧ Owns w.heap.size 5 wr bv (ints .u8 (floatsN (ps.take i))) ∧ Hid (∀ x ∈ ps.take i, x < 4294967296) ∧ Below w.heap.size w wr)
  case atStart => exact ⟨0, by omega, rfl, Owns.nil _ _ _, Lib.hid (by simp), Below.refl _ _⟩
  case round =>
    obtain ⟨i, hi, rfl, ho, HN, hb⟩ := hrel
    by_cases hil : i < ps.length
    · have HTK := Lib.hid (floatsN_take hil)
      have hg9 := pvs_get hil
      rcases hcells with h8 | ⟨gb, off, rfl, hgb, hns, hcb⟩
      · rw [h8] at hg9; simp at hg9
      have es := (hb.cell (p := ⟨gb, off + i, none⟩) hgb).trans (hcb i _ hg9)
      have hx64 : ps[i]?.getD 0 < 18446744073709551616 := by rw [List.getElem?_eq_getElem hil]; exact H64.out _ (List.getElem_mem hil)
      have hin : ps[i]?.getD 0 ∈ ps := by rw [List.getElem?_eq_getElem hil]; exact List.getElem_mem hil
      have htk : ps.take (i + 1) = ps.take i ++ [ps[i]?.getD 0] := by rw [List.take_succ_eq_append_getElem hil, List.getElem?_eq_getElem hil]; rfl
      have HTK2 := Lib.hid htk
      have HIN := Lib.hid hin
      have hlen0 := floatsN_len (ps.take i)
      rw [List.length_take, Nat.min_eq_left (by omega)] at hlen0
      have HL0 := Lib.hid hlen0
      clear htk hin hlen0
      generalize ps[i]?.getD 0 = x at *
      have q1 : (i : Int) < (ps.length : Int) := by omega
      have q2 : (0 : Int) ≤ (i : Int) := by omega
      clear hcb hg9
      by_cases hwide : 4294967296 ≤ x
      · have hsh := shr32_no (v := x) (by omega)
        go_wp2_with fail
        refine (put_nil 0 0 0 [] _).mono ?_
        rintro e' w2 ⟨⟨r, rfl⟩, hs2⟩
        go_wp2_with fail
        go_ret
        exact ⟨rfl, hb.trans (hs2.mono hb.size)⟩
      · have hsh := shr32_yes (v := x) (by omega)
        have hsh2 : ((x : Int) / 4294967296 != 0) = false := by simp only [bne, hsh]; rfl
        obtain ⟨go, hgo⟩ : ∃ go, go = gk := ⟨_, rfl⟩
        subst hgo
        go_wp2_with fail
        go_loopg [7, 24] 4 (fun g2 bv kv wx => ∃ (k : Nat), k + g2 = 4 ∧ kv = .int .i64 (k : Int) ∧ Owns w.heap.size 5 wx bv (ints .u8 (floatsN (ps.take i) ++ (littleN 4 x).take k)) ∧ Below w.heap.size w wx)
        case atStart => exact ⟨0, by omega, rfl, by simpa using ho, hb⟩
        case round =>
          obtain ⟨k, hk, rfl, ho2, hb2⟩ := hrel
          by_cases hk4 : k < 4
          · have q3 : (k : Int) < 4 := by omega
            have q4 : (0 : Int) ≤ (k : Int) := by omega
            have hlk := ints_length .u8 (floatsN (ps.take i) ++ (littleN 4 x).take k)
            have hlk2 : (floatsN (ps.take i) ++ (littleN 4 x).take k).length ≤ 4 * i + 4 := by
              rw [List.length_append, HL0.out]; have := List.length_take_le k (littleN 4 x); omega
            have HON : Hid (ints .u8 (floatsN (ps.take i) ++ (littleN 4 x).take (k + 1)) = ints .u8 (floatsN (ps.take i) ++ (littleN 4 x).take k) ++ [.int .u8 ((x : Int) / 2 ^ (8 * k) % 256)]) := Lib.hid (by
              rw [littleN_take hk4, ← List.append_assoc, ints_append]
              simp [ints])
            clear es
            go_wp2_with (at_builtin; refine append1 E8 ho2 rfl rfl rfl rfl rfl (by rw [hlk]; omega) (by rw [hlk]; unfold maxLen; omega) hb2.size ?_; intro v' w5 ho5 hb5 hg5)
            go_roundg (gk - 1)
            case measure => omega
            case rel => exact ⟨k + 1, by omega, by go_num, by rw [HON.out]; exact ho5, hb2.trans (hb5.mono (Nat.le_refl _))⟩
          · have q3 : ¬ (k : Int) < 4 := by omega
            have hk5 : k = 4 := by omega
            subst hk5
            have hfull : (littleN 4 x).take 4 = littleN 4 x := List.take_of_length_le (by rw [littleN_len]; exact Nat.le_refl _)
            rw [hfull, ← HTK.out] at ho2
            clear hfull es
            go_wp2_with fail
            go_roundg (go - 1)
            case measure => omega
            case rel => exact ⟨i + 1, by omega, by go_num, ho2, Lib.hid (by rw [HTK2.out]; intro y hy; rcases List.mem_append.1 hy with h9 | h9; exact HN.out y h9; simp at h9; omega), hb2⟩
    · have q1 : ¬ (i : Int) < (ps.length : Int) := by omega
      have htk : ps.take i = ps := List.take_of_length_le (by omega)
      rw [htk] at ho HN
      clear htk
      by_cases hz : ps.length = 0
      · have q3 : ¬ (0 : Int) < (ps.length : Int) := by omega
        clear hz
        go_wp2_with fail
        go_ret
        exact ⟨rfl, hb⟩
      · have q3 : (0 : Int) < (ps.length : Int) := by omega
        obtain ⟨ao3, cap3, rfl, hcap3, hcapm3, hnil3, hc3⟩ := ho.toInts
        have hcv := conv_string (P := Try.prog) Try.underlying78 Try.underlying5 Try.underlying9 hc3 cap3
        rw [str_floats] at hcv
        have hdl : (floatsD ps).length ≤ 9223372036854775807 := by rw [← str_floats]; unfold str; rw [List.length_map, floatsN_len]; omega
        generalize hrl : (floatsN ps).length = rl at *
        have HR := Lib.hid hrl
        clear hrl
        go_wp2_with fail
        refine (put_nil num 2 0 (floatsD ps) _).mono ?_
        rintro e' w2 ⟨⟨r, rfl⟩, hs2⟩
        go_wp2_with fail
        go_ret
        exact ⟨rfl, hb.trans (hs2.mono hb.size)⟩
set_option maxRecDepth 100000 in
set_option maxHeartbeats 2000000 in
theorem putText_nil (sv : Value) (num : Int) (ls : List (List UInt8)) (w : World) (hs : ∃ S, RowV S w sv (svs ls)) (hlen : ∀ x ∈ ls, x.length ≤ 1000000000) (hll : ls.length ≤ 1000000) :
    Calls Try.prog 12 #[.pointer none, .int .i64 num, sv] w fun e' w' => e' = .returned (.pointer none) ∧ Below w.heap.size w w' := by
  have hn : (svs ls).length = ls.length := by simp [svs]
  obtain ⟨S, ao, cap, rfl, hc1, hc2, hcells⟩ := hs
  rw [hn] at hc1 ⊢
  unfold maxLen at hc2
  go_enter Try.func12, Try.ntmps12
  go_wp2_with fail
  go_loopg [11] ls.length (fun gg iv wr => ∃ (i : Nat), i + gg = ls.length ∧ iv = .int .i64 (i : Int) ∧ Below w.heap.size w wr)
  case atStart => exact ⟨0, by omega, rfl, Below.refl _ _⟩
  case round =>
    obtain ⟨i, hi, rfl, hb⟩ := hrel
    by_cases hil : i < ls.length
    · have hg9 := svs_get hil
      rcases hcells with h | ⟨gb, off, rfl, hgb, hns, hcb⟩
      · rw [h] at hg9; simp at hg9
      have es := (hb.cell (p := ⟨gb, off + i, none⟩) hgb).trans (hcb i _ hg9)
      have hsl : (ls[i]?.getD []).length ≤ 1000000000 := by rw [List.getElem?_eq_getElem hil]; exact hlen _ (List.getElem_mem hil)
      generalize ls[i]?.getD [] = s at *
      have q1 : (i : Int) < (ls.length : Int) := by omega
      have q2 : (0 : Int) ≤ (i : Int) := by omega
      have hcv := conv_there s
      have hcb9 := conv_back s
      clear hcb hns hg9
      go_wp2_with fail
      have hbw := bytesWorld_below wr 5 ⟨s.toArray⟩
      refine (put_nil num 2 0 s _).mono ?_
      rintro e' w2 ⟨⟨r, rfl⟩, hb2⟩
      clear hcv hcb9 es
      go_wp2_with fail
      go_roundg (gk - 1)
      case measure => omega
      case rel => exact ⟨i + 1, by omega, by go_num, hb.trans (hbw.trans (hb2.mono hbw.size) |>.mono hb.size)⟩
    · have q1 : ¬ (i : Int) < (ls.length : Int) := by omega
      go_wp2_with fail
      go_ret
      exact ⟨rfl, hb⟩
-- (printed so far)
set_option maxRecDepth 100000 in
set_option maxHeartbeats 4000000 in
theorem floats_nil (num : Int) (w : World) :
    Calls Try.prog 29 #[.pointer none, .int .i64 num] w fun e' w' => e' = .returned (.tuple #[.slice none 0 0, diagV 0 0 []]) ∧ Below w.heap.size w w' := by
  refine (callsIn_wide (n := 0)).1 ?_
  refine callsIn_of_wp_marks Try.func29 rfl (by trivial) ?_ rfl
  simp only [Try.ntmps29, List.size_toArray, List.length_cons, List.length_nil, Nat.reduceAdd, Nat.reduceSub, Array.replicate_succ, Array.replicate_zero, List.push_toArray, List.append_toArray, List.nil_append, List.cons_append]
  gi_wp2_with fail
  refine ⟨trivial, rfl, callsIn_wide.2 ((meach_any none num _).mono ?_)⟩
  rintro e w1 ⟨rfl, rfl⟩
  obtain ⟨w0, hw0⟩ : ∃ w0, w0 = (((((w.alloc (.cells #[.slice none 0 0] 28)).alloc (.cells #[.int .i64 0, .int .i64 0, .string ⟨#[]⟩] 54)).alloc (.cells #[.slice none 0 0] 28)).alloc (.cells #[.pointer none] 31)).alloc (.cells #[.int .i64 num] 3)) := ⟨_, rfl⟩
  have hbel : Below w.heap.size w w0 := by
    rw [hw0]; exact (((((Below.refl _ w).alloc (Nat.le_refl _) _).alloc (by simp <;> omega) _).alloc (by simp <;> omega) _).alloc (by simp <;> omega) _).alloc (by simp <;> omega) _
  have hsz0 : w0.heap.size = w.heap.size + 5 := by rw [hw0]; simp
  obtain ⟨p1, hp1⟩ : ∃ p, p = w.heap.size := ⟨_, rfl⟩
  obtain ⟨p2, hp2⟩ : ∃ p, p = w.heap.size + 1 := ⟨_, rfl⟩
  obtain ⟨po, hpo⟩ : ∃ p, p = w.heap.size + 1 + 1 := ⟨_, rfl⟩
  obtain ⟨pm, hpm⟩ : ∃ p, p = w.heap.size + 1 + 1 + 1 := ⟨_, rfl⟩
  obtain ⟨pn, hpn⟩ : ∃ p, p = w.heap.size + 1 + 1 + 1 + 1 := ⟨_, rfl⟩
  have hr1 : BoxL w0 p1 [.slice none 0 0] := by rw [hw0, hp1]; exact BoxL.of1 (by go_simp) (by go_simp)
  have hr2 : BoxL w0 p2 [.int .i64 0, .int .i64 0, .string ⟨#[]⟩] := by rw [hw0, hp2]; exact BoxL.of3 (by go_simp) (by go_simp) (by go_simp) (by go_simp) (by go_simp) (by go_simp)
  have hbo : BoxL w0 po [.slice none 0 0] := by rw [hw0, hpo]; exact BoxL.of1 (by go_simp) (by go_simp)
  have hcm : w0.cell? ⟨pm, 0, none⟩ = some (.pointer none) := by rw [hw0, hpm]; go_simp
  have hcn : w0.cell? ⟨pn, 0, none⟩ = some (.int .i64 num) := by rw [hw0, hpn]; go_simp
  have hit0 := meach1_nil num pm pn w.heap.size (fun _ => False) w0 hcm
  have HW := Lib.hid hw0
  clear hw0
  gi_wp2_with fail
  rw [← HW.out]
  rw [← hpn, ← hpm, ← hpo, ← hp2, ← hp1]
  clear HW
  have HQ : w.heap.size ≤ p1 ∧ p1 < p2 ∧ p2 < po ∧ po < pm ∧ pm < pn ∧ pn < w0.heap.size := by omega
  clear hp1 hp2 hpo hpm hpn hsz0
  obtain ⟨q1, q2, q3, q4, q4b, q5⟩ := HQ
  refine wp_rangeA (gf := 52) (lb := #[.pointer (some ⟨pm, 0, none⟩), .pointer (some ⟨pn, 0, none⟩)]) rfl enters_meach1 hit0 (fun A C D => KeepP.trans) (fun A C h => KeepP.ext (fun k hk => False.elim hk) h) (fun W v x h => by rw [h]; rfl) (by omega)
    (fun pre S W => (S = fun k => k = po) ∧ BoxL W p1 [.slice none 0 0] ∧ BoxL W p2 [.int .i64 0, .int .i64 0, .string ⟨#[]⟩] ∧ BoxL W po [.slice none 0 0] ∧ Below w.heap.size w W ∧ w0.heap.size ≤ W.heap.size)
    (fun c pre S W => False)
    ?_ ?_ (fun k => k = po) (fun k hk => ⟨by omega, by omega⟩) ?_
    (fun x a' W => False)
    ?_ ?assign ?body ?done ?stop
  case assign =>
    rintro l pre x v S W K hi hnv hpre hK
    simp at hpre
  case body =>
    rintro l pre x a' S W hi hx hpre hS
    simp at hpre
  case done =>
    rintro D S W hD ⟨rfl, hB1, hB2, hBo, hB, hsz⟩ hK
    have eo := hBo.cell 0 _ rfl
    have e10 := hB1.cell 0 _ rfl
    have f10 := hB1.free 0 (by simp)
    have e20 := hB2.cell 0 _ rfl
    have f20 := hB2.free 0 (by simp)
    have e21 := hB2.cell 1 _ rfl
    have f21 := hB2.free 1 (by simp)
    have e22 := hB2.cell 2 _ rfl
    have f22 := hB2.free 2 (by simp)
    have hne12 : p1 ≠ p2 := by omega
    have hne21 : p2 ≠ p1 := by omega
    gi_wp2_with fail
    obtain ⟨W3, hw3⟩ : ∃ W3, W3 = ((((W.setCell ⟨p1, 0, none⟩ (.slice none 0 0)).setCell ⟨p2, 0, none⟩ (.int .i64 0)).setCell ⟨p2, 1, none⟩ (.int .i64 0)).setCell ⟨p2, 2, none⟩ (.string ⟨#[]⟩)) := ⟨_, rfl⟩
    rw [← hw3]
    have hR1 : BoxL W3 p1 [.slice none 0 0] := by rw [hw3]; exact (((hB1.set 0 _ (by simp)).setOther hne12 0 _).setOther hne12 1 _).setOther hne12 2 _
    have hR2 : BoxL W3 p2 [.int .i64 0, .int .i64 0, .string ⟨#[]⟩] := by rw [hw3]; exact (((hB2.setOther hne21 0 _).set 0 _ (by simp)).set 1 _ (by simp)).set 2 _ (by simp)
    have hB3 : Below w.heap.size w W3 := by rw [hw3]; exact (((hB.setCell (p := ⟨p1, 0, none⟩) (by show w.heap.size ≤ p1; omega) _).setCell (p := ⟨p2, 0, none⟩) (by show w.heap.size ≤ p2; omega) _).setCell (p := ⟨p2, 1, none⟩) (by show w.heap.size ≤ p2; omega) _).setCell (p := ⟨p2, 2, none⟩) (by show w.heap.size ≤ p2; omega) _
    have hkeep : ∀ k, p2 < k → W3.heap[k]? = W.heap[k]? := fun k hk => by rw [hw3]; exact (((Below.heap_setCell _ _ _ _ (by show k ≠ p2; omega)).trans (Below.heap_setCell _ _ _ _ (by show k ≠ p2; omega))).trans (Below.heap_setCell _ _ _ _ (by show k ≠ p2; omega))).trans (Below.heap_setCell _ _ _ _ (by show k ≠ p1; omega))
    have hK3 := (hkeep D (by omega)).trans hK
    clear hw3 eo e10 f10 e20 f20 e21 f21 e22 f22
    have hx := ext_deferredP hK3
    have h1 := (hR1.ext hx (by simp)).cell 0 _ rfl
    have h20 := (hR2.ext hx (by simp)).cell 0 _ rfl
    have h21 := (hR2.ext hx (by simp)).cell 1 _ rfl
    have h22 := (hR2.ext hx (by simp)).cell 2 _ rfl
    refine ⟨by simp, .inl ⟨_, _, rfl, run_takeDeferred hK3, ?_⟩⟩
    refine ⟨.tuple #[.slice none 0 0, diagV 0 0 []], ?_, ?_⟩
    · simp [results, Try.results29, go_sem, h1, h20, h21, h22]
    · exact ⟨rfl, below_ext hB3 hx (by have := hbel.size; omega) hB3.size⟩
  case stop =>
    rintro D c pre S W hD hp h hK
    exact h.elim
  · rintro pre S W W' ⟨rfl, hB1, hB2, hBo, hB, hsz⟩ hx
    exact ⟨rfl, hB1.ext hx (by simp), hB2.ext hx (by simp), hBo.ext hx (by simp), below_ext hB hx (by omega) hB.size, Nat.le_trans hsz hx.size⟩
  · rintro c pre S W W' h hx
    exact h.elim
  · exact ⟨rfl, hr1, hr2, hbo, hbel, Nat.le_refl _⟩
  · rintro x a' W W' h hx
    exact h.elim
end Go.Proofs.Ytjcldnkgidfifaa
