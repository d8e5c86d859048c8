/-
  The document's protocol buffers: PutVarint, Little, Put.
-/
import Derived.Test.YtjcldnkgidfifaaPbC
import Derived.BigQuiet
import Derived.Deep.Cut
import Derived.Deep.DeepCutAuto
namespace Go.Proofs.Ytjcldnkgidfifaa
open Go.RowKit
set_option linter.unusedVariables false
set_option linter.unusedSimpArgs false
set_option maxRecDepth 100000 in
set_option maxHeartbeats 1000000 in
theorem rvarint_any (n : Nat) (w : World) (hn : n < 18446744073709551616) :
    Calls Try.prog 16 #[.int .u64 n] w fun e w' => e = .returned (.string ⟨(vbytes n).toArray⟩) ∧ Below w.heap.size w w' := by
  have hl10 : (vnats n).length ≤ 10 := by rw [vnats_len]; exact vbytes_ten hn
  have HS := Lib.hid (str_vnats n)
  go_enter Try.func16, Try.ntmps16
  go_wp2_with fail
  go_loopg [0, 3] n (fun m nv ov wr => ∃ (ds : List Nat), nv = .int .u64 (m : Int) ∧ m ≤ n ∧ Owns w.heap.size 5 wr ov (ints .u8 ds) ∧ Hid (ds ++ vnats m = vnats n) ∧ ds.length ≤ 9 ∧ Below w.heap.size w wr)
  case atStart => exact ⟨[], rfl, Nat.le_refl _, Owns.nil _ _ _, Lib.hid rfl, by simp, Below.refl _ _⟩
  case round =>
    obtain ⟨ds, rfl, hmn, ho, HV, hdl, hb⟩ := hrel
    have hlk := ints_length .u8 ds
    have hm64 : gk < 18446744073709551616 := by omega
    by_cases h128 : gk < 128
    · have hc : ¬ (128 : Int) ≤ (gk : Int) := by omega
      have hfin : Hid (str (ds ++ [gk]) = vbytes n) := Lib.hid (by rw [← HS.out, ← HV.out, vnats_lt h128])
      go_wp2_with (at_builtin; refine append1 E8 ho rfl rfl rfl rfl rfl (by rw [hlk]; omega) (by rw [hlk]; unfold maxLen; omega) hb.size ?_; intro v' w5 ho5 hb5 hg5; rw [show ints .u8 ds ++ [Value.int .u8 (gk : Int)] = ints .u8 (ds ++ [gk]) from by rw [ints_append]; rfl] at ho5; obtain ⟨ao3, cap3, rfl, hcap3, hcapm3, hnil3, hc3⟩ := ho5.toInts; have hcv := conv_string (P := Try.prog) Try.underlying78 Try.underlying5 Try.underlying9 hc3 cap3; generalize hrl : (ds ++ [gk]).length = rl at *; have HR := Lib.hid hrl; clear hrl)
      go_ret
      exact ⟨ret_one (congrArg (fun l : List UInt8 => Value.string ⟨l.toArray⟩) hfin.out), hb.trans (hb5.mono (Nat.le_refl _))⟩
    · have hc : (128 : Int) ≤ (gk : Int) := by omega
      go_wp2_with (at_builtin; refine append1 E8 ho rfl rfl rfl rfl rfl (by rw [hlk]; omega) (by rw [hlk]; unfold maxLen; omega) hb.size ?_; intro v' w5 ho5 hb5 hg5)
      go_roundg (gk / 128)
      case measure => omega
      case rel => exact ⟨ds ++ [gk % 128 + 128], by go_num, by omega, by rw [ints_append, show ints .u8 [gk % 128 + 128] = [Value.int .u8 ((gk : Int) % 128 + 128)] by simp [ints]]; exact ho5, Lib.hid (by rw [← HV.out, vnats_ge (n := gk) (by omega)]; simp), by have h8 := congrArg List.length HV.out; rw [List.length_append] at h8; have h9 := vbytes_pos (gk / 128); rw [← vnats_len] at h9; rw [vnats_ge (n := gk) (by omega)] at h8; simp at h8 ⊢; omega, hb.trans (hb5.mono (Nat.le_refl _))⟩

theorem littleN_takeK {K n k : Nat} (h : k < K) : (littleN K n).take (k + 1) = (littleN K n).take k ++ [n / 2 ^ (8 * k) % 256] := by
  have hl : k < (littleN K n).length := by rw [littleN_len]; exact h
  have hg := littleN_get K n k h
  rw [List.take_succ_eq_append_getElem hl]
  rw [List.getElem?_eq_getElem hl] at hg
  rw [Option.some.inj hg]
set_option maxRecDepth 100000 in
set_option maxHeartbeats 1000000 in
theorem rlittle_any (n k : Nat) (w : World) (hk : k ≤ 8) (hn : n < 18446744073709551616) :
    Calls Try.prog 20 #[.int .u64 (n : Int), .int .i64 (k : Int)] w fun e w' => e = .returned (.string ⟨(littleB k n).toArray⟩) ∧ Below w.heap.size w w' := by
  have HS := Lib.hid (str_little k n)
  go_enter Try.func20, Try.ntmps20
  go_wp2_with fail
  go_loopg [0, 5, 6] k (fun g nv bv iv wr => ∃ (i m : Nat), i + g = k ∧ nv = .int .u64 (m : Int) ∧ iv = .int .i64 (i : Int) ∧ Hid (m = n / 2 ^ (8 * i)) ∧ m ≤ n ∧ Owns w.heap.size 5 wr bv (ints .u8 ((littleN k n).take i)) ∧ Below w.heap.size w wr)
  case atStart => exact ⟨0, n, by omega, rfl, rfl, Lib.hid (by simp), Nat.le_refl _, Owns.nil _ _ _, Below.refl _ _⟩
  case round =>
    obtain ⟨i, m, hi, rfl, rfl, HMm, hmn, ho, hb⟩ := hrel
    have hlk := ints_length .u8 ((littleN k n).take i)
    have hlk2 := List.length_take_le i (littleN k n)
    by_cases hlt : i < k
    · have hi1 : (i : Int) < (k : Int) := by omega
      have HON : Hid (ints .u8 ((littleN k n).take (i + 1)) = ints .u8 ((littleN k n).take i) ++ [.int .u8 ((m : Int) % 256)]) := Lib.hid (by
        rw [littleN_takeK hlt, ints_append, ← HMm.out]
        simp [ints])
      have HM2 : Hid (m / 256 = n / 2 ^ (8 * (i + 1))) := Lib.hid (by rw [HMm.out, Nat.div_div_eq_div_mul, show 8 * (i + 1) = 8 * i + 8 by omega, Nat.pow_add])
      go_wp2_with (at_builtin; refine append1 E8 ho rfl rfl rfl rfl rfl (by rw [hlk]; omega) (by rw [hlk]; unfold maxLen; omega) hb.size ?_; intro v' w5 ho5 hb5 hg5)
      go_roundg (gk - 1)
      case measure => omega
      case rel => exact ⟨i + 1, m / 256, by omega, by go_num, by go_num, HM2, by omega, by rw [HON.out]; exact ho5, hb.trans (hb5.mono (Nat.le_refl _))⟩
    · have hi1 : ¬ (i : Int) < (k : Int) := by omega
      have hfull : (littleN k n).take i = littleN k n := List.take_of_length_le (by rw [littleN_len]; omega)
      rw [hfull] at ho
      clear hfull hlk hlk2
      obtain ⟨ao3, cap3, rfl, hcap3, hcapm3, hnil3, hc3⟩ := ho.toInts
      have hcv := conv_string (P := Try.prog) Try.underlying78 Try.underlying5 Try.underlying9 hc3 cap3
      rw [HS.out] at hcv
      generalize hrl : (littleN k n).length = rl at *
      have HR := Lib.hid hrl
      clear hrl
      go_wp2_with fail
      go_ret
      exact ⟨rfl, hb⟩
-- (Put)
set_option maxRecDepth 100000 in
set_option maxHeartbeats 4000000 in
theorem rput0_any (num : Int) (val : Nat) (T : List UInt8) (c : Int) (w : World) (HR : Hid ((T, c) = putR num 0 val [])) (hval : val < 18446744073709551616) :
    Calls Try.prog 22 #[fldV num 0 0 val []] w fun e w' => e = .returned (.tuple #[.string ⟨T.toArray⟩, .int .i64 c]) ∧ Below w.heap.size w w' := by
  obtain ⟨w0, hw0⟩ : ∃ w0, w0 = (w.alloc (.cells #[.int .i64 num, .int .i64 0, .int .i64 0, .int .u64 (val : Int), .string ⟨#[]⟩] 37)) := ⟨_, rfl⟩
  have hbf : Below w.heap.size w w0 := by rw [hw0]; exact ((Below.refl _ w).alloc (Nat.le_refl _) _)
  obtain ⟨px, hpx⟩ : ∃ p, p = w.heap.size := ⟨_, rfl⟩
  have hbx : BoxL w0 px [.int .i64 num, .int .i64 0, .int .i64 0, .int .u64 (val : Int), .string ⟨#[]⟩] := by rw [hw0, hpx]; exact BoxL.of5 (by go_simp) (by go_simp) (by go_simp) (by go_simp) (by go_simp) (by go_simp) (by go_simp) (by go_simp) (by go_simp) (by go_simp)
  have HP : Hid (w.heap.size ≤ px) := Lib.hid (by omega)
  have HW := Lib.hid hw0; clear hw0
  go_enter Try.func22, Try.ntmps22
  go_upto_region 1 with fail
  rw [← HW.out, ← hpx]
  clear hpx HW
  by_cases hc1 : num < 1
  · have hno : false = rightF num 0 val [] := by unfold rightF; simp; omega
    have h9 := HR.out; rw [putR_no hno] at h9; injection h9 with h8 h7; subst h8; subst h7
    clear HR hno
    have ex0 := hbx.cell 0 _ rfl
    have ex1 := hbx.cell 1 _ rfl
    have ex2 := hbx.cell 2 _ rfl
    have ex3 := hbx.cell 3 _ rfl
    have ex4 := hbx.cell 4 _ rfl
    go_wp2_with fail
    go_ret2
    exact ⟨rfl, hbf⟩
  by_cases hc2 : 536870911 < num
  · have hno : false = rightF num 0 val [] := by unfold rightF; simp; omega
    have h9 := HR.out; rw [putR_no hno] at h9; injection h9 with h8 h7; subst h8; subst h7
    clear HR hno
    have ex0 := hbx.cell 0 _ rfl
    have ex1 := hbx.cell 1 _ rfl
    have ex2 := hbx.cell 2 _ rfl
    have ex3 := hbx.cell 3 _ rfl
    have ex4 := hbx.cell 4 _ rfl
    go_wp2_with fail
    go_ret2
    exact ⟨rfl, hbf⟩
  obtain ⟨n, rfl⟩ : ∃ n : Nat, num = (n : Int) := ⟨num.toNat, by omega⟩
  have hyes : true = rightF (n : Int) 0 val [] := by
    unfold rightF
    have q1 : (1 : Int) ≤ (n : Int) := by omega
    have q2 : (n : Int) ≤ 536870911 := by omega
    simp [q1, q2]
  have h9 := HR.out
  rw [putR_yes hyes] at h9
  injection h9 with hT hc
  subst hc
  clear HR hyes
  obtain ⟨m, hm⟩ : ∃ m, m = n * 8 + 0 := ⟨_, rfl⟩
  have hm64 : m < 18446744073709551616 := by omega
  have hlA := vbytes_ten hm64
  have hmi : (n : Int) * 8 = (m : Int) := by omega
  have HMI := Lib.hid hmi
  clear hmi
  have hT2 : T = vbytes m ++ vbytes val := by rw [hT, hm]; unfold encF; simp
  have HT := Lib.hid hT2
  clear hT hT2 hm
  have ex0 := hbx.cell 0 _ rfl
  have ex1 := hbx.cell 1 _ rfl
  have ex2 := hbx.cell 2 _ rfl
  have ex3 := hbx.cell 3 _ rfl
  have ex4 := hbx.cell 4 _ rfl
  go_wp2_with fail
  rw [HMI.out]
  refine (rvarint_any m _ hm64).mono ?_
  rintro e w2 ⟨rfl, hb⟩
  clear ex0 ex1 ex2 ex3 ex4
  replace hbx := hbx.kept hb
  replace hbf := hbf.trans (hb.mono hbf.size)
  clear hb
  generalize vbytes m = A at *
  obtain ⟨B, hB⟩ : ∃ B, B = vbytes val := ⟨_, rfl⟩
  have hlB : B.length ≤ 10 := by rw [hB]; exact vbytes_ten hval
  rw [← hB] at HT
  have HBB := Lib.hid hB
  clear hB
  have ex0 := hbx.cell 0 _ rfl
  have ex1 := hbx.cell 1 _ rfl
  have ex2 := hbx.cell 2 _ rfl
  have ex3 := hbx.cell 3 _ rfl
  have ex4 := hbx.cell 4 _ rfl
  go_wp2_with fail
  refine (rvarint_any val _ hval).mono ?_
  rintro e w3 ⟨rfl, hb⟩
  clear ex0 ex1 ex2 ex3 ex4
  replace hbx := hbx.kept hb
  replace hbf := hbf.trans (hb.mono hbf.size)
  clear hb
  rw [← HBB.out]
  have hab := bytes_app A B
  rw [← HT.out] at hab
  go_wp2_with fail
  go_ret2
  exact ⟨rfl, hbf⟩
set_option maxRecDepth 100000 in
set_option maxHeartbeats 4000000 in
theorem rput2_any (num : Int) (data : List UInt8) (T : List UInt8) (c : Int) (w : World) (HR : Hid ((T, c) = putR num 2 0 data)) (hdl : data.length ≤ 9223372036854775807) :
    Calls Try.prog 22 #[fldV num 2 0 0 data] w fun e w' => e = .returned (.tuple #[.string ⟨T.toArray⟩, .int .i64 c]) ∧ Below w.heap.size w w' := by
  obtain ⟨w0, hw0⟩ : ∃ w0, w0 = (w.alloc (.cells #[.int .i64 num, .int .i64 2, .int .i64 0, .int .u64 0, .string ⟨data.toArray⟩] 37)) := ⟨_, rfl⟩
  have hbf : Below w.heap.size w w0 := by rw [hw0]; exact ((Below.refl _ w).alloc (Nat.le_refl _) _)
  obtain ⟨px, hpx⟩ : ∃ p, p = w.heap.size := ⟨_, rfl⟩
  have hbx : BoxL w0 px [.int .i64 num, .int .i64 2, .int .i64 0, .int .u64 0, .string ⟨data.toArray⟩] := by rw [hw0, hpx]; exact BoxL.of5 (by go_simp) (by go_simp) (by go_simp) (by go_simp) (by go_simp) (by go_simp) (by go_simp) (by go_simp) (by go_simp) (by go_simp)
  have HP : Hid (w.heap.size ≤ px) := Lib.hid (by omega)
  have HW := Lib.hid hw0; clear hw0
  go_enter Try.func22, Try.ntmps22
  go_upto_region 1 with fail
  rw [← HW.out, ← hpx]
  clear hpx HW
  by_cases hc1 : num < 1
  · have hno : false = rightF num 2 0 data := by unfold rightF; simp; omega
    have h9 := HR.out; rw [putR_no hno] at h9; injection h9 with h8 h7; subst h8; subst h7
    clear HR hno
    have ex0 := hbx.cell 0 _ rfl
    have ex1 := hbx.cell 1 _ rfl
    have ex2 := hbx.cell 2 _ rfl
    have ex3 := hbx.cell 3 _ rfl
    have ex4 := hbx.cell 4 _ rfl
    go_wp2_with fail
    go_ret2
    exact ⟨rfl, hbf⟩
  by_cases hc2 : 536870911 < num
  · have hno : false = rightF num 2 0 data := by unfold rightF; simp; omega
    have h9 := HR.out; rw [putR_no hno] at h9; injection h9 with h8 h7; subst h8; subst h7
    clear HR hno
    have ex0 := hbx.cell 0 _ rfl
    have ex1 := hbx.cell 1 _ rfl
    have ex2 := hbx.cell 2 _ rfl
    have ex3 := hbx.cell 3 _ rfl
    have ex4 := hbx.cell 4 _ rfl
    go_wp2_with fail
    go_ret2
    exact ⟨rfl, hbf⟩
  by_cases hc3 : 60000 < data.length
  · have hno : false = rightF num 2 0 data := by unfold rightF; simp; omega
    have h9 := HR.out; rw [putR_no hno] at h9; injection h9 with h8 h7; subst h8; subst h7
    clear HR hno
    have ex0 := hbx.cell 0 _ rfl
    have ex1 := hbx.cell 1 _ rfl
    have ex2 := hbx.cell 2 _ rfl
    have ex3 := hbx.cell 3 _ rfl
    have ex4 := hbx.cell 4 _ rfl
    have hc3i : (60000 : Int) < (data.length : Int) := by omega
    go_wp2_with fail
    go_ret2
    exact ⟨rfl, hbf⟩
  obtain ⟨n, rfl⟩ : ∃ n : Nat, num = (n : Int) := ⟨num.toNat, by omega⟩
  have hyes : true = rightF (n : Int) 2 0 data := by
    unfold rightF
    have q1 : (1 : Int) ≤ (n : Int) := by omega
    have q2 : (n : Int) ≤ 536870911 := by omega
    have q3 : data.length ≤ 60000 := by omega
    simp [q1, q2, q3]
  have h9 := HR.out
  rw [putR_yes hyes] at h9
  injection h9 with hT hc
  subst hc
  clear HR hyes
  obtain ⟨m, hm⟩ : ∃ m, m = n * 8 + 2 := ⟨_, rfl⟩
  have hm64 : m < 18446744073709551616 := by omega
  have hlA := vbytes_ten hm64
  have hmi : (n : Int) * 8 + 2 = (m : Int) := by omega
  have HMI := Lib.hid hmi
  clear hmi
  have hT2 : T = vbytes m ++ (vbytes data.length ++ data) := by rw [hT, hm]; unfold encF; simp
  have HT := Lib.hid hT2
  clear hT hT2 hm
  have hdl6 : ((data.length : Nat) : Int) ≤ 60000 := by omega
  have ex0 := hbx.cell 0 _ rfl
  have ex1 := hbx.cell 1 _ rfl
  have ex2 := hbx.cell 2 _ rfl
  have ex3 := hbx.cell 3 _ rfl
  have ex4 := hbx.cell 4 _ rfl
  go_wp2_with fail
  rw [HMI.out]
  refine (rvarint_any m _ hm64).mono ?_
  rintro e w2 ⟨rfl, hb⟩
  clear ex0 ex1 ex2 ex3 ex4
  replace hbx := hbx.kept hb
  replace hbf := hbf.trans (hb.mono hbf.size)
  clear hb
  generalize vbytes m = A at *
  obtain ⟨B, hB⟩ : ∃ B, B = vbytes data.length := ⟨_, rfl⟩
  have hlB : B.length ≤ 10 := by rw [hB]; exact vbytes_ten (by omega)
  rw [← hB] at HT
  have HBB := Lib.hid hB
  clear hB
  have hab := bytes_app A B
  obtain ⟨AB, hAB⟩ : ∃ l, l = A ++ B := ⟨_, rfl⟩
  have hlAB : AB.length ≤ 20 := by rw [hAB, List.length_append]; omega
  have hac := bytes_app AB data
  rw [← hAB] at hab
  rw [show AB ++ data = T by rw [hAB, HT.out, List.append_assoc]] at hac
  clear hAB
  have hs1 : ¬ 9223372036854775807 < A.length + B.length := by omega
  have hs2 : ¬ 9223372036854775807 < AB.length + data.length := by omega
  have ex0 := hbx.cell 0 _ rfl
  have ex1 := hbx.cell 1 _ rfl
  have ex2 := hbx.cell 2 _ rfl
  have ex3 := hbx.cell 3 _ rfl
  have ex4 := hbx.cell 4 _ rfl
  go_wp2_with fail
  clear ex0 ex1 ex2 ex3 ex4
  refine wp_region_seq (S := fun w' => BoxL w' px [.int .i64 (n : Int), .int .i64 2, .int .i64 0, .int .u64 0, .string ⟨data.toArray⟩]) [(true, 0), (true, 1), (true, 2), (true, 3), (true, 4), (true, 7), (true, 8), (false, 5), (true, 6), (true, 9), (true, 10)] (by kernel_rfl) (by kernel_rfl) (by kernel_rfl) (by kernel_rfl) (by kernel_rfl) (fun d _ _ _ _ h => by cases d <;> exact h) hbx.drew (fun _ => ?_)
  simp only [pickOps, List.append_eq, List.cons_append, List.nil_append, List.getElem?_toArray, List.getElem?_cons_succ, List.getElem?_cons_zero]
  have hb : Below w2.heap.size w2 w2.drew := (Below.refl _ _).drew
  generalize w2.drew = w3 at hb ⊢
  replace hbx := hbx.kept hb
  replace hbf := hbf.trans (hb.mono hbf.size)
  clear hb
  repeat (first | (refine seq_take (v := ?_) (by rfl) ?_ ?_; rotate_left; (· intro w hSw; (try dsimp only at hSw); have hLx := hSw; clear hSw; have ex0 := hLx.cell 0 _ rfl; have ex1 := hLx.cell 1 _ rfl; have ex3 := hLx.cell 3 _ rfl; have ex4 := hLx.cell 4 _ rfl; clear hLx; go_simp; all_goals with_reducible rfl); (try simp only [Act.put, List.setIfInBounds_toArray, List.set_cons_zero, List.set_cons_succ])) | (refine seq_leave (by rfl) ?_; (try simp only [Act.put, List.setIfInBounds_toArray, List.set_cons_zero, List.set_cons_succ])))
  refine seq_step (by rfl) (fun K hK => ?_)
  go_simp
  try rw [show IntKind.u64.wrap ((data.length : Nat) : Int) = ((data.length : Nat) : Int) from IntWalk.u64_in _ (by omega)]
  go_at_call 16
  (with_reducible refine (rvarint_any data.length _ (by omega)).mono ?_)
  rintro e w4 ⟨rfl, hb⟩
  rw [← HBB.out]
  replace hbx := hbx.kept hb
  replace hbf := hbf.trans (hb.mono hbf.size)
  clear hb
  first | refine hK.out _ _ hbx (fun _ => ?_) | (go_wp2_with fail; refine hK.out _ _ hbx (fun _ => ?_))
  clear hK K
  (try simp only [Act.put, List.setIfInBounds_toArray, List.set_cons_zero, List.set_cons_succ])
  repeat (first | (refine seq_take (v := ?_) (by rfl) ?_ ?_; rotate_left; (· intro w hSw; (try dsimp only at hSw); have hLx := hSw; clear hSw; have ex0 := hLx.cell 0 _ rfl; have ex1 := hLx.cell 1 _ rfl; have ex3 := hLx.cell 3 _ rfl; have ex4 := hLx.cell 4 _ rfl; clear hLx; go_simp; all_goals with_reducible rfl); (try simp only [Act.put, List.setIfInBounds_toArray, List.set_cons_zero, List.set_cons_succ])) | (refine seq_leave (by rfl) ?_; (try simp only [Act.put, List.setIfInBounds_toArray, List.set_cons_zero, List.set_cons_succ])))
  refine seq_end ?_
  go_wp2_with fail
  go_ret2
  exact ⟨rfl, hbf⟩
end Go.Proofs.Ytjcldnkgidfifaa
