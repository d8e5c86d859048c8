/-
  pbuf: walks (3): Put.
-/
import Derived.Test.YtjcldnkgidfifaaPbB
import Derived.Test.YtjcldnkgidfifaaSeqA
import Derived.Deep.LoopGhost
import Derived.WalkKit
import Derived.OwnWalk
import Derived.WalkMore
import Derived.Deep.DeepCutAuto
namespace Go.Proofs.Ytjcldnkgidfifaa
open Go.RowKit
set_option linter.unusedVariables false
set_option linter.unusedSimpArgs false

/-- What is told of a field that is laid. -/
def putR (num kind : Int) (val : Nat) (data : List UInt8) : List UInt8 × Int := if rightF num kind val data = true then (encF ⟨num.toNat, kind.toNat, 0, val, data⟩, 0) else ([], 1)
theorem putR_no {num kind : Int} {val : Nat} {data : List UInt8} (h : false = rightF num kind val data) : putR num kind val data = ([], 1) := by unfold putR; rw [← h]; rfl
theorem putR_yes {num kind : Int} {val : Nat} {data : List UInt8} (h : true = rightF num kind val data) : putR num kind val data = (encF ⟨num.toNat, kind.toNat, 0, val, data⟩, 0) := by unfold putR; rw [← h]; rfl
theorem rightF_yes {num kind : Int} {val : Nat} {data : List UInt8} (h : true = rightF num kind val data) : ∃ n : Nat, num = (n : Int) ∧ 1 ≤ n ∧ n ≤ 536870911 ∧ ((kind = 0 ∧ data = []) ∨ (kind = 1 ∧ data = []) ∨ (kind = 5 ∧ data = [] ∧ val < 4294967296) ∨ (kind = 2 ∧ val = 0 ∧ data.length ≤ 60000)) := by
  have h9 := h.symm
  unfold rightF at h9
  simp only [Bool.and_eq_true, decide_eq_true_eq] at h9
  obtain ⟨h1, h2, h3⟩ := h9
  refine ⟨num.toNat, by omega, by omega, by omega, ?_⟩
  by_cases k0 : kind = 0
  · rw [if_pos (.inl k0)] at h3; exact .inl ⟨k0, by simpa using h3⟩
  by_cases k1 : kind = 1
  · rw [if_pos (.inr k1)] at h3; exact .inr (.inl ⟨k1, by simpa using h3⟩)
  rw [if_neg (by omega)] at h3
  by_cases k5 : kind = 5
  · rw [if_pos k5] at h3; simp at h3; exact .inr (.inr (.inl ⟨k5, h3⟩))
  rw [if_neg k5] at h3
  by_cases k2 : kind = 2
  · rw [if_pos k2] at h3; simp at h3; exact .inr (.inr (.inr ⟨k2, h3⟩))
  · rw [if_neg k2] at h3; cases h3
theorem or_tag (n k : Nat) (hn : n ≤ 536870911) (hk : k < 8) : bits .or .u64 ((n : Int) * 8) (k : Int) = ((n * 8 + k : Nat) : Int) := by
  have h := bits_join .u64 64 (by decide) (fun n h0 h1 => by rw [IntKind.wrap_u64]; omega) 3 ((n : Int) * 8) (k : Int) (by omega) (by omega) (by omega) (by omega) (by omega) (by omega)
  rw [h]; omega
theorem bytes_app (a b : List UInt8) : (⟨a.toArray⟩ ++ ⟨b.toArray⟩ : ByteArray) = ⟨(a ++ b).toArray⟩ := by
  apply ByteArray.ext; simp

set_option maxRecDepth 100000 in
set_option maxHeartbeats 4000000 in
/-- Put. -/
theorem pput_any (num kind place : Int) (val : Nat) (data T : List UInt8) (c : Int) (w : World) (HR : Hid ((T, c) = putR num kind val data)) (hval : val < 18446744073709551616) (hdl : data.length ≤ 9223372036854775807) : Calls Try.prog 39 #[fldV num kind place val data] w fun e w' => e = .returned (.tuple #[.string ⟨T.toArray⟩, .int .i64 c]) ∧ Below w.heap.size w w' := by
  obtain ⟨r, hr⟩ : ∃ r, r = rightF num kind val data := ⟨_, rfl⟩
  have HB := Lib.hid hr
  clear hr
  obtain ⟨w0, hw0⟩ : ∃ w0, w0 = (w.alloc (.cells #[.int .i64 num, .int .i64 kind, .int .i64 place, .int .u64 (val : Int), .string ⟨data.toArray⟩] 77)) := ⟨_, rfl⟩
  have hbf : Below w.heap.size w w0 := by rw [hw0]; exact ((Below.refl _ w).alloc (Nat.le_refl _) _)
  obtain ⟨px, hpx⟩ : ∃ p, p = w.heap.size := ⟨_, rfl⟩
  have hbx : BoxL w0 px [.int .i64 num, .int .i64 kind, .int .i64 place, .int .u64 (val : Int), .string ⟨data.toArray⟩] := by rw [hw0, hpx]; exact BoxL.of5 (by go_simp) (by go_simp) (by go_simp) (by go_simp) (by go_simp) (by go_simp) (by go_simp) (by go_simp) (by go_simp) (by go_simp)
  have HP : Hid (w.heap.size ≤ px) := Lib.hid (by omega)
  have HW := Lib.hid hw0; clear hw0
  go_enter Try.func39, Try.ntmps39
  go_upto_region 1 with fail
  rw [← HW.out, ← hpx]
  clear hpx HW
  have ex0 := hbx.cell 0 _ rfl
  have ex1 := hbx.cell 1 _ rfl
  have ex2 := hbx.cell 2 _ rfl
  have ex3 := hbx.cell 3 _ rfl
  have ex4 := hbx.cell 4 _ rfl
  go_wp2_with fail
  refine (right_b num kind place val data r _ HB hval hdl).mono ?_
  rintro e w1 ⟨rfl, hb⟩
  clear ex0 ex1 ex2 ex3 ex4
  replace hbx := hbx.kept hb
  replace hbf := hbf.trans (hb.mono hbf.size)
  clear hb
  cases r
  case false =>
    have h9 := HR.out; rw [putR_no HB.out] at h9; injection h9 with h8 h7; subst h8; subst h7
    clear HR HB
    have ex0 := hbx.cell 0 _ rfl
    have ex1 := hbx.cell 1 _ rfl
    have ex2 := hbx.cell 2 _ rfl
    have ex3 := hbx.cell 3 _ rfl
    have ex4 := hbx.cell 4 _ rfl
    go_wp2_with fail
    go_ret2
    exact ⟨rfl, hbf⟩
  case true =>
    obtain ⟨n, rfl, hn1, hn2, hcase⟩ := rightF_yes HB.out
    have h9 := HR.out
    rw [putR_yes HB.out] at h9
    injection h9 with hT hc
    subst hc
    clear HR HB
    rcases hcase with ⟨rfl, rfl⟩ | ⟨rfl, rfl⟩ | ⟨rfl, rfl, hv32⟩ | ⟨rfl, rfl, hd6⟩
    · skip
      obtain ⟨m, hm⟩ : ∃ m, m = n * 8 + 0 := ⟨_, rfl⟩
      have hor := or_tag n 0 hn2 (by omega)
      rw [← hm, show ((0 : Nat) : Int) = 0 from rfl] at hor
      have hm64 : m < 18446744073709551616 := by omega
      have hT2 : T = vbytes m ++ vbytes val := by rw [hT, hm]; unfold encF; simp
      have HT := Lib.hid hT2
      clear hT hT2 hm
      have hlA := vbytes_ten hm64
      have ex0 := hbx.cell 0 _ rfl
      have ex1 := hbx.cell 1 _ rfl
      have ex2 := hbx.cell 2 _ rfl
      have ex3 := hbx.cell 3 _ rfl
      have ex4 := hbx.cell 4 _ rfl
      go_wp2_with fail
      refine (pvarint_any m _ hm64).mono ?_
      rintro e w2 ⟨rfl, hb⟩
      clear ex0 ex1 ex2 ex3 ex4
      replace hbx := hbx.kept hb
      replace hbf := hbf.trans (hb.mono hbf.size)
      clear hb
      clear hor
      generalize vbytes m = A at *
      obtain ⟨B, hB⟩ : ∃ B, B = vbytes val := ⟨_, rfl⟩
      have hlB : B.length ≤ 10 := by rw [hB]; exact vbytes_ten hval
      rw [← hB] at HT
      have HBB := Lib.hid hB
      clear hB
      have ex0 := hbx.cell 0 _ rfl
      have ex1 := hbx.cell 1 _ rfl
      have ex2 := hbx.cell 2 _ rfl
      have ex3 := hbx.cell 3 _ rfl
      have ex4 := hbx.cell 4 _ rfl
      go_wp2_with fail
      refine (pvarint_any val _ hval).mono ?_
      rintro e w3 ⟨rfl, hb⟩
      clear ex0 ex1 ex2 ex3 ex4
      replace hbx := hbx.kept hb
      replace hbf := hbf.trans (hb.mono hbf.size)
      clear hb
      rw [← HBB.out]
      have hab := bytes_app A B
      rw [← HT.out] at hab
      have ex0 := hbx.cell 0 _ rfl
      have ex1 := hbx.cell 1 _ rfl
      have ex2 := hbx.cell 2 _ rfl
      have ex3 := hbx.cell 3 _ rfl
      have ex4 := hbx.cell 4 _ rfl
      go_wp2_with fail
      go_ret2
      exact ⟨rfl, hbf⟩
    · skip
      obtain ⟨m, hm⟩ : ∃ m, m = n * 8 + 1 := ⟨_, rfl⟩
      have hor := or_tag n 1 hn2 (by omega)
      rw [← hm, show ((1 : Nat) : Int) = 1 from rfl] at hor
      have hm64 : m < 18446744073709551616 := by omega
      have hT2 : T = vbytes m ++ littleB 8 val := by rw [hT, hm]; unfold encF; simp
      have HT := Lib.hid hT2
      clear hT hT2 hm
      have hlA := vbytes_ten hm64
      have ex0 := hbx.cell 0 _ rfl
      have ex1 := hbx.cell 1 _ rfl
      have ex2 := hbx.cell 2 _ rfl
      have ex3 := hbx.cell 3 _ rfl
      have ex4 := hbx.cell 4 _ rfl
      go_wp2_with fail
      refine (pvarint_any m _ hm64).mono ?_
      rintro e w2 ⟨rfl, hb⟩
      clear ex0 ex1 ex2 ex3 ex4
      replace hbx := hbx.kept hb
      replace hbf := hbf.trans (hb.mono hbf.size)
      clear hb
      clear hor
      generalize vbytes m = A at *
      obtain ⟨B, hB⟩ : ∃ B, B = littleB 8 val := ⟨_, rfl⟩
      have hlB : B.length ≤ 10 := by rw [hB]; rw [littleB_len]; decide
      rw [← hB] at HT
      have HBB := Lib.hid hB
      clear hB
      have ex0 := hbx.cell 0 _ rfl
      have ex1 := hbx.cell 1 _ rfl
      have ex2 := hbx.cell 2 _ rfl
      have ex3 := hbx.cell 3 _ rfl
      have ex4 := hbx.cell 4 _ rfl
      go_wp2_with fail
      refine (low_any val 8 _ (by decide) hval).mono ?_
      rintro e w3 ⟨rfl, hb⟩
      clear ex0 ex1 ex2 ex3 ex4
      replace hbx := hbx.kept hb
      replace hbf := hbf.trans (hb.mono hbf.size)
      clear hb
      rw [← HBB.out]
      have hab := bytes_app A B
      rw [← HT.out] at hab
      have ex0 := hbx.cell 0 _ rfl
      have ex1 := hbx.cell 1 _ rfl
      have ex2 := hbx.cell 2 _ rfl
      have ex3 := hbx.cell 3 _ rfl
      have ex4 := hbx.cell 4 _ rfl
      go_wp2_with fail
      go_ret2
      exact ⟨rfl, hbf⟩
    · skip
      obtain ⟨m, hm⟩ : ∃ m, m = n * 8 + 5 := ⟨_, rfl⟩
      have hor := or_tag n 5 hn2 (by omega)
      rw [← hm, show ((5 : Nat) : Int) = 5 from rfl] at hor
      have hm64 : m < 18446744073709551616 := by omega
      have hT2 : T = vbytes m ++ littleB 4 val := by rw [hT, hm]; unfold encF; simp
      have HT := Lib.hid hT2
      clear hT hT2 hm
      have hlA := vbytes_ten hm64
      have ex0 := hbx.cell 0 _ rfl
      have ex1 := hbx.cell 1 _ rfl
      have ex2 := hbx.cell 2 _ rfl
      have ex3 := hbx.cell 3 _ rfl
      have ex4 := hbx.cell 4 _ rfl
      go_wp2_with fail
      refine (pvarint_any m _ hm64).mono ?_
      rintro e w2 ⟨rfl, hb⟩
      clear ex0 ex1 ex2 ex3 ex4
      replace hbx := hbx.kept hb
      replace hbf := hbf.trans (hb.mono hbf.size)
      clear hb
      clear hor
      generalize vbytes m = A at *
      obtain ⟨B, hB⟩ : ∃ B, B = littleB 4 val := ⟨_, rfl⟩
      have hlB : B.length ≤ 10 := by rw [hB]; rw [littleB_len]; decide
      rw [← hB] at HT
      have HBB := Lib.hid hB
      clear hB
      have ex0 := hbx.cell 0 _ rfl
      have ex1 := hbx.cell 1 _ rfl
      have ex2 := hbx.cell 2 _ rfl
      have ex3 := hbx.cell 3 _ rfl
      have ex4 := hbx.cell 4 _ rfl
      go_wp2_with fail
      refine (low_any val 4 _ (by decide) hval).mono ?_
      rintro e w3 ⟨rfl, hb⟩
      clear ex0 ex1 ex2 ex3 ex4
      replace hbx := hbx.kept hb
      replace hbf := hbf.trans (hb.mono hbf.size)
      clear hb
      rw [← HBB.out]
      have hab := bytes_app A B
      rw [← HT.out] at hab
      have ex0 := hbx.cell 0 _ rfl
      have ex1 := hbx.cell 1 _ rfl
      have ex2 := hbx.cell 2 _ rfl
      have ex3 := hbx.cell 3 _ rfl
      have ex4 := hbx.cell 4 _ rfl
      go_wp2_with fail
      go_ret2
      exact ⟨rfl, hbf⟩
    · skip
      obtain ⟨m, hm⟩ : ∃ m, m = n * 8 + 2 := ⟨_, rfl⟩
      have hor := or_tag n 2 hn2 (by omega)
      rw [← hm, show ((2 : Nat) : Int) = 2 from rfl] at hor
      have hm64 : m < 18446744073709551616 := by omega
      have hT2 : T = vbytes m ++ (vbytes data.length ++ data) := by rw [hT, hm]; unfold encF; simp
      have HT := Lib.hid hT2
      clear hT hT2 hm
      have hlA := vbytes_ten hm64
      have ex0 := hbx.cell 0 _ rfl
      have ex1 := hbx.cell 1 _ rfl
      have ex2 := hbx.cell 2 _ rfl
      have ex3 := hbx.cell 3 _ rfl
      have ex4 := hbx.cell 4 _ rfl
      go_wp2_with fail
      refine (pvarint_any m _ hm64).mono ?_
      rintro e w2 ⟨rfl, hb⟩
      clear ex0 ex1 ex2 ex3 ex4
      replace hbx := hbx.kept hb
      replace hbf := hbf.trans (hb.mono hbf.size)
      clear hb
      clear hor
      generalize vbytes m = A at *
      obtain ⟨B, hB⟩ : ∃ B, B = vbytes data.length := ⟨_, rfl⟩
      have hlB : B.length ≤ 10 := by rw [hB]; exact vbytes_ten (by omega)
      rw [← hB] at HT
      have HBB := Lib.hid hB
      clear hB
      have hab := bytes_app A B
      obtain ⟨AB, hAB⟩ : ∃ l, l = A ++ B := ⟨_, rfl⟩
      have hlAB : AB.length ≤ 20 := by rw [hAB, List.length_append]; omega
      have hac := bytes_app AB data
      rw [← hAB] at hab
      rw [show AB ++ data = T by rw [hAB, HT.out, List.append_assoc]] at hac
      clear hAB
      have hs1 : ¬ 9223372036854775807 < A.length + B.length := by omega
      have hs2 : ¬ 9223372036854775807 < AB.length + data.length := by omega
      have hdl6 : ((data.length : Nat) : Int) ≤ 60000 := by omega
      have ex0 := hbx.cell 0 _ rfl
      have ex1 := hbx.cell 1 _ rfl
      have ex2 := hbx.cell 2 _ rfl
      have ex3 := hbx.cell 3 _ rfl
      have ex4 := hbx.cell 4 _ rfl
      go_wp2_with fail
      clear ex0 ex1 ex2 ex3 ex4
      refine wp_region_seq (S := fun w' => BoxL w' px [.int .i64 (n : Int), .int .i64 2, .int .i64 place, .int .u64 ((0 : Nat) : Int), .string ⟨data.toArray⟩]) [(true, 0), (true, 1), (true, 2), (true, 3), (true, 4), (true, 7), (true, 8), (false, 5), (true, 6), (true, 9), (true, 10), (true, 11)] (by kernel_rfl) (by kernel_rfl) (by kernel_rfl) (by kernel_rfl) (by kernel_rfl) (fun d _ _ _ _ h => by cases d <;> exact h) hbx.drew (fun _ => ?_)
      simp only [pickOps, List.append_eq, List.cons_append, List.nil_append, List.getElem?_toArray, List.getElem?_cons_succ, List.getElem?_cons_zero]
      have hb : Below w2.heap.size w2 w2.drew := (Below.refl _ _).drew
      generalize w2.drew = w3 at hb ⊢
      replace hbx := hbx.kept hb
      replace hbf := hbf.trans (hb.mono hbf.size)
      clear hb
      repeat (first | (refine seq_take (v := ?_) (by rfl) ?_ ?_; rotate_left; (· intro w hSw; (try dsimp only at hSw); have hLx := hSw; clear hSw; have ex0 := hLx.cell 0 _ rfl; have ex1 := hLx.cell 1 _ rfl; have ex2 := hLx.cell 2 _ rfl; have ex3 := hLx.cell 3 _ rfl; have ex4 := hLx.cell 4 _ rfl; clear hLx; go_simp; all_goals with_reducible rfl); (try simp only [Act.put, List.setIfInBounds_toArray, List.set_cons_zero, List.set_cons_succ])) | (refine seq_leave (by rfl) ?_; (try simp only [Act.put, List.setIfInBounds_toArray, List.set_cons_zero, List.set_cons_succ])))
      refine seq_step (by rfl) (fun K hK => ?_)
      go_simp
      rw [show IntKind.u64.wrap ((data.length : Nat) : Int) = ((data.length : Nat) : Int) from IntWalk.u64_in _ (by omega)]
      go_at_call 38
      (with_reducible refine (pvarint_any data.length _ (by omega)).mono ?_)
      rintro e w4 ⟨rfl, hb⟩
      rw [← HBB.out]
      replace hbx := hbx.kept hb
      replace hbf := hbf.trans (hb.mono hbf.size)
      clear hb
      first | refine hK.out _ _ hbx (fun _ => ?_) | (go_wp2_with fail; refine hK.out _ _ hbx (fun _ => ?_))
      clear hK K
      (try simp only [Act.put, List.setIfInBounds_toArray, List.set_cons_zero, List.set_cons_succ])
      repeat (first | (refine seq_take (v := ?_) (by rfl) ?_ ?_; rotate_left; (· intro w hSw; (try dsimp only at hSw); have hLx := hSw; clear hSw; have ex0 := hLx.cell 0 _ rfl; have ex1 := hLx.cell 1 _ rfl; have ex2 := hLx.cell 2 _ rfl; have ex3 := hLx.cell 3 _ rfl; have ex4 := hLx.cell 4 _ rfl; clear hLx; go_simp; all_goals with_reducible rfl); (try simp only [Act.put, List.setIfInBounds_toArray, List.set_cons_zero, List.set_cons_succ])) | (refine seq_leave (by rfl) ?_; (try simp only [Act.put, List.setIfInBounds_toArray, List.set_cons_zero, List.set_cons_succ])))
      refine seq_end ?_
      go_wp2_with fail
      go_ret2
      exact ⟨rfl, hbf⟩

end Go.Proofs.Ytjcldnkgidfifaa
