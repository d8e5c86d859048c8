/-
  pmsg: walks (3): PutInts, PutFloats.
-/
import Derived.Test.YtjcldnkgidfifaaPmB
namespace Go.Proofs.Ytjcldnkgidfifaa
open Go.RowKit
set_option linter.unusedVariables false
set_option linter.unusedSimpArgs false

theorem MsgStep.after {B p : Nat} {a b c : World} {v : Value} {l : List (Fld × Int)} {e : Int} (h : MsgStep B p v b l e c) (hb : Below a.heap.size a b) : MsgStep B p v a l e c := by
  obtain ⟨v1, h1, h2, h3⟩ := h
  exact ⟨v1, h1, (Keep.of_below (S := Ow p v) hb).trans h2 (fun k _ h => h), fun g hg => (h3 g hg).imp id (Nat.le_trans hb.size)⟩
/-- An int as 64 bits. -/
def u64 (x : Int) : Nat := (x % 18446744073709551616).toNat
theorem u64_lt (x : Int) : u64 x < 18446744073709551616 := by unfold u64; omega
theorem wrap_u64 (x : Int) : IntKind.u64.wrap x = (u64 x : Int) := by rw [IntKind.wrap_u64]; unfold u64; omega
def ivs (xs : List Int) : List Value := xs.map fun n => .int .i64 n
theorem ivs_len (xs : List Int) : (ivs xs).length = xs.length := by simp [ivs]
theorem ivs_get {xs : List Int} {i : Nat} (h : i < xs.length) : (ivs xs)[i]? = some (.int .i64 (xs[i]?.getD 0)) := by simp [ivs, h]
def intsD (xs : List Int) : List UInt8 := xs.flatMap fun x => vbytes (u64 x)
theorem intsD_take {xs : List Int} {i : Nat} (h : i < xs.length) : intsD (xs.take (i + 1)) = intsD (xs.take i) ++ vbytes (u64 (xs[i]?.getD 0)) := by
  unfold intsD
  rw [List.take_succ_eq_append_getElem h, List.flatMap_append, List.getElem?_eq_getElem h]; simp
def intsM (s : List (Fld × Int) × Int) (num : Int) (xs : List Int) : List (Fld × Int) × Int := if xs.length = 0 then s else stepM s num 2 0 (intsD xs)
set_option maxRecDepth 100000 in
set_option maxHeartbeats 1000000 in
theorem putInts_any (B pm : Nat) (v sv : Value) (l : List (Fld × Int)) (e num : Int) (xs : List Int) (w : World) (h : MsgAt B w pm v l e) (hs : ∃ S, RowV S w sv (ivs xs)) (hxl : xs.length ≤ 1000000) (hll : l.length ≤ 1000000) :
    Calls Try.prog 15 #[.pointer (some ⟨pm, 0, none⟩), .int .i64 num, sv] w fun e' w' => e' = .returned (.pointer (some ⟨pm, 0, none⟩)) ∧ MsgStep B pm v w (intsM (l, e) num xs).1 (intsM (l, e) num xs).2 w' := by
  obtain ⟨S, ao, cap, rfl, hc1, hc2, hcells⟩ := hs
  rw [ivs_len] at hc1 ⊢
  unfold maxLen at hc2
  go_enter Try.func15, Try.ntmps15
  go_wp2_with fail
  go_loopg [7, 12] xs.length (fun gg bv iv wr => ∃ (i : Nat) (D : List UInt8), i + gg = xs.length ∧ bv = .string ⟨D.toArray⟩ ∧ iv = .int .i64 (i : Int) ∧ Hid (D = intsD (xs.take i)) ∧ D.length ≤ 10 * i ∧ Below w.heap.size w wr)
  case atStart => exact ⟨0, [], by omega, rfl, rfl, Lib.hid rfl, by simp, Below.refl _ _⟩
  case round =>
    obtain ⟨i, D, hi, rfl, rfl, HD, hDl, hb⟩ := hrel
    by_cases hil : i < xs.length
    · have HTK := Lib.hid (intsD_take hil)
      have hg9 := ivs_get hil
      rcases hcells with h8 | ⟨gb, off, rfl, hgb, hns, hcb⟩
      · rw [h8] at hg9; simp at hg9
      have es := (hb.cell (p := ⟨gb, off + i, none⟩) hgb).trans (hcb i _ hg9)
      have hwr := wrap_u64 (xs[i]?.getD 0)
      have hx64 := u64_lt (xs[i]?.getD 0)
      generalize xs[i]?.getD 0 = x at *
      obtain ⟨n, hn⟩ : ∃ n, n = u64 x := ⟨_, rfl⟩
      rw [← hn] at hwr hx64 HTK
      have hl10 := vbytes_ten hx64
      obtain ⟨E, hE⟩ : ∃ E, E = vbytes n := ⟨_, rfl⟩
      rw [← hE] at hl10 HTK
      have HE := Lib.hid hE
      have hab := bytes_app D E
      obtain ⟨DE, hDE⟩ : ∃ l, l = D ++ E := ⟨_, rfl⟩
      rw [← hDE] at hab
      have HDE := Lib.hid hDE
      have q1 : (i : Int) < (xs.length : Int) := by omega
      have q2 : (0 : Int) ≤ (i : Int) := by omega
      clear hcb hg9 hn hE hDE
      go_wp2_with fail
      refine (pvarint_any n _ hx64).mono ?_
      rintro e' w2 ⟨rfl, hb2⟩
      rw [← HE.out]
      clear hwr es
      go_wp2_with fail
      go_roundg (gk - 1)
      case measure => omega
      case rel => exact ⟨i + 1, DE, by omega, rfl, by go_num, Lib.hid (by rw [HTK.out, HDE.out, HD.out]), by rw [HDE.out, List.length_append]; omega, hb.trans (hb2.mono hb.size)⟩
    · have q1 : ¬ (i : Int) < (xs.length : Int) := by omega
      have hfin : D = intsD xs := by rw [HD.out, List.take_of_length_le (by omega)]
      have HF := Lib.hid hfin
      clear hfin
      have hm := h.kept hb
      by_cases hz : xs.length = 0
      · have q3 : ¬ (0 : Int) < (xs.length : Int) := by omega
        have hst : intsM (l, e) num xs = (l, e) := by unfold intsM; rw [if_pos hz]
        have HST := Lib.hid hst
        clear hst hz
        go_wp2_with fail
        go_ret
        rw [HST.out]
        exact ⟨rfl, MsgStep.of_below h hb⟩
      · have q3 : (0 : Int) < (xs.length : Int) := by omega
        have hst : intsM (l, e) num xs = stepM (l, e) num 2 0 D := by unfold intsM; rw [if_neg hz, HF.out]
        have HST := Lib.hid hst
        clear hst
        go_wp2_with fail
        refine (put_any B pm v l e num 2 0 D _ hm (by decide) (by omega) hll).mono ?_
        rintro e' w2 ⟨⟨r, rfl⟩, hs2⟩
        go_wp2_with fail
        go_ret
        rw [HST.out]
        exact ⟨rfl, hs2.after hb⟩
def pvs (ps : List Nat) : List Value := ps.map fun (n : Nat) => .int .u64 (n : Int)
theorem pvs_len (ps : List Nat) : (pvs ps).length = ps.length := by simp [pvs]
theorem pvs_get {ps : List Nat} {i : Nat} (h : i < ps.length) : (pvs ps)[i]? = some (.int .u64 ((ps[i]?.getD 0 : Nat) : Int)) := by simp [pvs, h]
def floatsD (ps : List Nat) : List UInt8 := ps.flatMap fun x => littleB 4 x
theorem floatsD_take {ps : List Nat} {i : Nat} (h : i < ps.length) : floatsD (ps.take (i + 1)) = floatsD (ps.take i) ++ littleB 4 (ps[i]?.getD 0) := by
  unfold floatsD
  rw [List.take_succ_eq_append_getElem h, List.flatMap_append, List.getElem?_eq_getElem h]; simp
def floatsN (ps : List Nat) : List Nat := ps.flatMap fun x => littleN 4 x
theorem str_floats (ps : List Nat) : str (floatsN ps) = floatsD ps := by
  induction ps with
  | nil => rfl
  | cons x ps ih => simp only [floatsN, floatsD, List.flatMap_cons, str, List.map_append] at ih ⊢; rw [ih, ← str_little]; rfl
theorem floatsN_len (ps : List Nat) : (floatsN ps).length = 4 * ps.length := by
  induction ps with
  | nil => rfl
  | cons x ps ih => simp only [floatsN, List.flatMap_cons, List.length_append, littleN_len, List.length_cons] at ih ⊢; omega
theorem floatsN_take {ps : List Nat} {i : Nat} (h : i < ps.length) : floatsN (ps.take (i + 1)) = floatsN (ps.take i) ++ littleN 4 (ps[i]?.getD 0) := by
  unfold floatsN
  rw [List.take_succ_eq_append_getElem h, List.flatMap_append, List.getElem?_eq_getElem h]; simp
theorem littleN_take {n k : Nat} (h : k < 4) : (littleN 4 n).take (k + 1) = (littleN 4 n).take k ++ [n / 2 ^ (8 * k) % 256] := by
  have hl : k < (littleN 4 n).length := by rw [littleN_len]; exact h
  have hg := littleN_get 4 n k h
  rw [List.take_succ_eq_append_getElem hl]
  rw [List.getElem?_eq_getElem hl] at hg
  rw [Option.some.inj hg]
def wideP (ps : List Nat) : Bool := ps.any fun x => decide (4294967296 ≤ x)
def floatsM (s : List (Fld × Int) × Int) (num : Int) (ps : List Nat) : List (Fld × Int) × Int := if wideP ps = true then stepM s 0 0 0 [] else if ps.length = 0 then s else stepM s num 2 0 (floatsD ps)
set_option maxRecDepth 100000 in
set_option maxHeartbeats 2000000 in
theorem putFloats_any (B pm : Nat) (v sv : Value) (l : List (Fld × Int)) (e num : Int) (ps : List Nat) (w : World) (h : MsgAt B w pm v l e) (hs : ∃ S, RowV S w sv (pvs ps)) (hp64 : ∀ x ∈ ps, x < 18446744073709551616) (hxl : ps.length ≤ 1000000) (hll : l.length ≤ 1000000) :
    Calls Try.prog 19 #[.pointer (some ⟨pm, 0, none⟩), .int .i64 num, sv] w fun e' w' => e' = .returned (.pointer (some ⟨pm, 0, none⟩)) ∧ MsgStep B pm v w (floatsM (l, e) num ps).1 (floatsM (l, e) num ps).2 w' := by
  obtain ⟨S, ao, cap, rfl, hc1, hc2, hcells⟩ := hs
  rw [pvs_len] at hc1 ⊢
  unfold maxLen at hc2
  have HM := Lib.hid h
  clear h
  have H64 := Lib.hid hp64
  clear hp64
  go_enter Try.func19, Try.ntmps19
  go_wp2_with fail
  go_loopg [7, 13] ps.length (fun gg bv iv wr => ∃ (i : Nat), i + gg = ps.length ∧ iv = .int .i64 (i : Int) ∧ Owns w.heap.size 5 wr bv (ints .u8 (floatsN (ps.take i))) ∧ Hid (∀ x ∈ ps.take i, x < 4294967296) ∧ Below w.heap.size w wr)
  case atStart => exact ⟨0, by omega, rfl, Owns.nil _ _ _, Lib.hid (by simp), Below.refl _ _⟩
  case round =>
    obtain ⟨i, hi, rfl, ho, HN, hb⟩ := hrel
    by_cases hil : i < ps.length
    · have HTK := Lib.hid (floatsN_take hil)
      have hg9 := pvs_get hil
      rcases hcells with h8 | ⟨gb, off, rfl, hgb, hns, hcb⟩
      · rw [h8] at hg9; simp at hg9
      have es := (hb.cell (p := ⟨gb, off + i, none⟩) hgb).trans (hcb i _ hg9)
      have hx64 : ps[i]?.getD 0 < 18446744073709551616 := by rw [List.getElem?_eq_getElem hil]; exact H64.out _ (List.getElem_mem hil)
      have hin : ps[i]?.getD 0 ∈ ps := by rw [List.getElem?_eq_getElem hil]; exact List.getElem_mem hil
      have htk : ps.take (i + 1) = ps.take i ++ [ps[i]?.getD 0] := by rw [List.take_succ_eq_append_getElem hil, List.getElem?_eq_getElem hil]; rfl
      have HTK2 := Lib.hid htk
      have HIN := Lib.hid hin
      have hlen0 := floatsN_len (ps.take i)
      rw [List.length_take, Nat.min_eq_left (by omega)] at hlen0
      have HL0 := Lib.hid hlen0
      clear htk hin hlen0
      generalize ps[i]?.getD 0 = x at *
      have q1 : (i : Int) < (ps.length : Int) := by omega
      have q2 : (0 : Int) ≤ (i : Int) := by omega
      clear hcb hg9
      by_cases hwide : 4294967296 ≤ x
      · have hsh := shr32_no (v := x) (by omega)
        have hm := HM.out.kept hb
        have hst : floatsM (l, e) num ps = stepM (l, e) 0 0 0 [] := by unfold floatsM wideP; rw [if_pos (List.any_eq_true.2 ⟨x, HIN.out, by simp [hwide]⟩)]
        have HST := Lib.hid hst
        clear hst
        go_wp2_with fail
        refine (put_any B pm v l e 0 0 0 [] _ hm (by decide) (by decide) hll).mono ?_
        rintro e' w2 ⟨⟨r, rfl⟩, hs2⟩
        go_wp2_with fail
        go_ret
        rw [HST.out]
        exact ⟨rfl, hs2.after hb⟩
      · have hsh := shr32_yes (v := x) (by omega)
        have hsh2 : ((x : Int) / 4294967296 != 0) = false := by simp only [bne, hsh]; rfl
        obtain ⟨go, hgo⟩ : ∃ go, go = gk := ⟨_, rfl⟩
        subst hgo
        go_wp2_with fail
        go_loopg [7, 24] 4 (fun g2 bv kv wx => ∃ (k : Nat), k + g2 = 4 ∧ kv = .int .i64 (k : Int) ∧ Owns w.heap.size 5 wx bv (ints .u8 (floatsN (ps.take i) ++ (littleN 4 x).take k)) ∧ Below w.heap.size w wx)
        case atStart => exact ⟨0, by omega, rfl, by simpa using ho, hb⟩
        case round =>
          obtain ⟨k, hk, rfl, ho2, hb2⟩ := hrel
          by_cases hk4 : k < 4
          · have q3 : (k : Int) < 4 := by omega
            have q4 : (0 : Int) ≤ (k : Int) := by omega
            have hlk := ints_length .u8 (floatsN (ps.take i) ++ (littleN 4 x).take k)
            have hlk2 : (floatsN (ps.take i) ++ (littleN 4 x).take k).length ≤ 4 * i + 4 := by
              rw [List.length_append, HL0.out]; have := List.length_take_le k (littleN 4 x); omega
            have HON : Hid (ints .u8 (floatsN (ps.take i) ++ (littleN 4 x).take (k + 1)) = ints .u8 (floatsN (ps.take i) ++ (littleN 4 x).take k) ++ [.int .u8 ((x : Int) / 2 ^ (8 * k) % 256)]) := Lib.hid (by
              rw [littleN_take hk4, ← List.append_assoc, ints_append]
              simp [ints])
            clear es
            go_wp2_with (at_builtin; refine append1 E8 ho2 rfl rfl rfl rfl rfl (by rw [hlk]; omega) (by rw [hlk]; unfold maxLen; omega) hb2.size ?_; intro v' w5 ho5 hb5 hg5)
            go_roundg (gk - 1)
            case measure => omega
            case rel => exact ⟨k + 1, by omega, by go_num, by rw [HON.out]; exact ho5, hb2.trans (hb5.mono (Nat.le_refl _))⟩
          · have q3 : ¬ (k : Int) < 4 := by omega
            have hk5 : k = 4 := by omega
            subst hk5
            have hfull : (littleN 4 x).take 4 = littleN 4 x := List.take_of_length_le (by rw [littleN_len]; exact Nat.le_refl _)
            rw [hfull, ← HTK.out] at ho2
            clear hfull es
            go_wp2_with fail
            go_roundg (go - 1)
            case measure => omega
            case rel => exact ⟨i + 1, by omega, by go_num, ho2, Lib.hid (by rw [HTK2.out]; intro y hy; rcases List.mem_append.1 hy with h9 | h9; exact HN.out y h9; simp at h9; omega), hb2⟩
    · have q1 : ¬ (i : Int) < (ps.length : Int) := by omega
      have htk : ps.take i = ps := List.take_of_length_le (by omega)
      rw [htk] at ho HN
      have hw : wideP ps = false := by
        unfold wideP; rw [List.any_eq_false]; intro y hy; have := HN.out y hy; simp; omega
      have HW := Lib.hid hw
      clear htk hw
      have hm := HM.out.kept hb
      by_cases hz : ps.length = 0
      · have q3 : ¬ (0 : Int) < (ps.length : Int) := by omega
        have hst : floatsM (l, e) num ps = (l, e) := by unfold floatsM; rw [HW.out, if_neg (by simp), if_pos hz]
        have HST := Lib.hid hst
        clear hst hz
        go_wp2_with fail
        go_ret
        rw [HST.out]
        exact ⟨rfl, MsgStep.of_below HM.out hb⟩
      · have q3 : (0 : Int) < (ps.length : Int) := by omega
        have hst : floatsM (l, e) num ps = stepM (l, e) num 2 0 (floatsD ps) := by unfold floatsM; rw [HW.out, if_neg (by simp), if_neg hz]
        have HST := Lib.hid hst
        clear hst
        obtain ⟨ao3, cap3, rfl, hcap3, hcapm3, hnil3, hc3⟩ := ho.toInts
        have hcv := conv_string (P := Try.prog) Try.underlying78 Try.underlying5 Try.underlying9 hc3 cap3
        rw [str_floats] at hcv
        have hdl : (floatsD ps).length ≤ 9223372036854775807 := by rw [← str_floats]; unfold str; rw [List.length_map, floatsN_len]; omega
        generalize hrl : (floatsN ps).length = rl at *
        have HR := Lib.hid hrl
        clear hrl
        go_wp2_with fail
        refine (put_any B pm v l e num 2 0 (floatsD ps) _ hm (by decide) hdl hll).mono ?_
        rintro e' w2 ⟨⟨r, rfl⟩, hs2⟩
        go_wp2_with fail
        go_ret
        rw [HST.out]
        exact ⟨rfl, hs2.after hb⟩
end Go.Proofs.Ytjcldnkgidfifaa
