/-
  MsgWithin: the walk.
-/
import Derived.Test.YtjcldnkgidfifaaPmL
namespace Go.Proofs.Ytjcldnkgidfifaa
open Go.RowKit Go.Shelf
set_option linter.unusedVariables false
set_option linter.unusedSimpArgs false
attribute [local go_sem] Oper.semAt_some
def inR (ls : List Int) : Prop := ∀ x ∈ ls, -9223372036854775808 ≤ x ∧ x < 9223372036854775808
theorem rowV_of_ints {w : World} {v : Value} {ns : List Int} (h : IntsI .i64 w v ns) : RowV (fun _ => False) w v (ivs ns) := by
  obtain ⟨ao, cap, h1, h2, h3, h4⟩ := h
  refine ⟨ao, cap, by rw [ivs_len]; exact h1, by rw [ivs_len]; exact h2, h3, ?_⟩
  rcases h4 with rfl | ⟨b, off, h5, h6, h7⟩
  · exact .inl rfl
  · refine .inr ⟨b, off, h5, h6, fun h => h, fun i x hx => ?_⟩
    have hi : i < ns.length := by
      rcases Nat.lt_or_ge i ns.length with h9 | h9
      · exact h9
      · rw [List.getElem?_eq_none (by rw [ivs_len]; exact h9)] at hx; cases hx
    rw [ivs_get hi] at hx
    cases hx
    exact h7 i hi
theorem intsD_len (ls : List Int) : (intsD ls).length ≤ 10 * ls.length := by
  induction ls with
  | nil => exact Nat.zero_le _
  | cons x ls ih =>
    have e : intsD (x :: ls) = vbytes (u64 x) ++ intsD ls := by simp [intsD]
    rw [e, List.length_append, List.length_cons]
    have := vbytes_ten (u64_lt x)
    omega
/-- What PutInts puts. -/
def intsL (num : Nat) (ls : List Int) : List Fld := if ls = [] then [] else [⟨num, 2, 0, 0, intsD ls⟩]
theorem goodK2 {num : Nat} {data : List UInt8} (h1 : 1 ≤ num) (h2 : num ≤ 536870911) (hd : data.length ≤ 60000) : goodF ⟨num, 2, 0, 0, data⟩ := by
  refine ⟨?_, by show 0 < _; decide, rfl⟩
  unfold rightF
  have q1 : (1 : Int) ≤ (num : Int) := by omega
  have q2 : (num : Int) ≤ 536870911 := by omega
  simp [q1, q2, hd]
theorem goodK0 {num val : Nat} (h1 : 1 ≤ num) (h2 : num ≤ 536870911) (hv : val < 18446744073709551616) : goodF ⟨num, 0, 0, val, []⟩ := by
  refine ⟨?_, hv, rfl⟩
  unfold rightF
  have q1 : (1 : Int) ≤ (num : Int) := by omega
  have q2 : (num : Int) ≤ 536870911 := by omega
  simp [q1, q2]
theorem encK2_len {num : Nat} {data : List UInt8} (h2 : num ≤ 536870911) (hd : data.length ≤ 60000) : (encF ⟨num, 2, 0, 0, data⟩).length ≤ data.length + 20 := by
  unfold encF
  simp only [List.length_append]
  rw [if_neg (by decide), if_neg (by decide), if_neg (by decide), List.length_append]
  have := vbytes_ten (n := num * 8 + 2) (by omega)
  have := vbytes_ten (n := data.length) (by omega)
  omega
theorem encK0_len {num val : Nat} (h2 : num ≤ 536870911) (hv : val < 18446744073709551616) : (encF ⟨num, 0, 0, val, []⟩).length ≤ 20 := by
  unfold encF
  simp only [List.length_append]
  rw [if_pos trivial]
  have := vbytes_ten (n := num * 8 + 0) (by omega)
  have := vbytes_ten hv
  omega
/-- Fields put one behind the other. -/
def mk0 (l : List Fld) : List (Fld × Int) := l.map (·, 0)
theorem mk0_fst (l : List Fld) : (mk0 l).map (·.1) = l := by unfold mk0; rw [List.map_map]; simp [Function.comp_def]
theorem step_good {l : List Fld} {f : Fld} (h : goodF f) : stepM (mk0 l, 0) (f.num : Int) (f.kind : Int) f.val f.data = (mk0 (l ++ [f]), 0) := by
  obtain ⟨h1, h2, h3⟩ := h
  unfold stepM
  rw [if_neg (by simp), if_pos h1.symm]
  obtain ⟨n, k, p, v, d⟩ := f
  simp only at h3
  subst h3
  simp [mk0]
theorem intsM_good {l : List Fld} {num : Nat} {ls : List Int} (h1 : 1 ≤ num) (h2 : num ≤ 536870911) (hd : ls.length ≤ 6000) : intsM (mk0 l, 0) (num : Int) ls = (mk0 (l ++ intsL num ls), 0) := by
  have hl := intsD_len ls
  unfold intsM intsL
  cases ls with
  | nil => simp
  | cons x xs =>
    rw [if_neg (by simp), if_neg (by simp)]
    have hd2 : (intsD (x :: xs)).length ≤ 60000 := by omega
    exact step_good (f := ⟨num, 2, 0, 0, intsD (x :: xs)⟩) (goodK2 h1 h2 hd2)
theorem bytesR_good {l : List Fld} (h : ∀ f ∈ l, goodF f) (hl : (l.flatMap encF).length ≤ 60000) : (l.flatMap encF, (0 : Int)) = bytesR (mk0 l) 0 := by
  have e : bytesD (mk0 l) = l.flatMap encF := by rw [bytesD_enc (fun x hx => by obtain ⟨f, hf, rfl⟩ := List.mem_map.1 hx; exact h f hf), mk0_fst]
  unfold bytesR
  rw [e, if_neg (by simp), if_neg (by omega)]
theorem okM_good {l : List Fld} (h : ∀ f ∈ l, goodF f) (hd : ∀ f ∈ l, f.data.length ≤ 60000) : okM (mk0 l) := by
  intro x hx
  obtain ⟨f, hf, rfl⟩ := List.mem_map.1 hx
  exact ⟨(h f hf).2.1, Nat.le_trans (hd f hf) (by decide)⟩
theorem intsL_good {num : Nat} {ls : List Int} (h1 : 1 ≤ num) (h2 : num ≤ 536870911) (hd : ls.length ≤ 6000) : ∀ f ∈ intsL num ls, goodF f := by
  intro f hf
  have := intsD_len ls
  unfold intsL at hf
  split at hf
  · cases hf
  · simp at hf; subst hf; exact goodK2 h1 h2 (by omega)
theorem intsL_data {num : Nat} {ls : List Int} : ∀ f ∈ intsL num ls, f.data = intsD ls ∧ f.kind = 2 ∧ f.num = num ∧ f.val = 0 := by
  intro f hf
  unfold intsL at hf
  split at hf
  · cases hf
  · simp at hf; subst hf; exact ⟨rfl, rfl, rfl, rfl⟩
theorem intsL_len {num : Nat} {ls : List Int} (h2 : num ≤ 536870911) (hd : ls.length ≤ 6000) : ((intsL num ls).flatMap encF).length ≤ 10 * ls.length + 20 := by
  have := intsD_len ls
  unfold intsL
  split
  · simp
  · have := encK2_len (num := num) (data := intsD ls) h2 (by omega)
    simp only [List.flatMap_cons, List.flatMap_nil, List.append_nil]
    omega
theorem intsL_ints {num : Nat} {ls : List Int} (hr : inR ls) : (intsL num ls).flatMap intsF = ls := by
  unfold intsL
  split
  · rename_i h; rw [h]; rfl
  · simp [intsF, getInts_intsD ls hr]
theorem inR_of {ls : List Int} (h : ∀ n ∈ ls, (Lit.int .i64 n).wf = true) : inR ls := by
  intro x hx
  have h9 := h x hx
  simp only [Lit.wf, IntKind.min, IntKind.max, IntKind.signed, IntKind.bits, Bool.and_eq_true, decide_eq_true_eq] at h9
  simp at h9
  omega
/-- Bytes of a message that holds good fields. -/
theorem bytes_good {B p : Nat} {v : Value} {l : List Fld} {w : World} (hm : MsgAt B w p v (mk0 l) 0) (h : ∀ f ∈ l, goodF f) (hd : ∀ f ∈ l, f.data.length ≤ 60000) (hn : l.length ≤ 1000000) (hl : (l.flatMap encF).length ≤ 60000) :
    Calls Try.prog 23 #[.pointer (some ⟨p, 0, none⟩)] w fun e' w' => e' = .returned (.tuple #[.string ⟨(l.flatMap encF).toArray⟩, .int .i64 0]) ∧ Below w.heap.size w w' :=
  bytes_any B p v (mk0 l) 0 0 (l.flatMap encF) w hm (okM_good h hd) (by unfold mk0; rw [List.length_map]; exact hn) (Lib.hid (bytesR_good h hl))
/-- Parse of the bytes of good fields. -/
theorem parse_good {l : List Fld} (h : ∀ f ∈ l, goodF f) (hl : (l.flatMap encF).length ≤ 60000) (w : World) :
    Calls Try.prog 24 #[.string ⟨(l.flatMap encF).toArray⟩] w fun e' w' => (∃ p v, e' = .returned (.tuple #[.pointer (some ⟨p, 0, none⟩), diagV 0 0 []]) ∧ MsgAt w.heap.size w' p v (msgL (l.flatMap encF)) 0) ∧ Below w.heap.size w w' := by
  refine (parse_any (l.flatMap encF) w (by omega)).mono ?_
  rintro e' w' ⟨h5, hb⟩
  rcases h5 with ⟨_, h6⟩ | ⟨x, hx, _⟩
  · exact ⟨h6, hb⟩
  · rw [badI_enc h hl] at hx; cases hx
/-- Ints of such a message. -/
theorem ints_good {B p : Nat} {v : Value} {l : List Fld} {w : World} (num : Int) (h : ∀ f ∈ l, goodF f) (hl : (l.flatMap encF).length ≤ 60000) (hd : ∀ f ∈ l, f.data.length ≤ 60000) (hm : MsgAt B w p v (msgL (l.flatMap encF)) 0)
    (hg : ∀ f ∈ l, (f.num : Int) = num → f.kind = 2 → getInts f.data ≠ none) (ls : List Int) (he : (l.filter (fun f => decide ((f.num : Int) = num))).flatMap intsF = ls) (hn : ls.length ≤ 1000000) :
    Calls Try.prog 26 #[.pointer (some ⟨p, 0, none⟩), .int .i64 num] w fun e' w' => (∃ v, e' = .returned (.tuple #[v, diagV 0 0 []]) ∧ IntsI .i64 w' v ls) ∧ Below w.heap.size w w' := by
  have hI := (intsE_msg num h hl).trans he
  refine (ints_at num hm (msgL_len _) (fun x hx hk => ?_) (by rw [hI]; exact hn) (fun x hx => ?_)).mono ?_
  · obtain ⟨g, hgl, h1, h2, h3, h4⟩ := msg_mem h hl hx
    rw [h4]; exact hg g hgl h1 (h2 ▸ hk)
  · obtain ⟨g, hgl, h1, h2, h3, h4⟩ := msg_mem h hl hx
    rw [h3, h4]
    exact ⟨(h g hgl).2.1, Nat.le_trans (hd g hgl) (by decide)⟩
  · rw [hI]
    rintro e w6 ⟨⟨v6, rfl, hO6⟩, hb6⟩
    exact ⟨⟨v6, rfl, (ints_of_owns hO6).1⟩, hb6⟩
theorem rowS_one {S : Nat → Prop} (w : World) (x : Value) (t : TypeId) (hS : ¬ S w.heap.size) : RowV S (w.alloc (.cells #[x] t)) (.slice (some ⟨w.heap.size, 0, none⟩) 1 1) [x] := by
  refine ⟨some ⟨w.heap.size, 0, none⟩, 1, rfl, Nat.le_refl 1, by decide, .inr ⟨w.heap.size, 0, rfl, by simp, hS, fun i y hy => ?_⟩⟩
  match i, hy with
  | 0, hy => simp at hy; subst hy; go_simp
/-- A message within a message. -/
def outL (n : Nat) (IN : List UInt8) : List Fld := [⟨n + 1, 0, 0, 7, []⟩, ⟨n, 2, 0, 0, IN⟩]
theorem outL_good {n : Nat} {IN : List UInt8} (h1 : 1 ≤ n) (h2 : n ≤ 1000) (hd : IN.length ≤ 1000) : ∀ f ∈ outL n IN, goodF f := by
  intro f hf
  simp only [outL, List.mem_cons, List.not_mem_nil, or_false] at hf
  rcases hf with rfl | rfl
  · exact goodK0 (by omega) (by omega) (by decide)
  · exact goodK2 h1 (by omega) (by omega)
theorem outL_data {n : Nat} {IN : List UInt8} (hd : IN.length ≤ 1000) : ∀ f ∈ outL n IN, f.data.length ≤ 60000 := by
  intro f hf
  simp only [outL, List.mem_cons, List.not_mem_nil, or_false] at hf
  rcases hf with rfl | rfl
  · exact Nat.zero_le _
  · exact Nat.le_trans hd (by decide)
theorem outL_len {n : Nat} {IN : List UInt8} (h2 : n ≤ 1000) (hd : IN.length ≤ 1000) : ((outL n IN).flatMap encF).length ≤ 1040 := by
  have a := encK0_len (num := n + 1) (val := 7) (by omega) (by decide)
  have b := encK2_len (num := n) (data := IN) (by omega) (by omega)
  simp only [outL, List.flatMap_cons, List.flatMap_nil, List.append_nil, List.length_append]
  omega
set_option maxRecDepth 100000 in
set_option maxHeartbeats 4000000 in
theorem msgWithin_walk (num : Int) (v : Value) (ls : List Int) (w : World) (w0 : (Lit.int .i64 num).wf = true) (hs : IntsN .i64 w v ls) (hm : ∀ n ∈ ls, (Lit.int .i64 n).wf = true) :
    Calls Try.prog 4 #[.int .i64 num, v] w fun e w' => e = .returned (.bool true) ∧ Below w.heap.size w w' := by
  have HR := Lib.hid (inR_of hm)
  clear w0 hm
  have HS := Lib.hid hs.1
  obtain ⟨ao, cap, rfl, hc1, hc2, hc3⟩ := hs.1
  clear hs hc3
  go_enter Try.func4, Try.ntmps4
  by_cases hl1 : num < 1
  · go_wp2_with fail
    refine (alive11_any _).mono ?_
    rintro e w1 ⟨rfl, hb⟩
    go_wp2_with fail
    go_ret
    exact ⟨rfl, hb⟩
  by_cases hl2 : 1000 < num
  · go_wp2_with fail
    refine (alive11_any _).mono ?_
    rintro e w1 ⟨rfl, hb⟩
    go_wp2_with fail
    go_ret
    exact ⟨rfl, hb⟩
  by_cases hl3n : 60 < ls.length
  · have hl3 : (60 : Int) < (ls.length : Int) := by omega
    go_wp2_with fail
    refine (alive11_any _).mono ?_
    rintro e w1 ⟨rfl, hb⟩
    go_wp2_with fail
    go_ret
    exact ⟨rfl, hb⟩
  have hl3 : ¬ (60 : Int) < (ls.length : Int) := by omega
  go_wp2_with fail
  refine (alive11_any _).mono ?_
  rintro e w1 ⟨rfl, hb1⟩
  go_wp2_with fail
  refine (new_any _).mono ?_
  rintro e w2 ⟨p, rfl, hm2, hb2⟩
  have hb12 := hb1.trans (hb2.mono hb1.size)
  go_wp2_with fail
  refine (putInts_any w1.heap.size p (.slice none 0 0) _ [] 0 9 ls w2 hm2 ⟨_, rowV_of_ints (HS.out.below hb12)⟩ (by omega) (by decide)).mono ?_
  rintro e w3 ⟨rfl, hst⟩
  have hb3 := hst.belowIn (a := w1) hb2 (fun k hk => (hm2.ow k hk).1)
  have hb13 := hb1.trans (hb3.mono hb1.size)
  obtain ⟨v3, hm3, _, _⟩ := hst
  rw [show (([] : List (Fld × Int)), (0 : Int)) = (mk0 [], 0) from rfl, show (9 : Int) = ((9 : Nat) : Int) from rfl, intsM_good (num := 9) (by decide) (by decide) (by omega), List.nil_append] at hm3
  simp only at hm3
  obtain ⟨n, rfl⟩ : ∃ n : Nat, num = (n : Int) := ⟨num.toNat, by omega⟩
  have hn1 : 1 ≤ n := by omega
  have hn2 : n ≤ 1000 := by omega
  have HG := Lib.hid (intsL_good (num := 9) (ls := ls) (by decide) (by decide) (by omega))
  have HL := Lib.hid (intsL_len (num := 9) (ls := ls) (by decide) (by omega))
  have HD : Hid (∀ f ∈ intsL 9 ls, f.data.length ≤ 60000) := Lib.hid (fun f hf => by rw [(intsL_data f hf).1]; exact Nat.le_trans (intsD_len ls) (by omega))
  have hil : (intsL 9 ls).length ≤ 1 := by unfold intsL; split <;> simp
  go_wp2_with fail
  refine (bytes_good hm3 HG.out HD.out (by omega) (by have := HL.out; omega)).mono ?_
  rintro e w4 ⟨rfl, hb4⟩
  have hb14 := hb13.trans (hb4.mono hb13.size)
  obtain ⟨IN, hIN⟩ : ∃ b, b = (intsL 9 ls).flatMap encF := ⟨_, rfl⟩
  have hINl : IN.length ≤ 700 := by rw [hIN]; have := HL.out; omega
  rw [← hIN]
  have HIN := Lib.hid hIN
  clear hIN hm2 hm3 hb2 hb3 hb4 hb12 hil
  go_wp2_with fail
  refine (new_any _).mono ?_
  rintro e w5 ⟨p5, rfl, hm5, hb5⟩
  have hb15 := hb14.trans (hb5.mono hb14.size)
  go_wp2_with fail
  refine (putUint_any w4.heap.size p5 (.slice none 0 0) [] 0 ((n : Int) + 1) 7 w5 hm5 (by decide) (by decide)).mono ?_
  rintro e w6 ⟨rfl, hst⟩
  have hb6 := hst.belowIn (a := w4) hb5 (fun k hk => (hm5.ow k hk).1)
  have hb16 := hb14.trans (hb6.mono hb14.size)
  obtain ⟨v6, hm6, _, _⟩ := hst
  rw [show stepM ([], 0) ((n : Int) + 1) 0 7 [] = (mk0 [⟨n + 1, 0, 0, 7, []⟩], 0) from step_good (l := []) (f := ⟨n + 1, 0, 0, 7, []⟩) (goodK0 (by omega) (by omega) (by decide))] at hm6
  simp only at hm6
  go_wp2_with fail
  have hr := rowS_one (S := Ow p5 v6) w6 (.string ⟨IN.toArray⟩) 9 (fun h => by have := (hm6.ow _ h).2; omega)
  obtain ⟨w7, hw7⟩ : ∃ w7, w7 = w6.alloc (.cells #[.string ⟨IN.toArray⟩] 9) := ⟨_, rfl⟩
  have hb7 : Below w6.heap.size w6 w7 := by rw [hw7]; exact (Below.refl _ _).alloc (Nat.le_refl _) _
  rw [← hw7] at hr ⊢
  have hm7 := hm6.kept hb7
  have hb67 := hb6.trans (hb7.mono hb6.size)
  clear hw7
  refine (putText_any w4.heap.size p5 v6 _ (mk0 [⟨n + 1, 0, 0, 7, []⟩]) 0 (n : Int) [IN] w7 hm7 hr (by intro x hx; simp at hx; subst hx; omega) (by simp [mk0])).mono ?_
  rintro e w8 ⟨rfl, hst⟩
  have hb8 := hst.belowIn (a := w4) hb67 (fun k hk => (hm7.ow k hk).1)
  have hb18 := hb14.trans (hb8.mono hb14.size)
  obtain ⟨v8, hm8, _, _⟩ := hst
  rw [show textsM (mk0 [⟨n + 1, 0, 0, 7, []⟩], 0) (n : Int) [IN] = (mk0 (outL n IN), 0) from step_good (l := [⟨n + 1, 0, 0, 7, []⟩]) (f := ⟨n, 2, 0, 0, IN⟩) (goodK2 hn1 (by omega) (by omega))] at hm8
  simp only at hm8
  have HG2 := Lib.hid (outL_good (IN := IN) hn1 hn2 (by omega))
  have HD2 := Lib.hid (outL_data (n := n) (IN := IN) (by omega))
  have HL2 := Lib.hid (outL_len (n := n) (IN := IN) hn2 (by omega))
  clear hr hm5 hm6 hm7 hb5 hb6 hb7 hb67 hb8 hb13 hb15 hb16 hb14
  go_wp2_with fail
  refine (bytes_good hm8 HG2.out HD2.out (by simp [outL]) (by have := HL2.out; omega)).mono ?_
  rintro e w9 ⟨rfl, hb9⟩
  have hb19 := hb18.trans (hb9.mono hb18.size)
  clear hm8 hb9 hb18
  go_wp2_with fail
  refine (parse_good HG2.out (by have := HL2.out; omega) _).mono ?_
  rintro e w10 ⟨⟨p10, v10, rfl, hm10⟩, hb10⟩
  have hb110 := hb19.trans (hb10.mono hb19.size)
  obtain ⟨q, hq⟩ := last_enc (l := [⟨n + 1, 0, 0, 7, []⟩]) (f := ⟨n, 2, 0, 0, IN⟩) (num := (n : Int)) (kind := 2) HG2.out (by have := HL2.out; exact Nat.le_trans this (by decide)) rfl rfl
  have HQ : Hid (lastL (msgL ((outL n IN).flatMap encF)) (n : Int) 2 = some (⟨n, 2, q, 0, IN⟩, (((outL n IN).flatMap encF).length : Int) - (IN.length : Int))) := Lib.hid hq
  clear hq
  have HML := Lib.hid (msgL_len ((outL n IN).flatMap encF))
  obtain ⟨OUT, hO⟩ : ∃ b, b = (outL n IN).flatMap encF := ⟨_, rfl⟩
  rw [← hO] at HQ hm10 HML HL2 ⊢
  have hOl := HL2.out
  clear hO HL2 HG2 HD2 hb10 hb19
  go_wp2_with fail
  obtain ⟨w11, hw11⟩ : ∃ w11, w11 = w10.alloc (.cells #[.int .i64 0, .int .i64 0, .string ⟨#[]⟩] 54) := ⟨_, rfl⟩
  have hb11 : Below w10.heap.size w10 w11 := by rw [hw11]; exact (Below.refl _ _).alloc (Nat.le_refl _) _
  have hb111 := hb110.trans (hb11.mono hb110.size)
  have hm11 := hm10.kept hb11
  rw [← hw11]
  clear hw11 hm10
  refine (text_at (n : Int) hm11 HML.out _ HQ).mono ?_
  rintro e w12 ⟨rfl, hb12⟩
  have hb112 := hb111.trans (hb12.mono hb111.size)
  have hOi : (OUT.length : Int) ≤ 1040 := by omega
  have hIi : (IN.length : Int) ≤ 700 := by omega
  clear hm11 HQ hb11 hb110 hb111 hb12
  simp only [Option.getD_some, Option.isSome_some]
  go_wp2_with fail
  have hpg := parse_good (l := intsL 9 ls) HG.out (by have := HL.out; omega) w12
  rw [← HIN.out] at hpg
  refine hpg.mono ?_
  rintro e w13 ⟨⟨p13, v13, rfl, hm13⟩, hb13⟩
  have hb113 := hb112.trans (hb13.mono hb112.size)
  clear hpg
  go_wp2_with fail
  obtain ⟨w14, hw14⟩ : ∃ w14, w14 = w13.alloc (.cells #[.int .i64 0, .int .i64 0, .string ⟨#[]⟩] 54) := ⟨_, rfl⟩
  have hb14 : Below w13.heap.size w13 w14 := by rw [hw14]; exact (Below.refl _ _).alloc (Nat.le_refl _) _
  have hb114 := hb113.trans (hb14.mono hb113.size)
  have hm14 := hm13.kept hb14
  rw [← hw14]
  clear hw14 hm13 hb13 hb14 hb113 hb112
  rw [HIN.out] at hm14
  refine (ints_good 9 HG.out (by have := HL.out; omega) HD.out hm14 (fun f hf _ _ => by rw [(intsL_data f hf).1, getInts_intsD ls HR.out]; simp) ls (by
    rw [List.filter_eq_self.2 (fun f hf => by rw [(intsL_data f hf).2.2.1]; rfl)]; exact intsL_ints HR.out) (by omega)).mono ?_
  rintro e w15 ⟨⟨v15, rfl, hI15⟩, hb15⟩
  have hb115 := hb114.trans (hb15.mono hb114.size)
  obtain ⟨w16, hw16⟩ : ∃ w16, w16 = w15.alloc (.cells #[.int .i64 0, .int .i64 0, .string ⟨#[]⟩] 54) := ⟨_, rfl⟩
  have hb16 : Below w15.heap.size w15 w16 := by rw [hw16]; exact (Below.refl _ _).alloc (Nat.le_refl _) _
  have hb116 := hb115.trans (hb16.mono hb115.size)
  clear hm14 hb15 hb114
  go_wp2_with fail
  rw [← hw16]
  refine (same_ints v15 _ ls w16 (hI15.below hb16) (HS.out.below hb116)).mono ?_
  rintro e w17 ⟨rfl, hb17⟩
  go_wp2_with fail
  go_ret
  exact ⟨rfl, hb116.trans (hb17.mono hb116.size)⟩
end Go.Proofs.Ytjcldnkgidfifaa
