/-
  Pd20: LawRp (what is needed of them).
-/
import Derived.Test.YtlmjkbdodecbmaaDoorPd07
import Derived.Test.YtlmjkbdodecbmaaDoorPd18
import Derived.Test.YtlmjkbdodecbmaaDoorPd19

namespace Go.Proofs.YtlmjkbdodecbmaaDoor
open Go.RowKit
set_option linter.unusedVariables false
set_option linter.unusedSimpArgs false
attribute [local go_sem] field_nat
/-- make([]T, n) of structs: zero values of the call's own. -/
theorem makeK {P : Program} {t e : TypeId} {z : Value} {K bytes : Nat} (E : ElemK P t e z K bytes) {w : World} {ops : Array Oper} {rest : List Oper} {o : Oper} {a : Act} {Q : Exit → Act → World → Prop} {l c : Operand} {n : Nat}
    (hg : o.guard = none) (hop : o.op = Op.makeSlice t l c) (hl : a.eval l = .int .i64 (n : Int)) (hc : a.eval c = .int .i64 (n : Int)) (b2 : bytes * n ≤ 281474976710656) (b3 : n ≤ maxLen)
    (h : ∀ w', OwnsK K w.heap.size e w' (.slice (some ⟨w.heap.size, 0, none⟩) n n) n (madeCells z.cells (n * K)).toList → Below w.heap.size w w' → wpList P ops Q rest (a.put o.dst (.slice (some ⟨w.heap.size, 0, none⟩) n n)) w') : wpList P ops Q (o :: rest) a w := by
  obtain ⟨i, hi, hz, h4, h5⟩ := E.info
  subst h5
  refine wpList_make_full w hg l c t hop w.heap.size e i z K E.und hi hz h4 .i64 .i64 (n : Int) (n : Int) n hl hc rfl rfl b2 b3 (Nat.le_refl _) ?_
  intro w' h1 h2
  exact h w' h1 ⟨h2.os, h2.tape, h2.output, h2.size, fun k hk => h2.block k hk (by simp)⟩
theorem made_vals (n : Nat) : (madeCells (Value.agg #[.int .i64 0, .string ⟨#[]⟩, .string ⟨#[]⟩]).cells (n * 3)).toList = vcells (List.replicate n v0) := by
  have hz : (Value.agg #[.int .i64 0, .string ⟨#[]⟩, .string ⟨#[]⟩]).cells = #[.int .i64 0, .string ⟨#[]⟩, .string ⟨#[]⟩] := rfl
  rw [hz]
  apply List.ext_getElem?
  intro j
  by_cases hj : j < n * 3
  · have hq : j / 3 < n := by omega
    have hr : (List.replicate n v0)[j / 3]? = some v0 := by rw [List.getElem?_replicate, if_pos hq]
    obtain ⟨c0, c1, c2⟩ := vcells_get _ _ _ hr
    have e1 : (madeCells #[.int .i64 0, .string ⟨#[]⟩, .string ⟨#[]⟩] (n * 3)).toList[j]? = some (#[Value.int .i64 0, .string ⟨#[]⟩, .string ⟨#[]⟩][j % 3]!) := by
      unfold madeCells
      rw [Array.getElem?_toList, Array.getElem?_map, Array.getElem?_range]
      simp [hj]
    rw [e1]
    have h3 : j % 3 = 0 ∨ j % 3 = 1 ∨ j % 3 = 2 := by omega
    rcases h3 with h | h | h
    · rw [h, show j = j / 3 * 3 by omega, c0]; rfl
    · rw [h, show j = j / 3 * 3 + 1 by omega, c1]; rfl
    · rw [h, show j = j / 3 * 3 + 2 by omega, c2]; rfl
  · rw [List.getElem?_eq_none, List.getElem?_eq_none]
    · rw [vcells_len, List.length_replicate]; omega
    · simp [madeCells]; omega
theorem fields_h (ao : Option Addr) (cap : Nat) (xs : List FV) (b9 : Bool) (w : World) (hv : Hid (Flds w ao xs)) (hlen : Hid (xs.length ≤ 9223372036854775807)) (hl : Hid (∀ x ∈ xs, BigF x.f)) (HB : Hid (b9 = fieldsB (xs.map (·.f)))) : Calls Tryd.prog 15 #[.slice ao xs.length cap] w fun e w' => e = .returned (.bool b9) ∧ Below w.heap.size w w' := fieldsBk_any ao cap xs b9 w hv.out hlen.out hl.out HB
theorem row_h (ao : Option Addr) (cap : Nat) (vs : List V3) (b : Bool) (w : World) (hv : Hid (Vals w ao vs)) (hl : Hid (∀ v ∈ vs, v.n.length ≤ 9223372036854775807 ∧ v.c.length ≤ 9223372036854775807)) (HB : Hid (b = rowB vs)) : Calls Tryd.prog 22 #[.slice ao vs.length cap] w fun e w' => e = .returned (.bool b) ∧ Below w.heap.size w w' := row_any ao cap vs b w hv.out hl.out HB
theorem sameVals_h (ao bo : Option Addr) (n m ac bc : Nat) (us vs : List V3) (b : Bool) (w : World) (hn : Hid (n = us.length)) (hm : Hid (m = vs.length)) (hu : Hid (Vals w ao us)) (hv : Hid (Vals w bo vs)) (hl : Hid (us.length ≤ 9223372036854775807)) (HB : Hid (b = decide (us = vs))) :
    Calls Tryd.prog 26 #[.slice ao n ac, .slice bo m bc] w fun e w' => e = .returned (.bool b) ∧ Below w.heap.size w w' := sameVals_any ao bo n m ac bc us vs b w hn.out hm.out hu.out hv.out hl.out HB
theorem prepare_h (ao : Option Addr) (cap nx : Nat) (xs : List FV) (ro : Option Addr) (rn rcap : Nat) (vs us9 : List V3) (ok9 : Bool) (c9 : Int) (w : World) (hnx : Hid (nx = xs.length)) (hrn : Hid (rn = vs.length)) (hf : Hid (Flds w ao xs)) (hv : Hid (Vals w ro vs)) (hfl : Hid (∀ x ∈ xs, x.f.r.n.length ≤ 1000000)) (hvl : Hid (∀ v ∈ vs, v.n.length ≤ 1000000)) (hxm : Hid (xs.length ≤ 1000000)) (HP : Hid (prepV (xs.map (·.f)) vs = (us9, ok9, c9))) :
    Calls Tryd.prog 25 #[.slice ao nx cap, .slice ro rn rcap] w fun e w' => ∃ uo ucap, e = .returned (.tuple #[.slice uo us9.length ucap, .bool ok9, .int .i64 c9]) ∧ Hid (Vals w' uo us9) ∧ Below w.heap.size w w' := by
  have h0 := hrn.out
  subst h0
  refine (prepare_any ao cap nx xs ro rcap vs us9 ok9 c9 w hnx.out hf hv hfl hvl hxm.out HP).mono ?_
  rintro e w' ⟨r, rfl, hO, hb⟩
  obtain ⟨uo, ucap, rfl, _, hV, _, _, _⟩ := hO.vals
  exact ⟨uo, ucap, rfl, Lib.hid hV, hb⟩
theorem takeR {xs : List FV} {i : Nat} {x : FV} (h : xs[i]? = some x) : (xs.take (i + 1)).map (fun y : FV => y.f.r) = (xs.take i).map (fun y : FV => y.f.r) ++ [x.f.r] := by
  rw [List.take_add_one, h]; simp
theorem takeV {xs : List FV} {i : Nat} {x : FV} (h : xs[i]? = some x) : (xs.take (i + 1)).all (fun y : FV => validF y.f) = ((xs.take i).all (fun y : FV => validF y.f) && validF x.f) := by
  rw [List.take_add_one, h]; simp
theorem zipFit {xs : List FV} {vs : List V3} {i : Nat} {x : FV} {v : V3} (h : xs[i]? = some x) (hv : vs[i]? = some v) : (((xs.map (·.f)).zip vs).take (i + 1)).all (fun y => fitB y.1 y.2) = ((((xs.map (·.f)).zip vs).take i).all (fun y => fitB y.1 y.2) && fitB x.f v) := by
  have hz : ((xs.map (·.f)).zip vs)[i]? = some (x.f, v) := by
    rw [List.getElem?_zip_eq_some]
    exact ⟨by rw [List.getElem?_map, h]; rfl, hv⟩
  rw [List.take_add_one, hz]; simp
/-- What the law needs to know of its three rows. -/
theorem prep_len {fs : List F5} {vs us : List V3} {b : Bool} (h : prepV fs vs = (us, b, 0)) (hb : b = true) : fs.length = vs.length ∧ us.length = vs.length := by
  subst hb
  unfold prepV at h
  by_cases hl : fs.length ≠ vs.length
  · rw [if_pos hl] at h; cases h
  · rw [if_neg hl] at h
    have hl' : fs.length = vs.length := Decidable.not_not.1 hl
    by_cases ha : allOk fs vs = false
    · rw [if_pos ha] at h; cases h
    · rw [if_neg ha] at h
      cases hp : prepL fs vs with
      | none => rw [hp] at h; cases h
      | some ws =>
        rw [hp] at h
        cases h
        exact ⟨hl', (prepL_again fs vs us hl' (by simpa using ha) hp).1⟩
theorem prep_mem {fs : List F5} {vs us : List V3} {b : Bool} {c : Int} {K : Nat} (h : prepV fs vs = (us, b, c)) (hf : ∀ f ∈ fs, f.r.n.length ≤ K) (hv : ∀ v ∈ vs, v.n.length ≤ K) : ∀ u ∈ us, u.n.length ≤ K := by
  have key : ∀ (fs : List F5) (vs us : List V3), prepL fs vs = some us → (∀ f ∈ fs, f.r.n.length ≤ K) → (∀ v ∈ vs, v.n.length ≤ K) → ∀ u ∈ us, u.n.length ≤ K := by
    intro fs
    induction fs with
    | nil => intro vs us h _ _; unfold prepL at h; cases h; simp
    | cons f fs ih =>
      intro vs us h hf hv
      cases vs with
      | nil => unfold prepL at h; cases h; simp
      | cons v vs =>
        unfold prepL at h
        cases h1 : prep1 f v with
        | none => rw [h1] at h; cases h
        | some u =>
          rw [h1] at h
          cases h3 : prepL fs vs with
          | none => rw [h3] at h; cases h
          | some ws =>
            rw [h3] at h
            cases h
            intro x hx
            rcases List.mem_cons.1 hx with rfl | hx
            · have hfr := hf f (by simp)
              have hvv := hv v (by simp)
              unfold prep1 invV at h1
              split at h1
              · split at h1
                · rw [Option.map_some] at h1; split at h1 <;> cases h1
                  · exact hfr
                  · show (0 : Nat) ≤ K; omega
                · split at h1
                  · rw [Option.map_some] at h1; split at h1 <;> cases h1
                    · exact hfr
                    · exact hvv
                  · cases h1
              · rw [Option.map_some] at h1; split at h1 <;> cases h1
                · exact hfr
                · exact hvv
            · exact ih vs ws h3 (fun g hg => hf g (by simp [hg])) (fun g hg => hv g (by simp [hg])) x hx
  unfold prepV at h
  split at h
  · cases h; simp
  · split at h
    · cases h; simp
    · split at h
      · cases h; simp
      · rename_i ws hp
        cases h
        exact key fs vs _ hp hf hv
set_option maxRecDepth 100000 in
set_option maxHeartbeats 8000000 in
/-- ValueReplaces. -/
theorem repl_main (ao : Option Addr) (cap : Nat) (xs : List FV) (ro : Option Addr) (rcap : Nat) (vs : List V3) (w : World) (hf0 : Flds w ao xs) (hv0 : Vals w ro vs) (hxl : xs.length ≤ 9223372036854775807) (hbig : ∀ x ∈ xs, BigF x.f) (hvb : ∀ v ∈ vs, v.n.length ≤ 9223372036854775807 ∧ v.c.length ≤ 9223372036854775807) :
    Calls Tryd.prog 6 #[.slice ao xs.length cap, .slice ro vs.length rcap] w fun e w' => e = .returned (.bool true) ∧ Below w.heap.size w w' := by
  obtain ⟨fb, hfb⟩ : ∃ b, b = fieldsB (xs.map (·.f)) := ⟨_, rfl⟩
  obtain ⟨rb, hrb⟩ : ∃ b, b = rowB vs := ⟨_, rfl⟩
  have HFB := Lib.hid hfb
  have HRB := Lib.hid hrb
  have HXL := Lib.hid hxl
  have HBIG := Lib.hid hbig
  have HVB := Lib.hid hvb
  have HF := Lib.hid hf0
  have HV := Lib.hid hv0
  clear hfb hrb hxl hbig hvb hf0 hv0
  go_enter Tryd.func6, Tryd.ntmps6
  go_wp2_with fail
  (with_reducible refine (fields_h ao cap xs fb _ HF HXL HBIG HFB).mono ?_)
  rintro e w1 ⟨rfl, hb⟩
  have hbf := hb
  clear hb
  cases fb
  case false =>
    go_wp2_with fail
    refine (alive12_any _).mono ?_
    rintro e w2 ⟨rfl, hb⟩
    go_wp2_with fail
    go_ret
    exact ⟨ret_one rfl, hbf.trans (hb.mono hbf.size)⟩
  case true =>
  go_wp2_with fail
  (with_reducible refine (row_h ro rcap vs rb _ (Lib.hid (HV.out.below hbf)) HVB HRB).mono ?_)
  rintro e w2 ⟨rfl, hb⟩
  replace hbf := hbf.trans (hb.mono hbf.size)
  clear hb
  cases rb
  case false =>
    go_wp2_with fail
    refine (alive12_any _).mono ?_
    rintro e w2 ⟨rfl, hb⟩
    go_wp2_with fail
    go_ret
    exact ⟨ret_one rfl, hbf.trans (hb.mono hbf.size)⟩
  case true =>
  go_wp2_with fail
  refine (alive12_any _).mono ?_
  rintro e w3 ⟨rfl, hb⟩
  replace hbf := hbf.trans (hb.mono hbf.size)
  clear hb
  obtain ⟨hxn, hsm⟩ := fieldsB_le (HFB.out.symm)
  obtain ⟨hvn, hvs⟩ := rowB_le (HRB.out.symm)
  have HFL : Hid (∀ x ∈ xs, x.f.r.n.length ≤ 1000000) := Lib.hid (fun x hx => by have := (hsm x.f (List.mem_map_of_mem hx)).rn; omega)
  have HVL : Hid (∀ v ∈ vs, v.n.length ≤ 1000000) := Lib.hid (fun v hv => by have := (hvs v hv).1; omega)
  have HXM : Hid (xs.length ≤ 1000000) := Lib.hid (by rw [List.length_map] at hxn; omega)
  have hxn2 : xs.length ≤ 2000 := by rw [List.length_map] at hxn; exact hxn
  clear hsm hvs hxn HFB HRB HBIG HVB
  go_wp2_with fail
  go_loopg [5, 6, 7] xs.length (fun gg av ov iv wr => ∃ (i : Nat) (uo : Option Addr) (un uc : Nat) (al : Bool), i + gg = xs.length ∧ iv = .int .i64 (i : Int) ∧ ov = .slice uo un uc ∧ av = .bool al ∧ Hid (al = (xs.take i).all (fun y : FV => validF y.f)) ∧ OwnsK 3 w.heap.size 57 wr (.slice uo un uc) i (vcells ((xs.take i).map (fun y : FV => y.f.r))) ∧ Below w.heap.size w wr)
  case atStart => exact ⟨0, none, 0, 0, true, by omega, rfl, rfl, rfl, Lib.hid rfl, OwnsK.nil _ _ _ _, hbf⟩
  clear hbf
  case round =>
    obtain ⟨i, uo, un, uc, al, hi, rfl, rfl, rfl, HA, hO, hbf⟩ := hrel
    by_cases hil : i < xs.length
    case pos =>
      have hii : ((i : Nat) : Int) < ((xs.length : Nat) : Int) := by omega
      have hqi : (0 : Int) ≤ (i : Int) := by omega
      obtain ⟨x, hx9⟩ : ∃ x, xs[i]? = some x := ⟨_, List.getElem?_eq_getElem hil⟩
      have hmem : x ∈ xs := List.mem_of_getElem? hx9
      have hrn : Hid (x.f.r.n.length ≤ 1000000) := Lib.hid (HFL.out x hmem)
      obtain ⟨b, off, ha, hfa⟩ := HF.out.at hx9
      have hst := (HF.out.2 x hmem).below hbf
      replace hfa := hfa.kept hbf
      have HX1 := Lib.hid (takeV hx9)
      have HX2 := Lib.hid (takeR hx9)
      obtain ⟨⟨nm, fk, vals, ⟨rk, rn, rc⟩, inv⟩, vo, vc⟩ := x
      dsimp only at hrn hst
      subst ha
      clear hmem hx9
      obtain ⟨d, hd⟩ : ∃ d, d = validF ⟨nm, fk, vals, ⟨rk, rn, rc⟩, inv⟩ := ⟨_, rfl⟩
      have HD := Lib.hid hd
      have HA2 : Hid ((al && d) = (xs.take (i + 1)).all (fun y : FV => validF y.f)) := Lib.hid (by rw [HX1.out, ← HA.out, hd])
      clear hd HA HX1
      cases al
      case false =>
        obtain ⟨g0, g1, g2, g3, g4, g5, g6⟩ := hfa.c7
        go_wp2_with (at_builtin; refine append1KO E_val hO rfl rfl rfl rfl rfl (by simp [Value.oneCell']) (by omega) (by unfold maxLen; omega) hbf.size ?_; intro v9 w9 hO9 hb9 hg9 hn9; clear hg9 hn9; replace hO9 : OwnsK 3 w.heap.size 57 w9 v9 (i + 1) (vcells ((xs.take (i + 1)).map (fun y : FV => y.f.r))) := (by rw [HX2.out, vcells_snoc]; exact hO9); obtain ⟨ao9, cap9, rfl, -, -, -⟩ := hO9.slice)
        go_roundg (gk - 1)
        case measure => omega
        case rel => exact ⟨i + 1, ao9, i + 1, cap9, false, by omega, by go_num, rfl, rfl, Lib.hid (by rw [← HA2.out]; rfl), hO9, hbf.trans hb9⟩
      case true =>
        obtain ⟨g0, g1, g2, g3, g4, g5, g6⟩ := hfa.c7
        go_wp2_with fail
        (with_reducible refine (validF_l nm fk vals rk rn rc inv vo vc d _ hst hrn HD).mono ?_)
        rintro e w4 ⟨rfl, hb⟩
        replace hbf := hbf.trans (hb.mono hbf.size)
        replace hO := hO.kept hb
        replace hfa := hfa.kept hb
        clear hb g0 g1 g2 g3 g4 g5 g6 hst
        obtain ⟨g0, g1, g2, g3, g4, g5, g6⟩ := hfa.c7
        go_wp2_with (at_builtin; refine append1KO E_val hO rfl rfl rfl rfl rfl (by simp [Value.oneCell']) (by omega) (by unfold maxLen; omega) hbf.size ?_; intro v9 w9 hO9 hb9 hg9 hn9; clear hg9 hn9; replace hO9 : OwnsK 3 w.heap.size 57 w9 v9 (i + 1) (vcells ((xs.take (i + 1)).map (fun y : FV => y.f.r))) := (by rw [HX2.out, vcells_snoc]; exact hO9); obtain ⟨ao9, cap9, rfl, -, -, -⟩ := hO9.slice)
        go_roundg (gk - 1)
        case measure => omega
        case rel => exact ⟨i + 1, ao9, i + 1, cap9, d, by omega, by go_num, rfl, rfl, Lib.hid (by rw [← HA2.out]; rfl), hO9, hbf.trans hb9⟩
    case neg =>
    have hix : i = xs.length := by omega
    subst hix
    have hii : ¬ ((xs.length : Nat) : Int) < ((xs.length : Nat) : Int) := by omega
    rw [List.take_length] at hO HA
    obtain ⟨wo, wcap, hwe, hwl, hW0, -, -, -⟩ := hO.vals
    injection hwe with e1 e2 e3
    subst e1
    obtain ⟨R, hR⟩ : ∃ R, R = xs.map (fun y : FV => y.f.r) := ⟨_, rfl⟩
    rw [← hR] at hW0 e2
    have HW := Lib.hid hW0
    have HUN := Lib.hid e2
    have HRL : Hid (R.length = xs.length) := Lib.hid (by rw [hR, List.length_map])
    have HRR : Hid ((xs.map (·.f)).map (·.r) = R) := Lib.hid (by rw [hR, List.map_map]; rfl)
    have HALL : Hid (al = (xs.map (·.f)).all validF) := Lib.hid (by rw [HA.out, List.all_map]; rfl)
    have HFM : Hid (∀ f ∈ xs.map (·.f), f.r.n.length ≤ 1000000) := Lib.hid (fun f hf => by
      obtain ⟨x, hx, rfl⟩ := List.mem_map.1 hf
      exact HFL.out x hx)
    have HPZ := Lib.hid (prepV_zero (xs.map (·.f)))
    clear hi hil hO hW0 HA hwl e2 e3 hR
    have HX0 : Hid (xs.length = (List.replicate xs.length v0).length) := Lib.hid (by simp)
    have HV0 : Hid (∀ v ∈ List.replicate xs.length v0, v.n.length ≤ 1000000) := Lib.hid (fun v hv => by rw [List.eq_of_mem_replicate hv]; exact Nat.zero_le _)
    cases al
    case false =>
      have HP1 : Hid (prepV (xs.map (·.f)) (List.replicate xs.length v0) = ([], false, 1)) := Lib.hid (by
        have h := HPZ.out
        rw [List.length_map] at h
        rw [h, if_neg (by rw [← HALL.out]; simp)])
      go_wp2_with (at_make; refine makeK E_val (n := xs.length) rfl rfl rfl rfl (by omega) (by unfold maxLen; omega) ?_; intro w4 hO4 hb4)
      rw [made_vals] at hO4
      obtain ⟨zo, zcap, hze, -, hZ, -, -, -⟩ := hO4.vals
      injection hze with e1 e2 e3
      subst e1
      replace hbf := hbf.trans (hb4.mono hbf.size)
      clear e2 e3 hO4 hb4 hii
      (with_reducible refine (prepare_h ao cap xs.length xs _ xs.length _ (List.replicate xs.length v0) [] false 1 _ (Lib.hid rfl) HX0 (Lib.hid (HF.out.below hbf)) (Lib.hid hZ) HFL HV0 HXM HP1).mono ?_)
      rintro e w5 ⟨uo1, ucap1, rfl, HU1, hb⟩
      go_wp2_with fail
      go_ret
      exact ⟨ret_one rfl, hbf.trans (hb.mono hbf.size)⟩
    case true =>
    have HP1 : Hid (prepV (xs.map (·.f)) (List.replicate xs.length v0) = (R, true, 0)) := Lib.hid (by
      have h := HPZ.out
      rw [List.length_map] at h
      rw [h, if_pos (by rw [← HALL.out]), HRR.out])
    go_wp2_with (at_make; refine makeK E_val (n := xs.length) rfl rfl rfl rfl (by omega) (by unfold maxLen; omega) ?_; intro w4 hO4 hb4)
    rw [made_vals] at hO4
    obtain ⟨zo, zcap, hze, -, hZ, -, -, -⟩ := hO4.vals
    injection hze with e1 e2 e3
    subst e1
    replace hbf := hbf.trans (hb4.mono hbf.size)
    replace HW : Hid (Vals w4 uo R) := Lib.hid (HW.out.below hb4)
    clear e2 e3 hO4 hb4 hii
    (with_reducible refine (prepare_h ao cap xs.length xs _ xs.length _ (List.replicate xs.length v0) R true 0 _ (Lib.hid rfl) HX0 (Lib.hid (HF.out.below hbf)) (Lib.hid hZ) HFL HV0 HXM HP1).mono ?_)
    rintro e w5 ⟨uo1, ucap1, rfl, HU1, hb⟩
    replace hbf := hbf.trans (hb.mono hbf.size)
    replace HW : Hid (Vals w5 uo R) := Lib.hid (HW.out.below hb)
    clear hb hZ HP1 HX0 HV0 HPZ HALL HRR
    go_wp2_with fail
    (with_reducible refine (sameVals_h uo1 uo R.length un _ uc R R true _ (Lib.hid rfl) HUN HU1 HW (Lib.hid (by rw [HRL.out]; exact HXL.out)) (Lib.hid (by simp))).mono ?_)
    rintro e w6 ⟨rfl, hb⟩
    replace hbf := hbf.trans (hb.mono hbf.size)
    clear hb HW HU1 HUN HRL
    obtain ⟨us2, ok2, c2, hp⟩ : ∃ us ok c, prepV (xs.map (·.f)) vs = (us, ok, c) := ⟨_, _, _, rfl⟩
    have HP2 := Lib.hid hp
    clear hp
    go_wp2_with fail
    (with_reducible refine (prepare_h ao cap xs.length xs _ vs.length _ vs us2 ok2 c2 _ (Lib.hid rfl) (Lib.hid rfl) (Lib.hid (HF.out.below hbf)) (Lib.hid (HV.out.below hbf)) HFL HVL HXM HP2).mono ?_)
    rintro e w7 ⟨uo2, ucap2, rfl, HU2, hb⟩
    replace hbf := hbf.trans (hb.mono hbf.size)
    clear hb
    by_cases hc2 : c2 = 0
    case neg =>
      obtain rfl : us2 = [] := prepV_none HP2.out (fun h => hc2 h.1)
      have hcb : (c2 != 0) = true := by rw [bne_iff_ne]; exact hc2
      clear hc2
      go_wp2_with fail
      go_ret
      exact ⟨ret_one rfl, hbf⟩
    case pos =>
    subst hc2
    cases ok2
    case false =>
      obtain rfl : us2 = [] := prepV_none HP2.out (fun h => absurd h.2 (by simp))
      go_wp2_with fail
      go_ret
      exact ⟨ret_one rfl, hbf⟩
    case true =>
    have HP3 := Lib.hid (prepV_again HP2.out)
    have hpl := prep_len HP2.out rfl
    rw [List.length_map] at hpl
    have HXV := Lib.hid hpl.1
    have HUL := Lib.hid hpl.2
    have HUM : Hid (∀ u ∈ us2, u.n.length ≤ 1000000) := Lib.hid (prep_mem HP2.out HFM.out HVL.out)
    clear hpl
    go_wp2_with fail
    (with_reducible refine (prepare_h ao cap xs.length xs _ us2.length _ us2 us2 true 0 _ (Lib.hid rfl) (Lib.hid rfl) (Lib.hid (HF.out.below hbf)) HU2 HFL HUM HXM HP3).mono ?_)
    rintro e w8 ⟨uo3, ucap3, rfl, HU3, hb⟩
    replace hbf := hbf.trans (hb.mono hbf.size)
    replace HU2 : Hid (Vals w8 uo2 us2) := Lib.hid (HU2.out.below hb)
    clear hb
    go_wp2_with fail
    obtain ⟨w9, hw9⟩ : ∃ W, W = w8 := ⟨_, rfl⟩; subst hw9
    go_loopg [17, 18] vs.length (fun gg fv iv wr => ∃ (i : Nat) (fi : Bool), i + gg = vs.length ∧ iv = .int .i64 (i : Int) ∧ fv = .bool fi ∧ Hid (fi = (((xs.map (·.f)).zip vs).take i).all (fun y => fitB y.1 y.2)) ∧ Hid (Vals wr uo2 us2) ∧ Hid (Vals wr uo3 us2) ∧ Below w.heap.size w wr)
    case atStart => exact ⟨0, true, by omega, rfl, rfl, Lib.hid rfl, HU2, HU3, hbf⟩
    clear hbf HU2 HU3
    case round =>
      obtain ⟨i, fi, hi, rfl, rfl, HA, HU2, HU3, hbf⟩ := hrel
      by_cases hil : i < vs.length
      case pos =>
        have hii : ((i : Nat) : Int) < ((vs.length : Nat) : Int) := by omega
        have hqi : (0 : Int) ≤ (i : Int) := by omega
        have hix : ((i : Nat) : Int) < ((xs.length : Nat) : Int) := by have := HXV.out; omega
        obtain ⟨x, hx9⟩ : ∃ x, xs[i]? = some x := ⟨_, List.getElem?_eq_getElem (by have := HXV.out; omega)⟩
        obtain ⟨v, hv9⟩ : ∃ v, vs[i]? = some v := ⟨_, List.getElem?_eq_getElem hil⟩
        have hmem : x ∈ xs := List.mem_of_getElem? hx9
        obtain ⟨b, off, ha, hfa⟩ := HF.out.at hx9
        obtain ⟨rb, roff, har, v0, v1, v2⟩ := HV.out i v hv9
        have hst := (HF.out.2 x hmem).below hbf
        replace hfa := hfa.kept hbf
        replace v0 := v0.kept hbf
        replace v1 := v1.kept hbf
        replace v2 := v2.kept hbf
        have HX1 := Lib.hid (zipFit hx9 hv9)
        obtain ⟨⟨nm, fk, vals, ⟨rk, rn, rc⟩, inv⟩, vo, vc⟩ := x
        obtain ⟨k, n, c⟩ := v
        dsimp only at hst
        subst ha har
        clear hmem hx9 hv9 hil
        obtain ⟨d, hd⟩ : ∃ d, fitB ⟨nm, fk, vals, ⟨rk, rn, rc⟩, inv⟩ ⟨k, n, c⟩ = d := ⟨_, rfl⟩
        have HD := Lib.hid hd
        have HA2 : Hid ((fi && d) = (((xs.map (·.f)).zip vs).take (i + 1)).all (fun y => fitB y.1 y.2)) := Lib.hid (by rw [HX1.out, ← HA.out, hd])
        clear hd HA HX1
        cases fi
        case false =>
          go_wp2_with fail
          refine wp_region_seq (S := fun w' => FldAt w' b (off + i * 7) ⟨⟨nm, fk, vals, ⟨rk, rn, rc⟩, inv⟩, vo, vc⟩ ∧ CellV w' rb (roff + i * 3) (.int .i64 k) ∧ CellV w' rb (roff + i * 3 + 1) (.string ⟨n.toArray⟩) ∧ CellV w' rb (roff + i * 3 + 2) (.string ⟨c.toArray⟩)) [(true, 0), (true, 1), (true, 2), (true, 3), (true, 4), (true, 5), (true, 6), (true, 7), (true, 8), (true, 9), (false, 10), (true, 11), (true, 12)] (by kernel_rfl) (by kernel_rfl) (by kernel_rfl) (by kernel_rfl) (by kernel_rfl) (fun d _ _ _ _ h => by cases d <;> exact h) ⟨hfa.drew, v0.drew, v1.drew, v2.drew⟩ (fun _ => ?_)
          simp only [pickOps, List.append_eq, List.cons_append, List.nil_append, List.getElem?_toArray, List.getElem?_cons_succ, List.getElem?_cons_zero]
          have hb : Below wr.heap.size wr wr.drew := (Below.refl _ _).drew
          generalize wr.drew = wd at hb ⊢
          replace hfa := hfa.kept hb
          replace v0 := v0.kept hb
          replace v1 := v1.kept hb
          replace v2 := v2.kept hb
          replace hst := hst.below hb
          replace HU2 := Lib.hid (HU2.out.below hb)
          replace HU3 := Lib.hid (HU3.out.below hb)
          replace hbf := hbf.trans (hb.mono hbf.size)
          clear hb
          repeat (first | (refine seq_take (v := ?_) (by rfl) ?_ ?_; rotate_left; (· intro w hSw; (try dsimp only at hSw); obtain ⟨hFA, ⟨q0⟩, ⟨q1⟩, ⟨q2⟩⟩ := hSw; obtain ⟨g0, g1, g2, g3, g4, g5, g6⟩ := hFA.c7; clear hFA; go_simp; all_goals with_reducible rfl); (try simp only [Act.put, List.setIfInBounds_toArray, List.set_cons_zero, List.set_cons_succ])) | (refine seq_leave (by rfl) ?_; (try simp only [Act.put, List.setIfInBounds_toArray, List.set_cons_zero, List.set_cons_succ])))
          refine seq_pass (by rfl) ⟨hfa, v0, v1, v2⟩ ?_
          repeat (first | (refine seq_take (v := ?_) (by rfl) ?_ ?_; rotate_left; (· intro w hSw; (try dsimp only at hSw); obtain ⟨hFA, ⟨q0⟩, ⟨q1⟩, ⟨q2⟩⟩ := hSw; obtain ⟨g0, g1, g2, g3, g4, g5, g6⟩ := hFA.c7; clear hFA; go_simp; all_goals with_reducible rfl); (try simp only [Act.put, List.setIfInBounds_toArray, List.set_cons_zero, List.set_cons_succ])) | (refine seq_leave (by rfl) ?_; (try simp only [Act.put, List.setIfInBounds_toArray, List.set_cons_zero, List.set_cons_succ])))
          refine seq_end ?_
          go_wp2_with fail
          go_roundg (gk - 1)
          case measure => omega
          case rel => exact ⟨i + 1, false, by omega, by go_num, rfl, Lib.hid (by rw [← HA2.out]; rfl), HU2, HU3, hbf⟩
        case true =>
          go_wp2_with fail
          refine wp_region_seq (S := fun w' => FldAt w' b (off + i * 7) ⟨⟨nm, fk, vals, ⟨rk, rn, rc⟩, inv⟩, vo, vc⟩ ∧ CellV w' rb (roff + i * 3) (.int .i64 k) ∧ CellV w' rb (roff + i * 3 + 1) (.string ⟨n.toArray⟩) ∧ CellV w' rb (roff + i * 3 + 2) (.string ⟨c.toArray⟩)) [(true, 0), (true, 1), (true, 2), (true, 3), (true, 4), (true, 5), (true, 6), (true, 7), (true, 8), (true, 9), (false, 10), (true, 11), (true, 12)] (by kernel_rfl) (by kernel_rfl) (by kernel_rfl) (by kernel_rfl) (by kernel_rfl) (fun d _ _ _ _ h => by cases d <;> exact h) ⟨hfa.drew, v0.drew, v1.drew, v2.drew⟩ (fun _ => ?_)
          simp only [pickOps, List.append_eq, List.cons_append, List.nil_append, List.getElem?_toArray, List.getElem?_cons_succ, List.getElem?_cons_zero]
          have hb : Below wr.heap.size wr wr.drew := (Below.refl _ _).drew
          generalize wr.drew = wd at hb ⊢
          replace hfa := hfa.kept hb
          replace v0 := v0.kept hb
          replace v1 := v1.kept hb
          replace v2 := v2.kept hb
          replace hst := hst.below hb
          replace HU2 := Lib.hid (HU2.out.below hb)
          replace HU3 := Lib.hid (HU3.out.below hb)
          replace hbf := hbf.trans (hb.mono hbf.size)
          clear hb
          repeat (first | (refine seq_take (v := ?_) (by rfl) ?_ ?_; rotate_left; (· intro w hSw; (try dsimp only at hSw); obtain ⟨hFA, ⟨q0⟩, ⟨q1⟩, ⟨q2⟩⟩ := hSw; obtain ⟨g0, g1, g2, g3, g4, g5, g6⟩ := hFA.c7; clear hFA; go_simp; all_goals with_reducible rfl); (try simp only [Act.put, List.setIfInBounds_toArray, List.set_cons_zero, List.set_cons_succ])) | (refine seq_leave (by rfl) ?_; (try simp only [Act.put, List.setIfInBounds_toArray, List.set_cons_zero, List.set_cons_succ])))
          refine seq_step (by rfl) (fun K hK => ?_)
          go_simp
          go_at_call 27
          (with_reducible refine (fit_l nm fk vals rk rn rc inv vo vc k n c d _ hst HD).mono ?_)
          rintro e w10 ⟨rfl, hb⟩
          replace hfa := hfa.kept hb
          replace v0 := v0.kept hb
          replace v1 := v1.kept hb
          replace v2 := v2.kept hb
          replace hst := hst.below hb
          replace HU2 := Lib.hid (HU2.out.below hb)
          replace HU3 := Lib.hid (HU3.out.below hb)
          replace hbf := hbf.trans (hb.mono hbf.size)
          clear hb
          first | refine hK.out _ _ ⟨hfa, v0, v1, v2⟩ (fun _ => ?_) | (go_wp2_with fail; refine hK.out _ _ ⟨hfa, v0, v1, v2⟩ (fun _ => ?_))
          clear hK K
          (try simp only [Act.put, List.setIfInBounds_toArray, List.set_cons_zero, List.set_cons_succ])
          repeat (first | (refine seq_take (v := ?_) (by rfl) ?_ ?_; rotate_left; (· intro w hSw; (try dsimp only at hSw); obtain ⟨hFA, ⟨q0⟩, ⟨q1⟩, ⟨q2⟩⟩ := hSw; obtain ⟨g0, g1, g2, g3, g4, g5, g6⟩ := hFA.c7; clear hFA; go_simp; all_goals with_reducible rfl); (try simp only [Act.put, List.setIfInBounds_toArray, List.set_cons_zero, List.set_cons_succ])) | (refine seq_leave (by rfl) ?_; (try simp only [Act.put, List.setIfInBounds_toArray, List.set_cons_zero, List.set_cons_succ])))
          refine seq_end ?_
          go_wp2_with fail
          go_roundg (gk - 1)
          case measure => omega
          case rel => exact ⟨i + 1, d, by omega, by go_num, rfl, Lib.hid (by rw [← HA2.out]; rfl), HU2, HU3, hbf⟩
      case neg =>
      have hii : ¬ ((i : Nat) : Int) < ((vs.length : Nat) : Int) := by omega
      have hfa : fi = (((xs.map (·.f)).zip vs)).all (fun y => fitB y.1 y.2) := by
        rw [HA.out, List.take_of_length_le (by rw [List.length_zip, List.length_map]; omega)]
      have HFA := Lib.hid hfa
      clear hil hi HA hfa
      go_wp2_with fail
      (with_reducible refine (sameVals_h uo3 uo2 us2.length us2.length _ _ us2 us2 true _ (Lib.hid rfl) (Lib.hid rfl) HU3 HU2 (Lib.hid (by rw [HUL.out]; omega)) (Lib.hid (by simp))).mono ?_)
      rintro e w9 ⟨rfl, hb⟩
      replace hbf := hbf.trans (hb.mono hbf.size)
      replace HU2 : Hid (Vals w9 uo2 us2) := Lib.hid (HU2.out.below hb)
      clear hb HU3
      cases fi
      case false =>
        go_wp2_with fail
        go_ret
        exact ⟨ret_one rfl, hbf⟩
      case true =>
        have HE : Hid (us2 = vs) := Lib.hid (prepV_fits HP2.out HFA.out.symm)
        go_wp2_with fail
        (with_reducible refine (sameVals_h uo2 ro us2.length vs.length _ rcap us2 vs true _ (Lib.hid rfl) (Lib.hid rfl) HU2 (Lib.hid (HV.out.below hbf)) (Lib.hid (by rw [HUL.out]; omega)) (Lib.hid (by simp [HE.out]))).mono ?_)
        rintro e w10 ⟨rfl, hb⟩
        go_wp2_with fail
        go_ret
        exact ⟨ret_one rfl, hbf.trans (hb.mono hbf.size)⟩
theorem valueReplaces_walk (v u : Value) (w : World) (h : FldsIn w v) (hs : ValsIn w u) :
    Calls Tryd.prog 6 #[v, u] w fun e w' => e = .returned (.bool true) ∧ Below w.heap.size w w' := by
  obtain ⟨ao, cap, xs, rfl, hF, h1, h2, h3⟩ := h
  obtain ⟨ro, rcap, vs, rfl, hV, _, _, h4⟩ := hs
  unfold maxLen at h2
  exact repl_main ao cap xs ro rcap vs w hF hV (by omega) h3 h4
end Go.Proofs.YtlmjkbdodecbmaaDoor
