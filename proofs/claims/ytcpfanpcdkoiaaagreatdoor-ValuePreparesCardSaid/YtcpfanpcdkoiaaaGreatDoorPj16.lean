/-
  Pj16: ValB FldA StrC FldB (what is needed of them).
-/
import Derived.Test.YtcpfanpcdkoiaaaGreatDoorPj06
import Derived.Test.YtcpfanpcdkoiaaaGreatDoorPj07
import Derived.Test.YtcpfanpcdkoiaaaGreatDoorPj15
import Derived.Deep.DeepCutAuto
import Derived.WalkMore
import Derived.Laws.StructEq
set_option maxRecDepth 100000
set_option linter.unusedVariables false
set_option linter.unusedSimpArgs false

namespace Go.Proofs.YtcpfanpcdkoiaaaGreatDoor
open Go.RowKit


attribute [local go_sem] field_nat
structure CellV (w : World) (b off : Nat) (v : Value) : Prop where
 cell : w.cell? ⟨b, off, none⟩ = some v
theorem CellV.kept {w w' : World} {b off : Nat} {v : Value} (h : CellV w b off v) (hb : Below w.heap.size w w') : CellV w' b off v := ⟨(hb.cell (p := ⟨b, off, none⟩) (World.block_lt_of_cell? w ⟨b, off, none⟩ h.cell)).trans h.cell⟩
theorem CellV.drew {w : World} {b off : Nat} {v : Value} (h : CellV w b off v) : CellV w.drew b off v := ⟨h.cell⟩
def Vals (w : World) (ao : Option Addr) (vs : List V3) : Prop := ∀ (i : Nat) (v : V3), vs[i]? = some v → ∃ b off, ao = some ⟨b, off, none⟩ ∧ CellV w b (off + i * 3) (.int .i64 v.k) ∧ CellV w b (off + i * 3 + 1) (.string ⟨v.n.toArray⟩) ∧ CellV w b (off + i * 3 + 2) (.string ⟨v.c.toArray⟩)
theorem Vals.below {w w' : World} {ao : Option Addr} {vs : List V3} (h : Vals w ao vs) (hb : Below w.heap.size w w') : Vals w' ao vs := fun i v hi => by
 obtain ⟨b, off, h1, h2, h3, h4⟩ := h i v hi
 exact ⟨b, off, h1, h2.kept hb, h3.kept hb, h4.kept hb⟩
def valsRoom : Int → List V3 → Int
 | n, [] => n
 | n, v :: r => if n < 0 then n else valsRoom (roomL n [1, v.n.length, v.c.length]) r
theorem valsRoom_neg {n : Int} (h : n < 0) (vs : List V3) : valsRoom n vs = n := by
 cases vs with
 | nil => rfl
 | cons v r => unfold valsRoom; rw [if_pos h]
theorem valsRoom_drop {n : Int} {vs : List V3} {i : Nat} {v : V3} (h : vs[i]? = some v) (hn : ¬ n < 0) : valsRoom n (vs.drop i) = valsRoom (roomL n [1, v.n.length, v.c.length]) (vs.drop (i + 1)) := by
 have hi : i < vs.length := (List.getElem?_eq_some_iff.1 h).1
 rw [List.drop_eq_getElem_cons hi, (List.getElem?_eq_some_iff.1 h).2]
 rw [valsRoom, if_neg hn]
theorem roomL_range {n : Int} (ks : List Nat) (h1 : -1 ≤ n) (h2 : n ≤ 1000000000) : -1 ≤ roomL n ks ∧ roomL n ks ≤ 1000000000 := by
 induction ks generalizing n with
 | nil => exact ⟨h1, h2⟩
 | cons k ks ih =>
  unfold roomL
  split
  ·omega
  ·exact ih (by omega) (by omega)
def rowB (vs : List V3) : Bool := decide (vs.length ≤ 50) && decide (0 ≤ valsRoom 4000 vs)
theorem roomL_le (n : Int) (ks : List Nat) : roomL n ks ≤ n ∨ roomL n ks = -1 := by
 induction ks generalizing n with
 | nil => exact Or.inl (Int.le_refl _)
 | cons k ks ih =>
  unfold roomL
  split
  ·exact Or.inr rfl
  ·rcases ih (n - k) with h | h
   ·exact Or.inl (by omega)
   ·exact Or.inr h
theorem room_le {n : Int} {a b : Nat} (h : 0 ≤ roomL n [1, a, b]) : (a : Int) + b ≤ n := by
 unfold roomL at h
 split at h
 ·omega
 ·unfold roomL at h
  split at h
  ·omega
  ·unfold roomL at h
   split at h
   ·omega
   ·unfold roomL at h; omega
theorem cells3 (w : World) (x y z : Nat) : Cells .i64 (w.alloc (.cells #[.int .i64 (x : Int), .int .i64 (y : Int), .int .i64 (z : Int)] 3)) (some ⟨w.heap.size, 0, none⟩) [x, y, z] := by
 refine .inr ⟨_, 0, rfl, by simp, fun i hi => ?_⟩
 match i, hi with
 | 0, _ => go_simp
 | 1, _ => go_simp
 | 2, _ => go_simp
theorem room_z (n z : Int) (ao : Option Addr) (cap : Nat) (ks : List Nat) (w : World) (hn : -1 ≤ n) (hn2 : n ≤ 1000000000) (hc : Cells .i64 w ao ks) (hlen : ks.length ≤ 1000000) (hz : Hid (z = roomL n ks)) :
  Calls Tryz.prog 31 #[.int .i64 n, .slice ao ks.length cap] w fun e w' => e = .returned (.int .i64 z) ∧ Below w.heap.size w w' := by
 rw [hz.out]
 refine (room_any n ao cap ks w hn hn2 hc hlen).mono ?_
 rintro e w' ⟨rfl, rfl⟩
 exact ⟨rfl, Below.refl _ _⟩
theorem room_z3 (n z : Int) (ao : Option Addr) (x y t : Nat) (w : World) (hn : -1 ≤ n) (hn2 : n ≤ 1000000000) (hc : Cells .i64 w ao [x, y, t]) (hz : Hid (z = roomL n [x, y, t])) :
  Calls Tryz.prog 31 #[.int .i64 n, .slice ao 3 3] w fun e w' => e = .returned (.int .i64 z) ∧ Below w.heap.size w w' := room_z n z ao 3 [x, y, t] w hn hn2 hc (by simp) hz
set_option maxHeartbeats 1000000 in
theorem values_any (m0 : Int) (ao : Option Addr) (cap : Nat) (vs : List V3) (w : World) (hm1 : -1 ≤ m0) (hm2 : m0 ≤ 1000000000) (hv : Vals w ao vs) (hlen : vs.length ≤ 1000000) (hl : ∀ v ∈ vs, v.n.length ≤ 9223372036854775807 ∧ v.c.length ≤ 9223372036854775807) : Calls Tryz.prog 32 #[.int .i64 m0, .slice ao vs.length cap] w fun e w' => e = .returned (.int .i64 (valsRoom m0 vs)) ∧ Below w.heap.size w w' := by
 have hbf : Below w.heap.size w w := Below.refl _ _
 go_enter Tryz.func32, Tryz.ntmps32
 go_wp2_with fail
 go_loopg [0, 5] vs.length (fun gg nv iv wr => ∃ (m : Int) (i : Nat), i + gg = vs.length ∧ nv = .int .i64 m ∧ iv = .int .i64 (i : Int) ∧ -1 ≤ m ∧ m ≤ 1000000000 ∧ Hid (valsRoom m (vs.drop i) = valsRoom m0 vs) ∧ Vals wr ao vs ∧ Below w.heap.size w wr)
 case atStart => exact ⟨m0, 0, by omega, rfl, rfl, hm1, hm2, Lib.hid rfl, hv, hbf⟩
 clear hv hbf
 case round =>
  obtain ⟨m, i, hi, rfl, rfl, hq1, hq2, HR, hv, hbf⟩ := hrel
  by_cases hil : ¬ i < vs.length
  case pos =>
   have hdn : vs.drop i = [] := List.drop_eq_nil_of_le (by omega)
   have hre : m = valsRoom m0 vs := by rw [← HR.out, hdn]; rfl
   have HRE := Lib.hid hre
   have hii : ¬ ((i : Nat) : Int) < ((vs.length : Nat) : Int) := by omega
   clear hdn hre
   go_wp2_with fail
   go_ret
   exact ⟨ret_one (congrArg (Value.int .i64) (by exact HRE.out)), hbf⟩
  case neg =>
   have hil9 : i < vs.length := by omega
   have hii : ((i : Nat) : Int) < ((vs.length : Nat) : Int) := by omega
   clear hil
   by_cases hmn : m < 0
   case pos =>
    have hre : m = valsRoom m0 vs := by rw [← HR.out, valsRoom_neg hmn]
    have HRE := Lib.hid hre
    have hmg : ¬ (0 : Int) ≤ m := by omega
    clear hre
    go_wp2_with fail
    go_ret
    exact ⟨ret_one (congrArg (Value.int .i64) (by exact HRE.out)), hbf⟩
   case neg =>
    have hmg : (0 : Int) ≤ m := by omega
    obtain ⟨v, hv9⟩ : ∃ v, vs[i]? = some v := ⟨_, List.getElem?_eq_getElem hil9⟩
    have hmem : v ∈ vs := List.mem_of_getElem? hv9
    have hle := hl v hmem
    obtain ⟨hln, hlc⟩ := hle
    have hdr := valsRoom_drop hv9 hmn
    rw [hdr] at HR
    obtain ⟨b, off, rfl, h0, hbx, hby⟩ := hv i v hv9
    obtain ⟨z, hz⟩ : ∃ z, z = roomL m [1, v.n.length, v.c.length] := ⟨_, rfl⟩
    have hzr := roomL_range [1, v.n.length, v.c.length] hq1 hq2
    rw [← hz] at HR hzr
    have HZ := Lib.hid hz
    obtain ⟨hz1, hz2⟩ := hzr
    obtain ⟨vn, hvn⟩ : ∃ l, l = v.n := ⟨_, rfl⟩
    obtain ⟨vc, hvc⟩ : ∃ l, l = v.c := ⟨_, rfl⟩
    rw [← hvn] at HZ hbx hln
    rw [← hvc] at HZ hby hlc
    clear hdr hz hmem hv9 hvn hvc h0
    have hqi : (0 : Int) ≤ (i : Int) := by omega
    have ex := hbx.cell
    have ey := hby.cell
    go_wp2_with fail
    clear ex ey
    refine wp_region_seq (S := fun w' => CellV w' (b) (off + i * 3 + 1) (Value.string ⟨vn.toArray⟩) ∧ CellV w' (b) (off + i * 3 + 2) (Value.string ⟨vc.toArray⟩)) [(true, 0), (true, 1), (true, 2), (true, 3), (true, 4), (true, 5), (true, 6), (true, 7), (true, 8), (true, 9), (true, 10), (true, 11), (true, 12), (false, 13), (false, 14), (true, 15)] (by kernel_rfl) (by kernel_rfl) (by kernel_rfl) (by kernel_rfl) (by kernel_rfl) (fun d _ _ _ _ h => by cases d <;> exact h) ⟨hbx.drew, hby.drew⟩ (fun _ => ?_)
    simp only [pickOps, List.append_eq, List.cons_append, List.nil_append, List.getElem?_toArray, List.getElem?_cons_succ, List.getElem?_cons_zero]
    have hb : Below wr.heap.size wr wr.drew := (Below.refl _ _).drew
    generalize wr.drew = w1 at hb ⊢
    replace hbx := hbx.kept hb
    replace hby := hby.kept hb
    replace hv := hv.below hb
    replace hbf := hbf.trans (hb.mono hbf.size)
    clear hb
    repeat (first | (refine seq_take (v := ?_) (by rfl) ?_ ?_; rotate_left; (· intro w hSw; (try dsimp only at hSw); obtain ⟨⟨ex⟩, ⟨ey⟩⟩ := hSw; go_simp; all_goals with_reducible rfl); (try simp only [Act.put, List.setIfInBounds_toArray, List.set_cons_zero, List.set_cons_succ])) | (refine seq_leave (by rfl) ?_; (try simp only [Act.put, List.setIfInBounds_toArray, List.set_cons_zero, List.set_cons_succ])))
    refine seq_step (by rfl) (fun K hK => ?_)
    go_simp
    obtain ⟨w2, hwE⟩ : ∃ W, W = w1.alloc (.cells #[.int .i64 1, .int .i64 (vn.length : Int), .int .i64 (vc.length : Int)] 3) := ⟨_, rfl⟩
    have hb : Below w1.heap.size w1 w2 := by rw [hwE]; exact (Below.refl _ _).alloc (Nat.le_refl _) _
    have hcs : Cells .i64 w2 (some ⟨w1.heap.size, 0, none⟩) [1, vn.length, vc.length] := by rw [hwE]; exact cells3 _ 1 _ _
    rw [← hwE]
    clear hwE
    replace hbx := hbx.kept hb
    replace hby := hby.kept hb
    replace hv := hv.below hb
    replace hbf := hbf.trans (hb.mono hbf.size)
    clear hb
    first | refine hK.out _ _ ⟨hbx, hby⟩ (fun _ => ?_) | (go_wp2_with fail; refine hK.out _ _ ⟨hbx, hby⟩ (fun _ => ?_))
    clear hK K
    (try simp only [Act.put, List.setIfInBounds_toArray, List.set_cons_zero, List.set_cons_succ])
    refine seq_step (by rfl) (fun K hK => ?_)
    go_simp
    go_at_call 31
    (with_reducible refine (room_z3 m z _ 1 vn.length vc.length _ hq1 hq2 hcs HZ).mono ?_)
    rintro e w3 ⟨rfl, hb⟩
    replace hbx := hbx.kept hb
    replace hby := hby.kept hb
    replace hv := hv.below hb
    replace hbf := hbf.trans (hb.mono hbf.size)
    clear hb
    first | refine hK.out _ _ ⟨hbx, hby⟩ (fun _ => ?_) | (go_wp2_with fail; refine hK.out _ _ ⟨hbx, hby⟩ (fun _ => ?_))
    clear hK K
    (try simp only [Act.put, List.setIfInBounds_toArray, List.set_cons_zero, List.set_cons_succ])
    repeat (first | (refine seq_take (v := ?_) (by rfl) ?_ ?_; rotate_left; (· intro w hSw; (try dsimp only at hSw); obtain ⟨⟨ex⟩, ⟨ey⟩⟩ := hSw; go_simp; all_goals with_reducible rfl); (try simp only [Act.put, List.setIfInBounds_toArray, List.set_cons_zero, List.set_cons_succ])) | (refine seq_leave (by rfl) ?_; (try simp only [Act.put, List.setIfInBounds_toArray, List.set_cons_zero, List.set_cons_succ])))
    refine seq_end ?_
    go_wp2_with fail
    go_roundg (gk - 1)
    case measure => omega
    case rel => exact ⟨z, i + 1, by omega, rfl, by go_num, hz1, hz2, HR, hv, hbf⟩
set_option maxHeartbeats 1000000 in
theorem row_b (ao : Option Addr) (cap : Nat) (vs : List V3) (b : Bool) (w : World) (hv : Vals w ao vs) (hlen : vs.length ≤ 1000000) (hl : ∀ v ∈ vs, v.n.length ≤ 9223372036854775807 ∧ v.c.length ≤ 9223372036854775807) (HB : Hid (b = rowB vs)) : Calls Tryz.prog 6 #[.slice ao vs.length cap] w fun e w' => e = .returned (.bool b) ∧ Below w.heap.size w w' := by
 obtain ⟨z, hz⟩ : ∃ z, z = valsRoom 4000 vs := ⟨_, rfl⟩
 have hva := fun W h => values_any 4000 ao cap vs W (by decide) (by decide) h hlen hl
 rw [← hz] at hva
 have HZ := Lib.hid hz
 clear hz
 by_cases h50 : vs.length ≤ 50
 ·have h5i : ((vs.length : Nat) : Int) ≤ 50 := by omega
  have HB2 : Hid (b = decide (0 ≤ z)) := Lib.hid (by rw [HB.out, HZ.out]; unfold rowB; rw [decide_eq_true h50]; rfl)
  go_enter Tryz.func6, Tryz.ntmps6
  go_wp2_with fail
  refine (hva _ hv).mono ?_
  rintro e w' ⟨rfl, hb⟩
  clear hva
  go_wp2_with fail
  go_ret
  exact ⟨ret_one (by rw [HB2.out]; rfl), hb⟩
 ·have h5i : ¬ ((vs.length : Nat) : Int) ≤ 50 := by omega
  have HB2 : Hid (b = false) := Lib.hid (by rw [HB.out]; unfold rowB; rw [decide_eq_false h50]; rfl)
  clear hva
  go_enter Tryz.func6, Tryz.ntmps6
  go_wp2_with fail
  go_ret
  exact ⟨ret_one (by rw [HB2.out]; rfl), Below.refl _ _⟩
theorem v_15 : vpk [49, 46, 53] = 1 ∧ vpn [49, 46, 53] = [51, 47, 50] ∧ vpcat [49, 46, 53] = [] ∧ vpc [49, 46, 53] = 0 := by
 have h1 : qcode [49, 46, 53] = 3 := by unfold qcode; rw [if_pos (by decide)]
 have h2 : litCode [49, 46, 53] = 0 := by decide
 have h3 : litVal [49, 46, 53] = qOf false 3 2 := by
  rw [litVal_of h2, show expOf [49, 46, 53] = -1 by decide, show dnum (lall [49, 46, 53]) = 15 by decide, show sneg [49, 46, 53] = false by decide]
  decide
 have h4 : qtext (qOf false 3 2) = [51, 47, 50] := by
  unfold qtext
  rw [show decide (qOf false 3 2 < 0) = false by decide, show (qOf false 3 2).num.natAbs = 3 by decide, show (qOf false 3 2).den = 2 by decide, str3, str2]; rfl
 unfold vpk vpn vpcat vpc
 rw [h1, h2, h3, h4]
 exact ⟨rfl, rfl, rfl, rfl⟩
theorem v_32 : vtext 1 [51, 47, 50] [] = [51, 47, 50] := by
 have h4 : qtext (qOf false 3 2) = [51, 47, 50] := by
  unfold qtext
  rw [show decide (qOf false 3 2 < 0) = false by decide, show (qOf false 3 2).num.natAbs = 3 by decide, show (qOf false 3 2).den = 2 by decide, str3, str2]; rfl
 have h5 := (qparse_text (qOf false 3 2) (dec_small (by decide)) (dec_small (by decide))).1
 rw [h4] at h5
 unfold vtext vvalid vnum
 rw [h5]
 rfl
set_option maxHeartbeats 1000000 in
theorem alive12_any (w : World) : Calls Tryz.prog 7 #[] w fun e w' => e = .returned (.bool true) ∧ Below w.heap.size w w' := by
 have HK : Hid ((1 : Int) = vpk [49, 46, 53]) := Lib.hid v_15.1.symm
 have HN : Hid ([51, 47, 50] = vpn [49, 46, 53]) := Lib.hid v_15.2.1.symm
 have HG : Hid ([] = vpcat [49, 46, 53]) := Lib.hid v_15.2.2.1.symm
 have HD : Hid ((0 : Int) = vpc [49, 46, 53]) := Lib.hid v_15.2.2.2.symm
 have HT : Hid ([51, 47, 50] = vtext 1 [51, 47, 50] []) := Lib.hid v_32.symm
 have HK2 : Hid ((2 : Int) = vpk [58, 114, 101, 100]) := Lib.hid (by decide)
 have HN2 : Hid ([] = vpn [58, 114, 101, 100]) := Lib.hid rfl
 have HG2 : Hid ([114, 101, 100] = vpcat [58, 114, 101, 100]) := Lib.hid (by decide)
 have HD2 : Hid ((0 : Int) = vpc [58, 114, 101, 100]) := Lib.hid (by decide)
 have HT2 : Hid ([63] = vtext 0 [] []) := Lib.hid (by decide)
 have hbf : Below w.heap.size w w := Below.refl _ _
 go_enter Tryz.func7, Tryz.ntmps7
 go_wp2_with fail
 refine (vparse_b [49, 46, 53] [51, 47, 50] [] 1 0 _ HK HN HG HD (by decide) (Lib.hid fun _ => by decide)).mono ?_
 rintro e w1 ⟨rfl, hb⟩
 replace hbf := hbf.trans (hb.mono hbf.size)
 clear hb
 obtain ⟨w2, hwE⟩ : ∃ W, W = (w1.alloc (.cells #[.int .i64 1, .string ⟨#[51, 47, 50]⟩, .string ⟨#[]⟩] 30)) := ⟨_, rfl⟩
 have hb : Below w1.heap.size w1 w2 := by rw [hwE]; exact ((Below.refl _ w1).alloc (Nat.le_refl _) _)
 obtain ⟨pv, hpv⟩ : ∃ p, p = w1.heap.size := ⟨_, rfl⟩
 have hbv : Box3 w2 pv (Value.int .i64 1) (Value.string ⟨#[51, 47, 50]⟩) (Value.string ⟨#[]⟩) := by rw [hwE, hpv]; exact ⟨by go_simp, by go_simp, by go_simp, by go_simp, by go_simp, by go_simp⟩
 have HP : Hid (w.heap.size ≤ pv) := Lib.hid (by have h9 := hbf.size; omega)
 have HW := Lib.hid hwE; clear hwE
 go_upto_region 2 with fail
 rw [← HW.out, ← hpv]
 clear hpv HW
 replace hbf := hbf.trans (hb.mono hbf.size)
 clear hb
 have ev0 := hbv.c0
 have ev1 := hbv.c1
 have ev2 := hbv.c2
 go_wp2_with fail
 refine (vparse_b [58, 114, 101, 100] [] [114, 101, 100] 2 0 _ HK2 HN2 HG2 HD2 (by decide) (Lib.hid fun _ => by decide)).mono ?_
 rintro e w3 ⟨rfl, hb⟩
 clear ev0 ev1 ev2
 replace hbv := hbv.kept hb
 replace hbf := hbf.trans (hb.mono hbf.size)
 clear hb
 obtain ⟨w4, hwE⟩ : ∃ W, W = (w3.alloc (.cells #[.int .i64 2, .string ⟨#[]⟩, .string ⟨#[114, 101, 100]⟩] 30)) := ⟨_, rfl⟩
 have hb : Below w3.heap.size w3 w4 := by rw [hwE]; exact ((Below.refl _ w3).alloc (Nat.le_refl _) _)
 obtain ⟨pu, hpu⟩ : ∃ p, p = w3.heap.size := ⟨_, rfl⟩
 have hbu : Box3 w4 pu (Value.int .i64 2) (Value.string ⟨#[]⟩) (Value.string ⟨#[114, 101, 100]⟩) := by rw [hwE, hpu]; exact ⟨by go_simp, by go_simp, by go_simp, by go_simp, by go_simp, by go_simp⟩
 replace HP : Hid (w.heap.size ≤ pv ∧ pv < pu) := Lib.hid (by have h1 := HP.out; have h9 := hbf.size; have h2v := hbv.lt; omega)
 have HW := Lib.hid hwE; clear hwE
 go_upto_region 3 with fail
 rw [← HW.out, ← hpu]
 clear hpu HW
 replace hbv := hbv.kept hb
 replace hbf := hbf.trans (hb.mono hbf.size)
 clear hb
 refine wp_region_seq (S := fun w' => Box3 w' pv (Value.int .i64 1) (Value.string ⟨#[51, 47, 50]⟩) (Value.string ⟨#[]⟩) ∧ Box3 w' pu (Value.int .i64 2) (Value.string ⟨#[]⟩) (Value.string ⟨#[114, 101, 100]⟩)) [(true, 0), (true, 1), (true, 2), (true, 3), (true, 4), (true, 5), (true, 6), (true, 7), (true, 8), (true, 9), (true, 10), (true, 11), (true, 12), (false, 13), (true, 14), (true, 15), (true, 16), (true, 17), (false, 18), (true, 19), (true, 20), (true, 21), (true, 22), (false, 23), (true, 24), (true, 25), (true, 26)] (by kernel_rfl) (by kernel_rfl) (by kernel_rfl) (by kernel_rfl) (by kernel_rfl) (fun d _ _ _ _ h => by cases d <;> exact h) ⟨hbv.drew, hbu.drew⟩ (fun _ => ?_)
 simp only [pickOps, List.append_eq, List.cons_append, List.nil_append, List.getElem?_toArray, List.getElem?_cons_succ, List.getElem?_cons_zero]
 have hb : Below w4.heap.size w4 w4.drew := (Below.refl _ _).drew
 generalize w4.drew = w5 at hb ⊢
 replace hbv := hbv.kept hb
 replace hbu := hbu.kept hb
 replace hbf := hbf.trans (hb.mono hbf.size)
 clear hb
 repeat (first | (refine seq_take (v := ?_) (by rfl) ?_ ?_; rotate_left; (· intro w hSw; (try dsimp only at hSw); obtain ⟨⟨ev0, ev1, ev2, _, _, _⟩, ⟨eu0, eu1, eu2, _, _, _⟩⟩ := hSw; go_simp; all_goals with_reducible rfl); (try simp only [Act.put, List.setIfInBounds_toArray, List.set_cons_zero, List.set_cons_succ])) | (refine seq_leave (by rfl) ?_; (try simp only [Act.put, List.setIfInBounds_toArray, List.set_cons_zero, List.set_cons_succ])))
 refine seq_step (by rfl) (fun K hK => ?_)
 go_simp
 go_at_call 34
 (with_reducible refine (vcat_any [114, 101, 100] _ (by decide)).mono ?_)
 rintro e w6 ⟨rfl, hb⟩
 replace hbv := hbv.kept hb
 replace hbu := hbu.kept hb
 replace hbf := hbf.trans (hb.mono hbf.size)
 clear hb
 first | refine hK.out _ _ ⟨hbv, hbu⟩ (fun _ => ?_) | (go_wp2_with fail; refine hK.out _ _ ⟨hbv, hbu⟩ (fun _ => ?_))
 clear hK K
 (try simp only [Act.put, List.setIfInBounds_toArray, List.set_cons_zero, List.set_cons_succ])
 repeat (first | (refine seq_take (v := ?_) (by rfl) ?_ ?_; rotate_left; (· intro w hSw; (try dsimp only at hSw); obtain ⟨⟨ev0, ev1, ev2, _, _, _⟩, ⟨eu0, eu1, eu2, _, _, _⟩⟩ := hSw; go_simp; all_goals with_reducible rfl); (try simp only [Act.put, List.setIfInBounds_toArray, List.set_cons_zero, List.set_cons_succ])) | (refine seq_leave (by rfl) ?_; (try simp only [Act.put, List.setIfInBounds_toArray, List.set_cons_zero, List.set_cons_succ])))
 refine seq_step (by rfl) (fun K hK => ?_)
 go_simp
 go_at_call 35
 (with_reducible refine (vtext_t 1 [51, 47, 50] [] [51, 47, 50] _ HT (by decide) (by decide)).mono ?_)
 rintro e w7 ⟨rfl, hb⟩
 replace hbv := hbv.kept hb
 replace hbu := hbu.kept hb
 replace hbf := hbf.trans (hb.mono hbf.size)
 clear hb
 first | refine hK.out _ _ ⟨hbv, hbu⟩ (fun _ => ?_) | (go_wp2_with fail; refine hK.out _ _ ⟨hbv, hbu⟩ (fun _ => ?_))
 clear hK K
 (try simp only [Act.put, List.setIfInBounds_toArray, List.set_cons_zero, List.set_cons_succ])
 repeat (first | (refine seq_take (v := ?_) (by rfl) ?_ ?_; rotate_left; (· intro w hSw; (try dsimp only at hSw); obtain ⟨⟨ev0, ev1, ev2, _, _, _⟩, ⟨eu0, eu1, eu2, _, _, _⟩⟩ := hSw; go_simp; all_goals with_reducible rfl); (try simp only [Act.put, List.setIfInBounds_toArray, List.set_cons_zero, List.set_cons_succ])) | (refine seq_leave (by rfl) ?_; (try simp only [Act.put, List.setIfInBounds_toArray, List.set_cons_zero, List.set_cons_succ])))
 refine seq_step (by rfl) (fun K hK => ?_)
 go_simp
 go_at_call 35
 (with_reducible refine (vtext_t 0 [] [] [63] _ HT2 (by decide) (by decide)).mono ?_)
 rintro e w8 ⟨rfl, hb⟩
 replace hbv := hbv.kept hb
 replace hbu := hbu.kept hb
 replace hbf := hbf.trans (hb.mono hbf.size)
 clear hb
 first | refine hK.out _ _ ⟨hbv, hbu⟩ (fun _ => ?_) | (go_wp2_with fail; refine hK.out _ _ ⟨hbv, hbu⟩ (fun _ => ?_))
 clear hK K
 (try simp only [Act.put, List.setIfInBounds_toArray, List.set_cons_zero, List.set_cons_succ])
 repeat (first | (refine seq_take (v := ?_) (by rfl) ?_ ?_; rotate_left; (· intro w hSw; (try dsimp only at hSw); obtain ⟨⟨ev0, ev1, ev2, _, _, _⟩, ⟨eu0, eu1, eu2, _, _, _⟩⟩ := hSw; go_simp; all_goals with_reducible rfl); (try simp only [Act.put, List.setIfInBounds_toArray, List.set_cons_zero, List.set_cons_succ])) | (refine seq_leave (by rfl) ?_; (try simp only [Act.put, List.setIfInBounds_toArray, List.set_cons_zero, List.set_cons_succ])))
 refine seq_end ?_
 go_wp2_with fail
 go_ret
 exact ⟨rfl, hbf⟩
end Go.Proofs.YtcpfanpcdkoiaaaGreatDoor

namespace Go.Proofs.YtcpfanpcdkoiaaaGreatDoor
open Go.RowKit


theorem valsRoom_le : ∀ (vs : List V3) (n : Int), 0 ≤ valsRoom n vs → n ≤ 4000 → ∀ v ∈ vs, v.n.length ≤ 4000 ∧ v.c.length ≤ 4000 := by
 intro vs
 induction vs with
 | nil => intro n _ _ v hv; cases hv
 | cons u r ih =>
  intro n h hn v hv
  unfold valsRoom at h
  by_cases h0 : n < 0
  ·rw [if_pos h0] at h; omega
  ·rw [if_neg h0] at h
   by_cases h1 : roomL n [1, u.n.length, u.c.length] < 0
   ·rw [valsRoom_neg h1] at h; omega
   ·have h2 := room_le (n := n) (a := u.n.length) (b := u.c.length) (by omega)
    rcases List.mem_cons.1 hv with rfl | hv
    ·omega
    ·rcases roomL_le n [1, u.n.length, u.c.length] with h3 | h3
     ·exact ih _ h (by omega) v hv
     ·omega
theorem rowB_le {vs : List V3} (h : rowB vs = true) : vs.length ≤ 50 ∧ ∀ v ∈ vs, v.n.length ≤ 4000 ∧ v.c.length ≤ 4000 := by
 unfold rowB at h
 simp only [Bool.and_eq_true, decide_eq_true_eq] at h
 exact ⟨h.1, valsRoom_le vs 4000 h.2 (by decide)⟩
theorem row_any (ao : Option Addr) (cap : Nat) (vs : List V3) (b : Bool) (w : World) (hv : Vals w ao vs) (hl : ∀ v ∈ vs, v.n.length ≤ 9223372036854775807 ∧ v.c.length ≤ 9223372036854775807) (HB : Hid (b = rowB vs)) : Calls Tryz.prog 6 #[.slice ao vs.length cap] w fun e w' => e = .returned (.bool b) ∧ Below w.heap.size w w' := by
 by_cases h50 : vs.length ≤ 50
 ·exact row_b ao cap vs b w hv (by omega) hl HB
 ·have h5i : ¬ ((vs.length : Nat) : Int) ≤ 50 := by omega
  have HB2 : Hid (b = false) := Lib.hid (by rw [HB.out]; unfold rowB; rw [decide_eq_false h50]; rfl)
  go_enter Tryz.func6, Tryz.ntmps6
  go_wp2_with fail
  go_ret
  exact ⟨ret_one (by rw [HB2.out]; rfl), Below.refl _ _⟩
theorem roomL_sum (ks : List Nat) : ∀ {n : Int}, 0 ≤ roomL n ks → roomL n ks = n - ((ks.sum : Nat) : Int) ∧ 0 ≤ n := by
 induction ks with
 | nil => intro n h; unfold roomL at h ⊢; simp; exact h
 | cons k ks ih =>
  intro n h
  unfold roomL at h ⊢
  split at h
  ·omega
  ·rename_i h2
   rw [if_neg h2]
   obtain ⟨h3, h4⟩ := ih h
   rw [h3]
   simp only [List.sum_cons, Int.natCast_add]
   omega
def strsR : Int → List (List UInt8) → Int
 | n, [] => n
 | n, s :: r => if n < 0 then n else strsR (roomL n [1, s.length]) r
theorem strsR_neg {n : Int} (h : n < 0) (ls : List (List UInt8)) : strsR n ls = n := by
 cases ls with
 | nil => rfl
 | cons v r => unfold strsR; rw [if_pos h]
theorem strsR_drop {n : Int} {ls : List (List UInt8)} {i : Nat} (hi : i < ls.length) (hn : ¬ n < 0) : strsR n (ls.drop i) = strsR (roomL n [1, (ls[i]?.getD []).length]) (ls.drop (i + 1)) := by
 rw [List.drop_eq_getElem_cons hi, List.getElem?_eq_getElem hi]
 rw [strsR, if_neg hn]; rfl
theorem strsR_le : ∀ (ls : List (List UInt8)) {n : Int}, 0 ≤ strsR n ls → strsR n ls ≤ n - ((ls.length : Nat) : Int) ∧ 0 ≤ n := by
 intro ls
 induction ls with
 | nil => intro n h; unfold strsR at h ⊢; simp; exact h
 | cons s r ih =>
  intro n h
  unfold strsR at h ⊢
  by_cases h0 : n < 0
  ·rw [if_pos h0] at h; omega
  ·rw [if_neg h0] at h ⊢
   obtain ⟨h1, h2⟩ := ih h
   obtain ⟨h3, h4⟩ := roomL_sum _ h2
   simp only [List.sum_cons, List.sum_nil, Int.natCast_add] at h3
   rw [List.length_cons]
   omega
def fldsR : Int → List F5 → Int
 | n, [] => n
 | n, f :: r => if n < 0 then n else fldsR (strsR (roomL n [4, f.nm.length, f.r.n.length, f.r.c.length]) f.vals) r
theorem fldsR_neg {n : Int} (h : n < 0) (ls : List F5) : fldsR n ls = n := by
 cases ls with
 | nil => rfl
 | cons v r => unfold fldsR; rw [if_pos h]
theorem fldsR_drop {n : Int} {fs : List F5} {i : Nat} {f : F5} (h : fs[i]? = some f) (hn : ¬ n < 0) : fldsR n (fs.drop i) = fldsR (strsR (roomL n [4, f.nm.length, f.r.n.length, f.r.c.length]) f.vals) (fs.drop (i + 1)) := by
 have hi : i < fs.length := (List.getElem?_eq_some_iff.1 h).1
 rw [List.drop_eq_getElem_cons hi, (List.getElem?_eq_some_iff.1 h).2]
 rw [fldsR, if_neg hn]
structure Small (f : F5) : Prop where
 nm : f.nm.length ≤ 4000
 rn : f.r.n.length ≤ 4000
 rc : f.r.c.length ≤ 4000
 vals : f.vals.length ≤ 4000
theorem fldsR_le : ∀ (fs : List F5) {n : Int}, 0 ≤ fldsR n fs → n ≤ 4000 → fldsR n fs ≤ n - ((fs.length : Nat) : Int) ∧ 0 ≤ n ∧ ∀ f ∈ fs, Small f := by
 intro fs
 induction fs with
 | nil => intro n h hn; unfold fldsR at h ⊢; simp; exact h
 | cons f r ih =>
  intro n h hn
  unfold fldsR at h ⊢
  by_cases h0 : n < 0
  ·rw [if_pos h0] at h; omega
  ·rw [if_neg h0] at h ⊢
   have h9 : 0 ≤ strsR (roomL n [4, f.nm.length, f.r.n.length, f.r.c.length]) f.vals := by
    by_cases h8 : strsR (roomL n [4, f.nm.length, f.r.n.length, f.r.c.length]) f.vals < 0
    ·rw [fldsR_neg h8] at h; omega
    ·omega
   obtain ⟨h3, h4⟩ := strsR_le _ h9
   obtain ⟨h5, h6⟩ := roomL_sum _ h4
   simp only [List.sum_cons, List.sum_nil, Int.natCast_add] at h5
   obtain ⟨h1, h2, h10⟩ := ih h (by omega)
   rw [List.length_cons]
   refine ⟨by omega, by omega, fun x hx => ?_⟩
   rcases List.mem_cons.1 hx with rfl | hx
   ·exact ⟨by omega, by omega, by omega, by omega⟩
   ·exact h10 x hx
def fieldsB (fs : List F5) : Bool := decide (0 ≤ fldsR 2000 fs)
theorem fieldsB_le {fs : List F5} (h : fieldsB fs = true) : fs.length ≤ 2000 ∧ ∀ f ∈ fs, Small f := by
 unfold fieldsB at h
 simp only [decide_eq_true_eq] at h
 obtain ⟨h1, h2, h3⟩ := fldsR_le fs h (by decide)
 exact ⟨by omega, h3⟩
structure FV where
 f : F5
 vo : Option Addr
 vc : Nat
def FV.cells (x : FV) : List Value := [.string ⟨x.f.nm.toArray⟩, .int .i64 x.f.k, .slice x.vo x.f.vals.length x.vc, .int .i64 x.f.r.k, .string ⟨x.f.r.n.toArray⟩, .string ⟨x.f.r.c.toArray⟩, .int .i64 x.f.inv]
abbrev FV.val (x : FV) : Value := .agg #[.string ⟨x.f.nm.toArray⟩, .int .i64 x.f.k, .slice x.vo x.f.vals.length x.vc, .int .i64 x.f.r.k, .string ⟨x.f.r.n.toArray⟩, .string ⟨x.f.r.c.toArray⟩, .int .i64 x.f.inv]
def Flds (w : World) (ao : Option Addr) (xs : List FV) : Prop :=
 (xs = [] ∨ ∃ b off, ao = some ⟨b, off, none⟩ ∧ b < w.heap.size ∧ ∀ i x, xs[i]? = some x → ∀ j c, x.cells[j]? = some c → w.cell? ⟨b, off + i * 7 + j, none⟩ = some c) ∧ ∀ x ∈ xs, Strs w (.slice x.vo x.f.vals.length x.vc) x.f.vals
theorem Flds.below {w w' : World} {ao : Option Addr} {xs : List FV} (h : Flds w ao xs) (hb : Below w.heap.size w w') : Flds w' ao xs := by
 refine ⟨?_, fun x hx => (h.2 x hx).below hb⟩
 rcases h.1 with h1 | ⟨b, off, h1, h2, h3⟩
 ·exact .inl h1
 ·exact .inr ⟨b, off, h1, Nat.lt_of_lt_of_le h2 hb.size, fun i x hi j c hj => (hb.cell (p := ⟨b, off + i * 7 + j, none⟩) h2).trans (h3 i x hi j c hj)⟩
structure FldAt (w : World) (b o : Nat) (x : FV) : Prop where
 lt : b < w.heap.size
 c : ∀ j v, x.cells[j]? = some v → w.cell? ⟨b, o + j, none⟩ = some v
theorem FldAt.kept {w w' : World} {b o : Nat} {x : FV} (h : FldAt w b o x) (hb : Below w.heap.size w w') : FldAt w' b o x :=
 ⟨Nat.lt_of_lt_of_le h.lt hb.size, fun j v hj => (hb.cell (p := ⟨b, o + j, none⟩) h.lt).trans (h.c j v hj)⟩
theorem FldAt.drew {w : World} {b o : Nat} {x : FV} (h : FldAt w b o x) : FldAt w.drew b o x := ⟨h.lt, h.c⟩
theorem FldAt.c7 {w : World} {b o : Nat} {x : FV} (h : FldAt w b o x) : w.cell? ⟨b, o, none⟩ = some (.string ⟨x.f.nm.toArray⟩) ∧ w.cell? ⟨b, o + 1, none⟩ = some (.int .i64 x.f.k) ∧ w.cell? ⟨b, o + 2, none⟩ = some (.slice x.vo x.f.vals.length x.vc) ∧ w.cell? ⟨b, o + 3, none⟩ = some (.int .i64 x.f.r.k) ∧ w.cell? ⟨b, o + 4, none⟩ = some (.string ⟨x.f.r.n.toArray⟩) ∧ w.cell? ⟨b, o + 5, none⟩ = some (.string ⟨x.f.r.c.toArray⟩) ∧ w.cell? ⟨b, o + 6, none⟩ = some (.int .i64 x.f.inv) :=
 ⟨h.c 0 _ rfl, h.c 1 _ rfl, h.c 2 _ rfl, h.c 3 _ rfl, h.c 4 _ rfl, h.c 5 _ rfl, h.c 6 _ rfl⟩
theorem Flds.at {w : World} {ao : Option Addr} {xs : List FV} (h : Flds w ao xs) {i : Nat} {x : FV} (hi : xs[i]? = some x) : ∃ b off, ao = some ⟨b, off, none⟩ ∧ FldAt w b (off + i * 7) x := by
 rcases h.1 with rfl | ⟨b, off, h1, h2, h3⟩
 ·simp at hi
 ·exact ⟨b, off, h1, h2, h3 i x hi⟩
end Go.Proofs.YtcpfanpcdkoiaaaGreatDoor

namespace Go.Proofs.YtcpfanpcdkoiaaaGreatDoor
open Go.RowKit


theorem find_hit {α : Type} {p : α → Bool} {zs : List α} {k : Nat} (hk : k < zs.length) (h : p zs[k] = true) (hne : ∀ j (hj : j < k), p zs[j] = false) : zs.findIdx? p = some k :=
 List.findIdx?_eq_some_iff_getElem.2 ⟨hk, h, fun j hj => by simp [hne j hj]⟩
theorem find_miss {α : Type} {p : α → Bool} {zs : List α} (h : ∀ j (hj : j < zs.length), p zs[j] = false) : zs.findIdx? p = none := by
 rw [List.findIdx?_eq_none_iff]
 intro x hx
 obtain ⟨i, hi, rfl⟩ := List.mem_iff_getElem.1 hx
 exact h i hi
def fidx (o : Option Nat) : Int := match o with | none => -1 | some k => (k : Int)
theorem any_fidx {α : Type} (p : α → Bool) (zs : List α) : decide (0 ≤ fidx (zs.findIdx? p)) = zs.any p := by
 cases h : zs.findIdx? p with
 | none =>
  have := List.findIdx?_eq_none_iff.1 h
  rw [show fidx none = -1 from rfl]
  symm; rw [show (decide (0 ≤ (-1 : Int))) = false from by decide]
  rw [List.any_eq_false]; intro x hx; simp [this x hx]
 | some k =>
  have h2 := List.findIdx?_eq_some_iff_getElem.1 h
  rw [show fidx (some k) = (k : Int) from rfl]
  rw [show decide (0 ≤ (k : Int)) = true from by simp]
  symm; rw [List.any_eq_true]
  exact ⟨_, List.getElem_mem h2.1, h2.2.1⟩
set_option maxHeartbeats 1000000 in
theorem idx_str (v : Value) (ls : List (List UInt8)) (x : List UInt8) (w : World) (r : Int) (h : Strs w v ls) (hr : Hid (fidx (ls.findIdx? (fun l => decide (l = x))) = r)) :
  Calls Tryz.prog 99 #[v, .string ⟨x.toArray⟩] w fun e w' => e = .returned (.int .i64 r) ∧ Below w.heap.size w w' := by
 obtain ⟨ao, c, rfl, h1, h2, h3⟩ := h
 unfold maxLen at h2
 go_enter Tryz.func99, Tryz.ntmps99
 go_wp2_with fail
 go_loopg [8] ls.length (fun gg s8 wr => ∃ kk : Nat, kk ≤ ls.length ∧ ls.length - kk ≤ gg ∧ s8 = .int .i64 kk ∧ Aside (∀ j (hj : j < kk) (hj2 : j < ls.length), decide (ls[j] = x) = false) ∧ Below w.heap.size w wr)
 case atStart => exact ⟨0, Nat.zero_le _, by omega, rfl, fun j hj => absurd hj (Nat.not_lt_zero _), Below.refl _ _⟩
 case round =>
  obtain ⟨kk, hkk, hg, rfl, A, hbr⟩ := hrel
  by_cases hlt : kk < ls.length
  ·have hltz : (kk : Int) < (ls.length : Int) := by omega
   have hltz0 : (0 : Int) ≤ (kk : Int) := by omega
   rcases h3 with h0 | ⟨b, off, rfl, hb, hc⟩
   ·rw [h0] at hlt; simp at hlt
   have l2 := (hbr.cell (p := ⟨b, off + kk, none⟩) hb).trans (hc kk hlt)
   rw [List.getElem?_eq_getElem hlt, Option.getD_some] at l2
   obtain ⟨y, hy⟩ : ∃ y, ls[kk] = y := ⟨_, rfl⟩
   rw [hy] at l2
   have B : Aside (ls[kk] = y) := hy
   clear hy hc
   by_cases q : y = x
   ·subst q
    have q2 : (y == y) = true := beq_self_eq_true _
    have hr2 : r = (kk : Int) := by rw [← hr.out, find_hit hlt (by rw [B.out]; simp) (fun j hj => A.out j hj (by omega))]; rfl
    subst hr2
    clear hr A B
    go_wp2_with fail
    go_ret
    exact ⟨rfl, hbr⟩
   ·have q2 : (x == y) = false := by simp; exact fun e => q e.symm
    have q3 : Aside (decide (y = x) = false) := by simp [Aside]; exact q
    clear hr q
    go_wp2_with fail
    go_roundg (ls.length - (kk + 1))
    case measure => omega
    case rel =>
     refine ⟨kk + 1, by omega, by omega, by go_num, (show Aside _ from fun j hj hj2 => ?_), hbr⟩
     by_cases e : j = kk
     ·subst e; rw [B.out]; exact q3.out
     ·exact A.out j (by omega) hj2
  ·have hltz : ¬ (kk : Int) < (ls.length : Int) := by omega
   have hr2 : r = -1 := by rw [← hr.out, find_miss (fun j hj => A.out j (by omega) hj)]; rfl
   subst hr2; clear hr A
   go_wp2_with fail
   go_ret
   exact ⟨rfl, hbr⟩
theorem cont_str (v : Value) (ls : List (List UInt8)) (x : List UInt8) (w : World) (r : Bool) (h : Strs w v ls) (hr : Hid (decide (x ∈ ls) = r)) :
  Calls Tryz.prog 39 #[v, .string ⟨x.toArray⟩] w fun e w' => e = .returned (.bool r) ∧ Below w.heap.size w w' := by
 have hr2 : r = decide (0 ≤ fidx (ls.findIdx? (fun l => decide (l = x)))) := by
  rw [any_fidx, ← hr.out]
  rw [Bool.eq_iff_iff, List.any_eq_true]
  simp
 have hI := idx_str v ls x w _ h (Lib.hid rfl)
 clear hr
 generalize fidx (ls.findIdx? (fun l => decide (l = x))) = k at hI hr2
 subst hr2
 obtain ⟨ao, c, rfl, h1, h2, h3⟩ := h
 clear h1 h2 h3
 go_enter Tryz.func39, Tryz.ntmps39
 go_wp2_with (go_at_call 99; refine hI.mono ?_; rintro e w' ⟨rfl, hb'⟩)
 go_ret
 exact ⟨by first | rfl | simp, hb'⟩
end Go.Proofs.YtcpfanpcdkoiaaaGreatDoor

namespace Go.Proofs.YtcpfanpcdkoiaaaGreatDoor
open Go.RowKit


theorem Strs.take {w : World} {ao : Option Addr} {c : Nat} {ls : List (List UInt8)} (h : Strs w (.slice ao ls.length c) ls) {k : Nat} (hk : k ≤ ls.length) : Strs w (.slice ao k c) (ls.take k) := by
 obtain ⟨ao', cap, e, h1, h2, h3⟩ := h
 cases e
 refine ⟨ao, c, by rw [List.length_take, Nat.min_eq_left hk], by rw [List.length_take]; omega, h2, ?_⟩
 rcases h3 with h3 | ⟨b, off, h4, h5, h6⟩
 ·exact .inl (by rw [h3, List.take_nil])
 ·refine .inr ⟨b, off, h4, h5, fun i hi => ?_⟩
  rw [List.length_take] at hi
  rw [List.getElem?_take_of_lt (by omega)]
  exact h6 i (by omega)
theorem declB_step {ls : List (List UInt8)} {k : Nat} (hk : k < ls.length) : declB (ls.take k) (ls.drop k) = (decide (ls[k].length ≤ 60) && (decide (ls[k] ∉ ls.take k) && declB (ls.take (k + 1)) (ls.drop (k + 1)))) := by
 rw [List.drop_eq_getElem_cons hk, declB, List.take_succ_eq_append_getElem hk]
set_option maxHeartbeats 1000000 in
theorem declared_any (v : Value) (ls : List (List UInt8)) (b : Bool) (w : World) (h : Strs w v ls) (hr : Hid (b = (declB [] ls && decide (ls.length ≤ 100)))) :
  Calls Tryz.prog 36 #[v] w fun e w' => e = .returned (.bool b) ∧ Below w.heap.size w w' := by
 have hs0 := h
 obtain ⟨ao, c, rfl, h1, h2, h3⟩ := h
 have HS := Lib.hid hs0
 clear hs0
 unfold maxLen at h2
 go_enter Tryz.func36, Tryz.ntmps36
 go_wp2_with fail
 go_loopg [7] ls.length (fun gg s7 wr => ∃ kk : Nat, kk ≤ ls.length ∧ ls.length - kk ≤ gg ∧ s7 = .int .i64 kk ∧ Hid (declB [] ls = declB (ls.take kk) (ls.drop kk)) ∧ Below w.heap.size w wr)
 case atStart => exact ⟨0, Nat.zero_le _, by omega, rfl, Lib.hid rfl, Below.refl _ _⟩
 case round =>
  obtain ⟨kk, hkk, hg, rfl, HD, hbr⟩ := hrel
  by_cases hlt : kk < ls.length
  ·have hltz : (kk : Int) < (ls.length : Int) := by omega
   have hltz0 : (0 : Int) ≤ (kk : Int) := by omega
   rcases h3 with h0 | ⟨g, off, rfl, hb, hc⟩
   ·rw [h0] at hlt; simp at hlt
   have l2 := (hbr.cell (p := ⟨g, off + kk, none⟩) hb).trans (hc kk hlt)
   rw [List.getElem?_eq_getElem hlt, Option.getD_some] at l2
   have hT := (HS.out.take (Nat.le_of_lt hlt)).below hbr
   have hst := declB_step hlt
   obtain ⟨y, hy⟩ : ∃ y, ls[kk] = y := ⟨_, rfl⟩
   obtain ⟨T, hTT⟩ : ∃ T, ls.take kk = T := ⟨_, rfl⟩
   rw [hy] at l2 hst
   rw [hTT] at hst hT
   have HST := Lib.hid hst
   have HTT := Lib.hid hTT
   have HTS := Lib.hid hT
   clear hst hy hc hTT hT
   by_cases q : 60 < y.length
   ·have q2 : (60 : Int) < ((y.length : Nat) : Int) := by omega
    have hbf : b = false := by rw [hr.out, HD.out, HTT.out, HST.out]; simp; intro h9; omega
    have HB := Lib.hid hbf
    clear hbf
    go_wp2_with fail
    go_ret
    exact ⟨ret_one (congrArg Value.bool HB.out.symm), hbr⟩
   ·have q2 : ¬ (60 : Int) < ((y.length : Nat) : Int) := by omega
    obtain ⟨m, hm⟩ : ∃ m, decide (y ∈ T) = m := ⟨_, rfl⟩
    have HM := Lib.hid hm
    clear hm
    go_wp2_with fail
    (with_reducible refine (cont_str _ T y _ m HTS.out HM).mono ?_)
    rintro e w2 ⟨rfl, hb2⟩
    have hbr2 := hbr.trans (hb2.mono hbr.size)
    clear hb2 l2
    cases m
    ·have HD2 : Hid (declB [] ls = declB (ls.take (kk + 1)) (ls.drop (kk + 1))) := Lib.hid (by
      have h9 := HM.out
      rw [decide_eq_false_iff_not] at h9
      rw [HD.out, HTT.out, HST.out]; simp [h9]; omega)
     go_wp2_with fail
     go_roundg (ls.length - (kk + 1))
     case measure => omega
     case rel => exact ⟨kk + 1, by omega, by omega, by go_num, HD2, hbr2⟩
    ·have hbf : b = false := by
      have h9 := HM.out
      rw [decide_eq_true_iff] at h9
      rw [hr.out, HD.out, HTT.out, HST.out]; simp [h9]
     have HB := Lib.hid hbf
     clear hbf
     go_wp2_with fail
     go_ret
     exact ⟨ret_one (congrArg Value.bool HB.out.symm), hbr2⟩
  ·have hltz : ¬ (kk : Int) < (ls.length : Int) := by omega
   have hb2 : b = decide (ls.length ≤ 100) := by rw [hr.out, HD.out, List.drop_of_length_le (by omega)]; simp [declB]
   have HB := Lib.hid hb2
   clear hb2
   go_wp2_with fail
   go_ret
   refine ⟨ret_one (congrArg Value.bool ?_), hbr⟩
   rw [HB.out]
   by_cases h9 : ls.length ≤ 100
   ·rw [decide_eq_true h9]; exact decide_eq_true (by omega)
   ·rw [decide_eq_false h9]; exact decide_eq_false (by omega)
end Go.Proofs.YtcpfanpcdkoiaaaGreatDoor
