/-
  Pj21: BookVa BookVb (what is needed of them).
-/
import Derived.Test.YtcpfanpcdkoiaaaGreatDoorPj07
import Derived.Test.YtcpfanpcdkoiaaaGreatDoorPj18
import Derived.Test.YtcpfanpcdkoiaaaGreatDoorPj20
set_option maxRecDepth 100000
set_option linter.unusedVariables false
set_option linter.unusedSimpArgs false

namespace Go.Proofs.YtcpfanpcdkoiaaaGreatDoor
open Go.RowKit Go.Shelf


def OwV (B : Nat) (w : World) (v : Value) (us : List V3) : Prop := OwnsK 3 B 30 w v us.length (vcells us)
def ValI (w : World) (v : Value) (us : List V3) : Prop := ∃ ao cap, v = .slice ao us.length cap ∧ us.length ≤ cap ∧ cap ≤ maxLen ∧ (ao = none → cap = 0) ∧ Vals w ao us
theorem ValI.below {w w' : World} {v : Value} {us : List V3} (h : ValI w v us) (hb : Below w.heap.size w w') : ValI w' v us := by
 obtain ⟨ao, cap, h1, h2, h3, h4, h5⟩ := h
 exact ⟨ao, cap, h1, h2, h3, h4, h5.below hb⟩
theorem OwV.val {B : Nat} {w : World} {v : Value} {us : List V3} (h : OwV B w v us) : ValI w v us := by
 obtain ⟨ao, cap, h1, h2, h3, h4, h5, h6⟩ := OwnsK.vals h
 exact ⟨ao, cap, h1, h4, h5, h6, h3⟩
theorem OwV.kept {B : Nat} {w w' : World} {v : Value} {us : List V3} (h : OwV B w v us) (hb : Below w.heap.size w w') : OwV B w' v us := OwnsK.kept h hb
theorem OwV.lt {B : Nat} {w : World} {v : Value} {us : List V3} (h : OwV B w v us) : ∀ g, v.ownBlock = some g → B ≤ g ∧ g < w.heap.size := OwnsK.lt h
theorem OwV.keep {S : Nat → Prop} {B : Nat} {w w' : World} {v : Value} {us : List V3} (h : OwV B w v us) (hk : Keep S w w') (hs : ∀ g, v.ownBlock = some g → ¬ S g) : OwV B w' v us := OwnsK.keep h hk hs
theorem OwV.nil (B : Nat) (w : World) : OwV B w (.slice none 0 0) [] := OwnsK.nil _ _ _ _
theorem OwV.mono {B B' : Nat} {w : World} {v : Value} {us : List V3} (h : OwV B w v us) (hB : B' ≤ B) : OwV B' w v us := OwnsK.mono h hB
theorem OwV.form {B : Nat} {w : World} {v : Value} {us : List V3} (h : OwV B w v us) : ∃ ao cap, v = .slice ao us.length cap ∧ us.length ≤ cap ∧ cap ≤ maxLen := by
 obtain ⟨ao, cap, h1, h2, h3, _⟩ := OwnsK.slice h
 exact ⟨ao, cap, h1, h2, h3⟩
theorem same_vals (va vb : Value) (us : List V3) (w : World) (ha : ValI w va us) (hb : ValI w vb us) :
  Calls Tryz.prog 16 #[va, vb] w fun e w' => e = .returned (.bool true) ∧ Below w.heap.size w w' := by
 obtain ⟨ao, ca, rfl, h1, h2, -, h4⟩ := ha
 obtain ⟨bo, cb, rfl, -, -, -, k4⟩ := hb
 unfold maxLen at h2
 exact sameVals_any ao bo _ _ ca cb us us true w rfl rfl h4 k4 (by omega) (Lib.hid (by simp))
def markV (i from' n : Nat) : List V3 := (List.range n).map fun k => ⟨-1000 * (i : Int) - ((from' + k : Nat) : Int) - 1, [], []⟩
theorem markV_len (i f n : Nat) : (markV i f n).length = n := by unfold markV; simp
theorem markV_succ (i f n : Nat) : markV i f (n + 1) = markV i f n ++ [⟨-1000 * (i : Int) - ((f + n : Nat) : Int) - 1, [], []⟩] := by
 unfold markV; rw [List.range_succ, List.map_append]; rfl
theorem markV_add (i f m n : Nat) : markV i f (m + n) = markV i f m ++ markV i (f + m) n := by
 induction n with
 | zero => simp [markV]
 | succ n ih => rw [← Nat.add_assoc, markV_succ, ih, markV_succ, List.append_assoc, Nat.add_assoc]
theorem vcells_app (us vs : List V3) : vcells (us ++ vs) = vcells us ++ vcells vs := by unfold vcells; rw [List.flatMap_append]
set_option maxHeartbeats 1000000 in
theorem markValues_any (i f n : Nat) (w : World) (hi : i ≤ 1000) (hf : f ≤ 10000000) (hn : n ≤ 10000000) :
  Calls Tryz.prog 108 #[.int .i64 (i : Int), .int .i64 (f : Int), .int .i64 (n : Int)] w fun e w' => ∃ r, e = .returned r ∧ OwV w.heap.size w' r (markV i f n) ∧ Below w.heap.size w w' := by
 go_enter Tryz.func108, Tryz.ntmps108
 go_wp2_with fail
 go_loopg [7, 8] n (fun gg ov kv wr => ∃ k : Nat, k + gg = n ∧ kv = .int .i64 ((f : Int) + (k : Int)) ∧ OwnsK 3 w.heap.size 30 wr ov k (vcells (markV i f k)) ∧ Below w.heap.size w wr)
 case atStart => exact ⟨0, by omega, by simp, OwnsK.nil _ _ _ _, Below.refl _ _⟩
 case round =>
  obtain ⟨k, hk, rfl, hO, hbr⟩ := hrel
  have w1 : IntKind.i64.wrap ((f : Int) + (n : Int)) = (f : Int) + (n : Int) := IntWalk.i64_in _ (by omega)
  by_cases hkn : k < n
  ·have hz : (f : Int) + (k : Int) < (f : Int) + (n : Int) := by omega
   have w2 : IntKind.i64.wrap (-1000 * (i : Int)) = -1000 * (i : Int) := IntWalk.i64_in _ (by omega)
   have w3 : IntKind.i64.wrap (-1000 * (i : Int) - ((f : Int) + (k : Int))) = -1000 * (i : Int) - ((f : Int) + (k : Int)) := IntWalk.i64_in _ (by omega)
   have w4 : IntKind.i64.wrap (-1000 * (i : Int) - ((f : Int) + (k : Int)) - 1) = -1000 * (i : Int) - ((f : Int) + (k : Int)) - 1 := IntWalk.i64_in _ (by omega)
   have w5 : IntKind.i64.wrap ((f : Int) + (k : Int) + 1) = (f : Int) + (k : Int) + 1 := IntWalk.i64_in _ (by omega)
   have HM : Hid (vcells (markV i f (k + 1)) = vcells (markV i f k) ++ [.int .i64 (-1000 * (i : Int) - ((f : Int) + (k : Int)) - 1), .string ⟨#[]⟩, .string ⟨#[]⟩]) := Lib.hid (by rw [markV_succ, vcells_snoc, Int.natCast_add])
   go_wp2_with (at_builtin; refine append1KO E_val hO rfl rfl rfl rfl rfl (by simp [Value.oneCell']) (by omega) (by unfold maxLen; omega) hbr.size ?_; intro v6 w6 ho6 hb6 hg6 hn6)
   go_roundg (gk - 1)
   case measure => omega
   case rel => exact ⟨k + 1, by omega, by first | (congr 1; omega) | go_num, by rw [HM.out]; exact ho6, hbr.trans hb6⟩
  ·have hz : ¬ (f : Int) + (k : Int) < (f : Int) + (n : Int) := by omega
   obtain rfl : k = n := by omega
   go_wp2_with fail
   go_ret
   refine ⟨_, rfl, ?_, hbr⟩
   show OwnsK 3 _ _ _ _ (markV i f k).length _
   rw [markV_len]
   exact hO
theorem Vals.src {w : World} {ao : Option Addr} {us : List V3} (h : Vals w ao us) (h0 : 0 < us.length) : ∃ ad, ao = some ad ∧ ∀ (j : Nat) (u : Value), (vcells us)[j]? = some u → w.cell? (ad.add j) = some u := by
 obtain ⟨v, hv⟩ : ∃ v, us[0]? = some v := ⟨_, List.getElem?_eq_getElem h0⟩
 obtain ⟨b, off, rfl, -⟩ := h 0 v hv
 refine ⟨_, rfl, fun j u hj => ?_⟩
 have hjl : j < us.length * 3 := by rw [← vcells_len]; exact (List.getElem?_eq_some_iff.1 hj).1
 obtain ⟨v, hv⟩ : ∃ v, us[j / 3]? = some v := ⟨_, List.getElem?_eq_getElem (by omega)⟩
 obtain ⟨b2, off2, e, c0, c1, c2⟩ := h (j / 3) v hv
 cases e
 obtain ⟨g0, g1, g2⟩ := vcells_get us (j / 3) v hv
 rw [Addr.add_lit]
 have h3 : j % 3 = 0 ∨ j % 3 = 1 ∨ j % 3 = 2 := by omega
 rcases h3 with h | h | h
 ·rw [show j = j / 3 * 3 by omega] at hj ⊢
  rw [g0] at hj; cases hj
  exact c0.cell
 ·rw [show j = j / 3 * 3 + 1 by omega] at hj ⊢
  rw [g1] at hj; cases hj
  have := c1.cell
  rw [Nat.add_assoc] at this
  exact this
 ·rw [show j = j / 3 * 3 + 2 by omega] at hj ⊢
  rw [g2] at hj; cases hj
  have := c2.cell
  rw [Nat.add_assoc] at this
  exact this
theorem ValI.src {w : World} {ao : Option Addr} {n cap : Nat} {us : List V3} (h : ValI w (.slice ao n cap) us) : n = us.length ∧ ((ao = none ∧ n = 0 ∧ cap = 0) ∨ ∃ ad, ao = some ad ∧ ∀ (j : Nat) (u : Value), (vcells us)[j]? = some u → w.cell? (ad.add j) = some u) := by
 obtain ⟨ao1, cap1, e, h2, h3, h4, h5⟩ := h
 cases e
 refine ⟨rfl, ?_⟩
 rcases Nat.eq_zero_or_pos us.length with h0 | h0
 ·cases ao with
  | none => exact .inl ⟨rfl, h0, h4 rfl⟩
  | some ad => exact .inr ⟨ad, rfl, fun j u hj => by
    have hn : us = [] := List.eq_nil_of_length_eq_zero h0
    rw [hn] at hj
    simp [vcells] at hj⟩
 ·exact .inr (h5.src h0)
theorem copyValues_any (v : Value) (us : List V3) (w : World) (h : ValI w v us) (hl : us.length ≤ 1000000) :
  Calls Tryz.prog 41 #[v] w fun e w' => ∃ r, e = .returned r ∧ OwV w.heap.size w' r us ∧ Below w.heap.size w w' := by
 obtain ⟨ao, cap, hv, -⟩ := id h
 subst hv
 have hs := h.src.2
 go_enter Tryz.func41, Tryz.ntmps41
 go_wp2_with (at_builtin; refine appendNil E_val (news := vcells us) hs (vcells_len us) (vcells_one us) (by omega) (by unfold maxLen; omega) rfl rfl rfl rfl ?_; intro v6 w6 ho6 hb6)
 go_ret
 exact ⟨_, rfl, ho6, hb6⟩
set_option maxHeartbeats 2000000 in
theorem stillValues_any (p : Nat) (bi bw : Value) (vs us : List Value) (ls : List (List V3)) (w : World) (h2 : w.cell? ⟨p, 8, none⟩ = some bi) (h3 : w.cell? ⟨p, 9, none⟩ = some bw) (hv : VView w bi vs) (hu : VView w bw us) (hlv : vs.length = ls.length) (hlu : us.length = ls.length)
  (hr : ∀ (i : Nat) (v : Value) (ns : List V3), vs[i]? = some v → ls[i]? = some ns → ValI w v ns) (hs : ∀ (i : Nat) (v : Value) (ns : List V3), us[i]? = some v → ls[i]? = some ns → ValI w v ns) :
  Calls Tryz.prog 46 #[.pointer (some ⟨p, 0, none⟩)] w fun e w' => e = .returned (.bool true) ∧ Below w.heap.size w w' := by
 obtain ⟨ao, ca9, rfl, ha1, ha2, ha3⟩ := hv
 obtain ⟨bo, cb9, rfl, hb1, hb2, hb3⟩ := hu
 have HLV := Lib.hid hlv
 have HLU := Lib.hid hlu
 clear hlv hlu
 have hl2 := World.block_lt_of_cell? w ⟨p, 8, none⟩ h2
 unfold maxLen at ha2 hb2
 have hvm : vs.length ≤ 9223372036854775807 := by omega
 go_enter Tryz.func46, Tryz.ntmps46
 go_wp2_with fail
 go_loopg [3] vs.length (fun gg iv wr => ∃ i : Nat, i + gg = vs.length ∧ iv = .int .i64 (i : Int) ∧ Below w.heap.size w wr)
 case atStart => exact ⟨0, by omega, rfl, Below.refl _ _⟩
 case round =>
  obtain ⟨i, hi, rfl, hbr⟩ := hrel
  have e2 := (hbr.cell (p := ⟨p, 8, none⟩) hl2).trans h2
  by_cases hil : i < vs.length
  ·have hz : (i : Int) < (vs.length : Int) := by omega
   have hz0 : (0 : Int) ≤ (i : Int) := by omega
   have hzu : (i : Int) < (us.length : Int) := by rw [HLU.out, ← HLV.out]; exact hz
   have e3 := (hbr.cell (p := ⟨p, 9, none⟩) hl2).trans h3
   have hiu : i < us.length := by rw [HLU.out, ← HLV.out]; exact hil
   have hils : i < ls.length := by rw [← HLV.out]; exact hil
   obtain ⟨va, hva⟩ : ∃ v, vs[i]? = some v := ⟨_, List.getElem?_eq_getElem hil⟩
   obtain ⟨vb, hvb⟩ : ∃ v, us[i]? = some v := ⟨_, List.getElem?_eq_getElem hiu⟩
   obtain ⟨ns, hns⟩ : ∃ v, ls[i]? = some v := ⟨_, List.getElem?_eq_getElem hils⟩
   have hia := (hr i va ns hva hns).below hbr
   have hib := (hs i vb ns hvb hns).below hbr
   obtain ⟨ga, rfl, la, ca⟩ := ha3 i va hva
   obtain ⟨gb, rfl, lb, cb⟩ := hb3 i vb hvb
   clear hva hvb hns hiu hils
   replace ca := (hbr.cell (p := ⟨ga, i, none⟩) la).trans ca
   replace cb := (hbr.cell (p := ⟨gb, i, none⟩) lb).trans cb
   replace la := Nat.lt_of_lt_of_le la hbr.size
   replace lb := Nat.lt_of_lt_of_le lb hbr.size
   have l2 := Nat.lt_of_lt_of_le hl2 hbr.size
   go_upto_region 4 with fail
   refine wp_region_seq (S := fun w' => w'.cell? ⟨p, 8, none⟩ = some (.slice (some ⟨ga, 0, none⟩) vs.length ca9) ∧ w'.cell? ⟨p, 9, none⟩ = some (.slice (some ⟨gb, 0, none⟩) us.length cb9) ∧ w'.cell? ⟨ga, i, none⟩ = some va ∧ w'.cell? ⟨gb, i, none⟩ = some vb) [(true, 0), (true, 1), (true, 2), (true, 3), (true, 4), (true, 5), (true, 6), (true, 7), (true, 8), (true, 9), (true, 10), (true, 11), (true, 12), (true, 13), (false, 14), (true, 15)] (by kernel_rfl) (by kernel_rfl) (by kernel_rfl) (by kernel_rfl) (by kernel_rfl) (fun d _ _ _ _ h => by cases d <;> exact h) ⟨(by first | exact e2 | simpa using e2), (by first | exact e3 | simpa using e3), (by first | exact ca | simpa using ca), (by first | exact cb | simpa using cb)⟩ (fun _ => ?_)
   simp only [pickOps, List.append_eq, List.cons_append, List.nil_append, List.getElem?_toArray, List.getElem?_cons_succ, List.getElem?_cons_zero]
   have hb : Below wr.heap.size wr wr.drew := (Below.refl _ _).drew
   generalize wr.drew = wd at hb ⊢
   replace e2 := (hb.cell (p := ⟨p, 8, none⟩) l2).trans e2
   replace e3 := (hb.cell (p := ⟨p, 9, none⟩) l2).trans e3
   replace ca := (hb.cell (p := ⟨ga, i, none⟩) la).trans ca
   replace cb := (hb.cell (p := ⟨gb, i, none⟩) lb).trans cb
   replace l2 := Nat.lt_of_lt_of_le l2 hb.size
   replace la := Nat.lt_of_lt_of_le la hb.size
   replace lb := Nat.lt_of_lt_of_le lb hb.size
   replace hia := hia.below hb
   replace hib := hib.below hb
   replace hbr := hbr.trans (hb.mono hbr.size)
   clear hb
   repeat (first | (refine seq_take (v := ?_) (by rfl) ?_ ?_; rotate_left; (· intro w hSw; (try dsimp only at hSw); obtain ⟨e2, e3, ca, cb⟩ := hSw; go_simp; all_goals with_reducible rfl); (try simp only [Act.put, List.setIfInBounds_toArray, List.set_cons_zero, List.set_cons_succ])) | (refine seq_leave (by rfl) ?_; (try simp only [Act.put, List.setIfInBounds_toArray, List.set_cons_zero, List.set_cons_succ])))
   refine seq_step (by rfl) (fun K hK => ?_)
   go_simp
   go_at_call 16
   (with_reducible refine (same_vals va vb ns _ hia hib).mono ?_)
   rintro e9 w3 ⟨rfl, hb⟩
   replace e2 := (hb.cell (p := ⟨p, 8, none⟩) l2).trans e2
   replace e3 := (hb.cell (p := ⟨p, 9, none⟩) l2).trans e3
   replace ca := (hb.cell (p := ⟨ga, i, none⟩) la).trans ca
   replace cb := (hb.cell (p := ⟨gb, i, none⟩) lb).trans cb
   replace l2 := Nat.lt_of_lt_of_le l2 hb.size
   replace la := Nat.lt_of_lt_of_le la hb.size
   replace lb := Nat.lt_of_lt_of_le lb hb.size
   replace hia := hia.below hb
   replace hib := hib.below hb
   replace hbr := hbr.trans (hb.mono hbr.size)
   clear hb
   first | refine hK.out _ _ ⟨(by first | exact e2 | simpa using e2), (by first | exact e3 | simpa using e3), (by first | exact ca | simpa using ca), (by first | exact cb | simpa using cb)⟩ (fun _ => ?_) | (go_wp2_with fail; refine hK.out _ _ ⟨(by first | exact e2 | simpa using e2), (by first | exact e3 | simpa using e3), (by first | exact ca | simpa using ca), (by first | exact cb | simpa using cb)⟩ (fun _ => ?_))
   clear hK K
   (try simp only [Act.put, List.setIfInBounds_toArray, List.set_cons_zero, List.set_cons_succ])
   repeat (first | (refine seq_take (v := ?_) (by rfl) ?_ ?_; rotate_left; (· intro w hSw; (try dsimp only at hSw); obtain ⟨e2, e3, ca, cb⟩ := hSw; go_simp; all_goals with_reducible rfl); (try simp only [Act.put, List.setIfInBounds_toArray, List.set_cons_zero, List.set_cons_succ])) | (refine seq_leave (by rfl) ?_; (try simp only [Act.put, List.setIfInBounds_toArray, List.set_cons_zero, List.set_cons_succ])))
   refine seq_end ?_
   clear e2 e3 ca cb
   go_wp2_with fail
   go_roundg (gk - 1)
   case measure => omega
   case rel => exact ⟨i + 1, by omega, by go_num, hbr⟩
  ·have hz : ¬ (i : Int) < (vs.length : Int) := by omega
   go_wp2_with fail
   go_ret
   exact ⟨rfl, hbr⟩
set_option maxHeartbeats 2000000 in
theorem markedValues_any (gv : Value) (vs : List Value) (ls : List Nat) (w : World) (hv : VView w gv vs) (hlv : vs.length = ls.length) (hm : vs.length ≤ 1000)
  (hr : ∀ (i : Nat) (v : Value) (n : Nat), vs[i]? = some v → ls[i]? = some n → ValI w v (markV i 0 n) ∧ n ≤ 10000000) :
  Calls Tryz.prog 64 #[gv] w fun e w' => e = .returned (.bool true) ∧ Below w.heap.size w w' := by
 obtain ⟨ao, ca9, rfl, ha1, ha2, ha3⟩ := hv
 have HLV := Lib.hid hlv
 clear hlv
 go_enter Tryz.func64, Tryz.ntmps64
 go_wp2_with fail
 go_loopg [3] vs.length (fun gg iv wr => ∃ i : Nat, i + gg = vs.length ∧ iv = .int .i64 (i : Int) ∧ Below w.heap.size w wr)
 case atStart => exact ⟨0, by omega, rfl, Below.refl _ _⟩
 case round =>
  obtain ⟨i, hi, rfl, hbr⟩ := hrel
  by_cases hil : i < vs.length
  ·have hz : (i : Int) < (vs.length : Int) := by omega
   have hz0 : (0 : Int) ≤ (i : Int) := by omega
   have hils : i < ls.length := by rw [← HLV.out]; exact hil
   obtain ⟨va, hva⟩ : ∃ v, vs[i]? = some v := ⟨_, List.getElem?_eq_getElem hil⟩
   obtain ⟨n, hns⟩ : ∃ v, ls[i]? = some v := ⟨_, List.getElem?_eq_getElem hils⟩
   obtain ⟨hia, hn⟩ := hr i va n hva hns
   replace hia := hia.below hbr
   obtain ⟨ga, rfl, la, ca⟩ := ha3 i va hva
   obtain ⟨vo, vc, rfl, hv1, hv2, hv3, hv4⟩ := hia
   have hia : ValI wr (.slice vo (markV i 0 n).length vc) (markV i 0 n) := ⟨_, _, rfl, hv1, hv2, hv3, hv4⟩
   rw [markV_len] at hia hva ca
   have hM := fun W => markValues_any i 0 n W (by omega) (by omega) hn
   have e0 : ((0 : Nat) : Int) = 0 := rfl
   rw [e0] at hM
   clear e0
   clear hva hns hils hv1 hv2 hv3 hv4
   replace ca := (hbr.cell (p := ⟨ga, i, none⟩) la).trans ca
   replace la := Nat.lt_of_lt_of_le la hbr.size
   go_upto_region 4 with fail
   refine wp_region_seq (S := fun w' => w'.cell? ⟨ga, i, none⟩ = some (.slice vo n vc)) [(true, 0), (true, 1), (true, 2), (true, 3), (true, 4), (true, 5), (true, 6), (true, 7), (true, 8), (true, 9), (false, 10), (false, 11), (true, 12)] (by kernel_rfl) (by kernel_rfl) (by kernel_rfl) (by kernel_rfl) (by kernel_rfl) (fun d _ _ _ _ h => by cases d <;> exact h) (by first | exact ca | simpa using ca) (fun _ => ?_)
   simp only [pickOps, List.append_eq, List.cons_append, List.nil_append, List.getElem?_toArray, List.getElem?_cons_succ, List.getElem?_cons_zero]
   have hb : Below wr.heap.size wr wr.drew := (Below.refl _ _).drew
   generalize wr.drew = wd at hb ⊢
   replace ca := (hb.cell (p := ⟨ga, i, none⟩) la).trans ca
   replace la := Nat.lt_of_lt_of_le la hb.size
   replace hia := hia.below hb
   replace hbr := hbr.trans (hb.mono hbr.size)
   clear hb
   repeat (first | (refine seq_take (v := ?_) (by rfl) ?_ ?_; rotate_left; (· intro w hSw; (try dsimp only at hSw); have ca := hSw; go_simp; all_goals with_reducible rfl); (try simp only [Act.put, List.setIfInBounds_toArray, List.set_cons_zero, List.set_cons_succ])) | (refine seq_leave (by rfl) ?_; (try simp only [Act.put, List.setIfInBounds_toArray, List.set_cons_zero, List.set_cons_succ])))
   refine seq_step (by rfl) (fun K hK => ?_)
   go_simp
   go_at_call 108
   (with_reducible refine (hM _).mono ?_)
   rintro e9 w3 ⟨r9, rfl, hO9, hb⟩
   have hI9 := hO9.val
   clear hO9
   replace ca := (hb.cell (p := ⟨ga, i, none⟩) la).trans ca
   replace la := Nat.lt_of_lt_of_le la hb.size
   replace hia := hia.below hb
   replace hbr := hbr.trans (hb.mono hbr.size)
   clear hb
   first | refine hK.out _ _ (by first | exact ca | simpa using ca) (fun _ => ?_) | (go_wp2_with fail; refine hK.out _ _ (by first | exact ca | simpa using ca) (fun _ => ?_))
   clear hK K
   (try simp only [Act.put, List.setIfInBounds_toArray, List.set_cons_zero, List.set_cons_succ])
   repeat (first | (refine seq_take (v := ?_) (by rfl) ?_ ?_; rotate_left; (· intro w hSw; (try dsimp only at hSw); have ca := hSw; go_simp; all_goals with_reducible rfl); (try simp only [Act.put, List.setIfInBounds_toArray, List.set_cons_zero, List.set_cons_succ])) | (refine seq_leave (by rfl) ?_; (try simp only [Act.put, List.setIfInBounds_toArray, List.set_cons_zero, List.set_cons_succ])))
   refine seq_step (by rfl) (fun K hK => ?_)
   go_simp
   go_at_call 16
   (with_reducible refine (same_vals _ _ (markV i 0 n) _ hia hI9).mono ?_)
   rintro e9 w4 ⟨rfl, hb⟩
   clear hI9
   replace ca := (hb.cell (p := ⟨ga, i, none⟩) la).trans ca
   replace la := Nat.lt_of_lt_of_le la hb.size
   replace hia := hia.below hb
   replace hbr := hbr.trans (hb.mono hbr.size)
   clear hb
   first | refine hK.out _ _ (by first | exact ca | simpa using ca) (fun _ => ?_) | (go_wp2_with fail; refine hK.out _ _ (by first | exact ca | simpa using ca) (fun _ => ?_))
   clear hK K
   (try simp only [Act.put, List.setIfInBounds_toArray, List.set_cons_zero, List.set_cons_succ])
   repeat (first | (refine seq_take (v := ?_) (by rfl) ?_ ?_; rotate_left; (· intro w hSw; (try dsimp only at hSw); have ca := hSw; go_simp; all_goals with_reducible rfl); (try simp only [Act.put, List.setIfInBounds_toArray, List.set_cons_zero, List.set_cons_succ])) | (refine seq_leave (by rfl) ?_; (try simp only [Act.put, List.setIfInBounds_toArray, List.set_cons_zero, List.set_cons_succ])))
   refine seq_end ?_
   clear ca
   go_wp2_with fail
   go_roundg (gk - 1)
   case measure => omega
   case rel => exact ⟨i + 1, by omega, by go_num, hbr⟩
  ·have hz : ¬ (i : Int) < (vs.length : Int) := by omega
   go_wp2_with fail
   go_ret
   exact ⟨rfl, hbr⟩
end Go.Proofs.YtcpfanpcdkoiaaaGreatDoor

namespace Go.Proofs.YtcpfanpcdkoiaaaGreatDoor
open Go.RowKit Go.Shelf


theorem half_setG {α : Type} {xs ys : List α} {k : Nat} {y : α} (hl : xs.length = ys.length) (hy : ys[k]? = some y) : (ys.take k ++ xs.drop k).set k y = ys.take (k + 1) ++ xs.drop (k + 1) := by
 have hk := (List.getElem?_eq_some_iff.1 hy).1
 have h1 : (ys.take k).length = k := by rw [List.length_take]; omega
 rw [List.set_append_right _ _ (by omega), h1, Nat.sub_self, List.drop_eq_getElem_cons (show k < xs.length by omega), List.set_cons_zero, List.take_add_one, hy]
 simp
theorem vcells_cons (u : V3) (us : List V3) : vcells (u :: us) = .int .i64 u.k :: .string ⟨u.n.toArray⟩ :: .string ⟨u.c.toArray⟩ :: vcells us := rfl
theorem vcells_set (x : V3) : ∀ (us : List V3) (i : Nat), i < us.length → (((vcells us).set (i * 3) (.int .i64 x.k)).set (i * 3 + 1) (.string ⟨x.n.toArray⟩)).set (i * 3 + 2) (.string ⟨x.c.toArray⟩) = vcells (us.set i x)
 | [], i, h => absurd h (Nat.not_lt_zero _)
 | u :: us, 0, h => rfl
 | u :: us, i + 1, h => by
  have ih := vcells_set x us i (by simpa using h)
  rw [vcells_cons, List.set_cons_succ, vcells_cons, ← ih, Nat.succ_mul]
  rfl
theorem OwnsK.storedV {K base : Nat} {e : TypeId} {w : World} {g n cap : Nat} {xs : List Value} (h : OwnsK K base e w (.slice (some ⟨g, 0, none⟩) n cap) n xs) (j : Nat) (u : Value) : OwnsK K base e (w.setCell ⟨g, j, none⟩ u) (.slice (some ⟨g, 0, none⟩) n cap) n (xs.set j u) :=
 (World.ownsRow.stored h j u).1
theorem OwV.put {B : Nat} {w : World} {g cap k : Nat} {xs ys : List V3} {y : V3} (h : OwV B w (.slice (some ⟨g, 0, none⟩) xs.length cap) (ys.take k ++ xs.drop k)) (hl : xs.length = ys.length) (hy : ys[k]? = some y) :
  OwV B (((w.setCell ⟨g, k * 3, none⟩ (.int .i64 y.k)).setCell ⟨g, k * 3 + 1, none⟩ (.string ⟨y.n.toArray⟩)).setCell ⟨g, k * 3 + 2, none⟩ (.string ⟨y.c.toArray⟩)) (.slice (some ⟨g, 0, none⟩) xs.length cap) (ys.take (k + 1) ++ xs.drop (k + 1)) := by
 have hk := (List.getElem?_eq_some_iff.1 hy).1
 have l0 : (ys.take k ++ xs.drop k).length = xs.length := by rw [List.length_append, List.length_take, List.length_drop]; omega
 have l1 : (ys.take (k + 1) ++ xs.drop (k + 1)).length = xs.length := by rw [List.length_append, List.length_take, List.length_drop]; omega
 unfold OwV at h ⊢
 rw [l0] at h
 rw [l1, ← half_setG hl hy, ← vcells_set y _ k (by rw [l0]; omega)]
 exact ((h.storedV _ _).storedV _ _).storedV _ _
theorem OwV.cells {B : Nat} {w : World} {g n cap k : Nat} {us : List V3} {u : V3} (h : OwV B w (.slice (some ⟨g, 0, none⟩) n cap) us) (hu : us[k]? = some u) : w.cell? ⟨g, k * 3, none⟩ = some (.int .i64 u.k) ∧ w.cell? ⟨g, k * 3 + 1, none⟩ = some (.string ⟨u.n.toArray⟩) ∧ w.cell? ⟨g, k * 3 + 2, none⟩ = some (.string ⟨u.c.toArray⟩) := by
 obtain ⟨ao, cap1, e, -, -, -, hv⟩ := h.val
 cases e
 obtain ⟨b, off, e2, c0, c1, c2⟩ := hv k u hu
 cases e2
 have h0 := c0.cell
 have h1 := c1.cell
 have h2 := c2.cell
 rw [Nat.zero_add] at h0 h1 h2
 exact ⟨h0, h1, h2⟩
theorem OwV.free {B : Nat} {w : World} {g n cap : Nat} {us : List V3} (h : OwV B w (.slice (some ⟨g, 0, none⟩) n cap) us) (j : Nat) : w.frozen? ⟨g, j, none⟩ = false := by
 rcases OwnsK.shape h with ⟨h0, _⟩ | ⟨g', cap', e0, _, _, _, _, _, k6⟩
 ·cases h0
 ·injection e0 with e0 _ _; injection e0 with e0; injection e0 with e0; subst e0; exact k6 j
theorem OwV.addr {B : Nat} {w : World} {ao : Option Addr} {n cap : Nat} {us : List V3} (h : OwV B w (.slice ao n cap) us) (h0 : 0 < us.length) : ∃ g, ao = some ⟨g, 0, none⟩ := by
 rcases OwnsK.shape h with ⟨_, h1⟩ | ⟨g', cap', e0, _⟩
 ·omega
 ·injection e0 with e0 _ _; exact ⟨g', e0⟩
set_option maxHeartbeats 4000000 in
theorem putValues_any (B p : Nat) (bi : Value) (vs : List Value) (ls : List (List V3)) (w : World) (h2 : w.cell? ⟨p, 8, none⟩ = some bi) (hv : VView w bi vs) (hlv : vs.length = ls.length) (hm : vs.length ≤ 1000) (hB : B ≤ w.heap.size)
  (hr : ∀ (i : Nat) (v : Value) (ns : List V3), vs[i]? = some v → ls[i]? = some ns → OwV B w v ns ∧ ns.length ≤ 1000000)
  (hap : ∀ (i j : Nat) (v u : Value) (g : Nat), vs[i]? = some v → vs[j]? = some u → v.ownBlock = some g → u.ownBlock = some g → i = j)
  (hp : ¬ OfL vs p) (hbS : ∀ g, bi.ownBlock = some g → ¬ OfL vs g) :
  Calls Tryz.prog 53 #[.pointer (some ⟨p, 0, none⟩)] w fun e w' => e = .returned (.tuple #[]) ∧ (∀ (i : Nat) (v : Value) (ns : List V3), vs[i]? = some v → ls[i]? = some ns → OwV B w' v (markV i 0 ns.length)) ∧ Keep (OfL vs) w w' := by
 obtain ⟨ao, cb9, rfl, hb1, hb2, hb3⟩ := hv
 have HLV := Lib.hid hlv
 clear hlv
 unfold maxLen at hb2
 go_enter Tryz.func53, Tryz.ntmps53
 go_wp2_with fail
 go_loopg [2] vs.length (fun gg iv wr => ∃ i : Nat, i + gg = vs.length ∧ iv = .int .i64 (i : Int) ∧ Keep (OfL vs) w wr ∧ Hid (∀ (j : Nat) (v : Value) (ns : List V3), vs[j]? = some v → ls[j]? = some ns → OwV B wr v (if j < i then markV j 0 ns.length else ns)))
 case atStart => exact ⟨0, by omega, rfl, Keep.refl _ _, Lib.hid (fun j v ns h1 h2 => by rw [if_neg (by omega)]; exact (hr j v ns h1 h2).1)⟩
 case round =>
  obtain ⟨i, hi, rfl, hKs, hR0⟩ := hrel
  have e2 := hKs.cell hp h2
  by_cases hil : i < vs.length
  ·have hz : (i : Int) < (vs.length : Int) := by omega
   have hz0 : (0 : Int) ≤ (i : Int) := by omega
   have hils : i < ls.length := by rw [← HLV.out]; exact hil
   obtain ⟨va, hva⟩ : ∃ v, vs[i]? = some v := ⟨_, List.getElem?_eq_getElem hil⟩
   obtain ⟨ns, hns⟩ : ∃ v, ls[i]? = some v := ⟨_, List.getElem?_eq_getElem hils⟩
   have hnl := (hr i va ns hva hns).2
   have hOv := hR0.out i va ns hva hns
   rw [if_neg (by omega)] at hOv
   obtain ⟨gb, rfl, lb0, cb0⟩ := hb3 i va hva
   have cv := hKs.cell (hbS gb rfl) cb0
   obtain ⟨vo, cv9, rfl, hv1, hv2⟩ := hOv.form
   clear lb0
   have HVA := Lib.hid hva
   have HNS := Lib.hid hns
   clear hva hns
   have hM := fun W => markValues_any i 0 ns.length W (by omega) (by omega) (by omega)
   have e0 : ((0 : Nat) : Int) = 0 := rfl
   rw [e0] at hM
   clear e0
   have lw := World.block_lt_of_cell? wr ⟨p, 8, none⟩ e2
   have lb := World.block_lt_of_cell? wr ⟨gb, i, none⟩ cv
   have Hlt := Lib.hid hOv.lt
   go_upto_region 4 with (go_at_call 108; (with_reducible refine (hM _).mono ?_); rintro e9 w1 ⟨r9, rfl, hOm, hb⟩)
   replace e2 := (hb.cell (p := ⟨p, 8, none⟩) lw).trans e2
   replace cv := (hb.cell (p := ⟨gb, i, none⟩) lb).trans cv
   replace hKs := hKs.then_below hb
   replace hOv := hOv.kept hb
   have hR1 := Lib.hid (fun j v ns9 h1 h2 => (hR0.out j v ns9 h1 h2).kept hb)
   obtain ⟨mo, mc, rfl, hm1, hm2⟩ := hOm.form
   rw [markV_len] at hOm ⊢
   obtain ⟨WB, hWB⟩ : ∃ n, wr.heap.size = n := ⟨_, rfl⟩
   rw [hWB] at hOm
   have Hmf := Lib.hid hOm.lt
   rw [hWB] at Hlt
   clear hWB
   clear hb hM hR0 lw lb hm1
   obtain ⟨go1, hgo⟩ : ∃ go, go = gk := ⟨_, rfl⟩
   subst hgo
   obtain ⟨w2, hw2⟩ : ∃ x, x = w1 := ⟨_, rfl⟩
   subst hw2
   have hRo : Hid (∀ (j : Nat) (v : Value) (ns9 : List V3), vs[j]? = some v → ls[j]? = some ns9 → j ≠ i → OwV B w2 v (if j < i then markV j 0 ns9.length else ns9)) := Lib.hid (fun j v ns9 h1 h2 _ => hR1.out j v ns9 h1 h2)
   clear hR1 e2 cv
   go_wp2_with fail
   go_loopg [4] ns.length (fun gg kv wr => ∃ k : Nat, k + gg = ns.length ∧ kv = .int .i64 (k : Int) ∧ Keep (OfL vs) w wr ∧ OwV WB wr (.slice mo ns.length mc) (markV i 0 ns.length) ∧ OwV B wr (.slice vo ns.length cv9) ((markV i 0 ns.length).take k ++ ns.drop k) ∧ Hid (∀ (j : Nat) (v : Value) (ns9 : List V3), vs[j]? = some v → ls[j]? = some ns9 → j ≠ i → OwV B wr v (if j < i then markV j 0 ns9.length else ns9)))
   case atStart => exact ⟨0, by omega, rfl, hKs, hOm, by simpa using hOv, hRo⟩
   case round =>
    clear hKs hOm hOv hRo
    obtain ⟨k, hk, rfl, hKs, hOm, hOv, hR⟩ := hrel
    by_cases hkl : k < ns.length
    ·have hkz : (k : Int) < (ns.length : Int) := by omega
     have hkz0 : (0 : Int) ≤ (k : Int) := by omega
     have hlv9 : ((markV i 0 ns.length).take k ++ ns.drop k).length = ns.length := by rw [List.length_append, List.length_take, List.length_drop, markV_len]; omega
     obtain ⟨g, rfl⟩ := hOv.addr (by rw [hlv9]; omega)
     obtain ⟨gm, rfl⟩ := hOm.addr (by rw [markV_len]; omega)
     have hSg : OfL vs g := ⟨i, _, HVA.out, rfl⟩
     have hpg : p ≠ g := fun h => hp (h ▸ hSg)
     have hbg : gb ≠ g := fun h => hbS gb rfl (h ▸ hSg)
     have hmg : gm ≠ g := by
      have h1 := (Hmf.out gm rfl).1
      have h2 := (Hlt.out g rfl).2
      omega
     obtain ⟨xk, hxk⟩ : ∃ x, ((markV i 0 ns.length).take k ++ ns.drop k)[k]? = some x := ⟨_, List.getElem?_eq_getElem (by rw [hlv9]; exact hkl)⟩
     obtain ⟨mk, hmk⟩ : ∃ x, (markV i 0 ns.length)[k]? = some x := ⟨_, List.getElem?_eq_getElem (by rw [markV_len]; exact hkl)⟩
     obtain ⟨cm0, cm1, cm2⟩ := hOm.cells hmk
     have HXK := Lib.hid hxk
     have HMK := Lib.hid hmk
     clear hxk hmk hlv9
     obtain ⟨mkk, mkn, mkc⟩ := mk
     dsimp only at cm0 cm1 cm2
     have e2 := hKs.cell hp h2
     have cv := hKs.cell (hbS gb rfl) cb0
     have l2 := World.block_lt_of_cell? wr ⟨p, 8, none⟩ e2
     have lb := World.block_lt_of_cell? wr ⟨gb, i, none⟩ cv
     have lm := World.block_lt_of_cell? wr ⟨gm, k * 3, none⟩ cm0
     go_upto_region 7 with fail
     refine wp_region_seq (S := fun w' => w'.cell? ⟨p, 8, none⟩ = some (.slice (some ⟨gb, 0, none⟩) vs.length cb9) ∧ w'.cell? ⟨gb, i, none⟩ = some (.slice (some ⟨g, 0, none⟩) ns.length cv9) ∧ w'.cell? ⟨gm, k * 3, none⟩ = some (.int .i64 mkk) ∧ w'.cell? ⟨gm, k * 3 + 1, none⟩ = some (.string ⟨mkn.toArray⟩) ∧ w'.cell? ⟨gm, k * 3 + 2, none⟩ = some (.string ⟨mkc.toArray⟩)) [(true, 0), (true, 1), (true, 2), (true, 3), (true, 4), (true, 5), (true, 6), (true, 7), (true, 8), (true, 9), (true, 10), (true, 11), (true, 12), (false, 13)] (by kernel_rfl) (by kernel_rfl) (by kernel_rfl) (by kernel_rfl) (by kernel_rfl) (fun d _ _ _ _ h => by cases d <;> exact h) ⟨e2, cv, cm0, cm1, cm2⟩ (fun _ => ?_)
     simp only [pickOps, List.append_eq, List.cons_append, List.nil_append, List.getElem?_toArray, List.getElem?_cons_succ, List.getElem?_cons_zero]
     have hb : Below wr.heap.size wr wr.drew := (Below.refl _ _).drew
     generalize wr.drew = wd at hb ⊢
     replace hKs := hKs.then_below hb
     replace hOv := hOv.kept hb
     replace hOm := hOm.kept hb
     replace hR := Lib.hid (fun j v ns9 h1 h2 hne => (hR.out j v ns9 h1 h2 hne).kept hb)
     replace e2 := (hb.cell (p := ⟨p, 8, none⟩) l2).trans e2
     replace cv := (hb.cell (p := ⟨gb, i, none⟩) lb).trans cv
     replace cm0 := (hb.cell (p := ⟨gm, k * 3, none⟩) lm).trans cm0
     replace cm1 := (hb.cell (p := ⟨gm, k * 3 + 1, none⟩) lm).trans cm1
     replace cm2 := (hb.cell (p := ⟨gm, k * 3 + 2, none⟩) lm).trans cm2
     clear hb l2 lb lm
     repeat (first | (refine seq_take (v := ?_) (by rfl) ?_ ?_; rotate_left; (· intro w hSw; (try dsimp only at hSw); obtain ⟨e2, cv, cm0, cm1, cm2⟩ := hSw; go_simp; all_goals with_reducible rfl); (try simp only [Act.put, List.setIfInBounds_toArray, List.set_cons_zero, List.set_cons_succ])) | (refine seq_leave (by rfl) ?_; (try simp only [Act.put, List.setIfInBounds_toArray, List.set_cons_zero, List.set_cons_succ])))
     refine seq_step (by rfl) (fun K hK => ?_)
     have fg0 := hOv.free (k * 3)
     have fg1 := hOv.free (k * 3 + 1)
     have fg2 := hOv.free (k * 3 + 2)
     obtain ⟨cg0, cg1, cg2⟩ := hOv.cells HXK.out
     go_simp
     obtain ⟨wz, hwz⟩ : ∃ X, X = (((wd.setCell ⟨g, k * 3, none⟩ (.int .i64 mkk)).setCell ⟨g, k * 3 + 1, none⟩ (.string ⟨mkn.toArray⟩)).setCell ⟨g, k * 3 + 2, none⟩ (.string ⟨mkc.toArray⟩)) := ⟨_, rfl⟩
     rw [← hwz]
     have hKz : Keep (fun x => x = g) wd wz := by rw [hwz]; exact ((((Keep.refl (fun x => x = g) wd).set g _ _ (.inl rfl)).set g _ _ (.inl rfl)).set g _ _ (.inl rfl))
     have e2z : wz.cell? ⟨p, 8, none⟩ = some (.slice (some ⟨gb, 0, none⟩) vs.length cb9) := hKz.cell hpg e2
     have cvz : wz.cell? ⟨gb, i, none⟩ = some (.slice (some ⟨g, 0, none⟩) ns.length cv9) := hKz.cell hbg cv
     have cmz0 := hKz.cell hmg cm0
     have cmz1 := hKz.cell hmg cm1
     have cmz2 := hKz.cell hmg cm2
     refine hK.out _ _ ⟨e2z, cvz, cmz0, cmz1, cmz2⟩ (fun _ => ?_)
     clear hK K
     (try simp only [Act.put, List.setIfInBounds_toArray, List.set_cons_zero, List.set_cons_succ])
     refine seq_end ?_
     have hO1 : OwV B wz (.slice (some ⟨g, 0, none⟩) ns.length cv9) ((markV i 0 ns.length).take (k + 1) ++ ns.drop (k + 1)) := by rw [hwz]; exact OwV.put (xs := ns) (ys := markV i 0 ns.length) (y := ⟨mkk, mkn, mkc⟩) hOv (by rw [markV_len]) HMK.out
     have hO2 : OwV WB wz (.slice (some ⟨gm, 0, none⟩) ns.length mc) (markV i 0 ns.length) := hOm.keep hKz (fun b hb h9 => by simp [Value.ownBlock] at hb; omega)
     have hK2 : Keep (OfL vs) w wz := hKs.trans hKz (fun x _ h9 => by rw [h9]; exact hSg)
     have hR2 : Hid (∀ (j : Nat) (v : Value) (ns9 : List V3), vs[j]? = some v → ls[j]? = some ns9 → j ≠ i → OwV B wz v (if j < i then markV j 0 ns9.length else ns9)) := Lib.hid (fun j v ns9 h1 h2 hne => (hR.out j v ns9 h1 h2 hne).keep hKz (fun b hb h9 => hne (hap j i v _ b h1 HVA.out hb (by rw [h9]; rfl))))
     clear hOv hOm hKs hR e2 cv cm0 cm1 cm2 e2z cvz cmz0 cmz1 cmz2 fg0 fg1 fg2 cg0 cg1 cg2 hwz hKz
     go_wp2_with fail
     go_roundg (gk - 1)
     case measure => omega
     case rel => exact ⟨k + 1, by omega, by go_num, hK2, hO2, hO1, hR2⟩
    ·obtain rfl : k = ns.length := by omega
     have hkz : ¬ (ns.length : Int) < (ns.length : Int) := by omega
     rw [List.take_of_length_le (by rw [markV_len]; exact Nat.le_refl _), List.drop_of_length_le (Nat.le_refl _), List.append_nil] at hOv
     have hR3 : Hid (∀ (j : Nat) (v : Value) (ns9 : List V3), vs[j]? = some v → ls[j]? = some ns9 → OwV B wr v (if j < i + 1 then markV j 0 ns9.length else ns9)) := Lib.hid (fun j v ns9 h1 h2 => by
      by_cases e : j = i
      ·subst e
       have a1 := HVA.out.symm.trans h1
       have a2 := HNS.out.symm.trans h2
       injection a1 with a1
       injection a2 with a2
       subst a1 a2
       rw [if_pos (by omega)]; exact hOv
      ·have h9 := hR.out j v ns9 h1 h2 e
       by_cases hlt : j < i
       ·rw [if_pos hlt] at h9; rw [if_pos (by omega)]; exact h9
       ·rw [if_neg hlt] at h9; rw [if_neg (by omega)]; exact h9)
     clear hR hOv hOm
     go_wp2_with fail
     go_roundg (go1 - 1)
     case measure => omega
     case rel => exact ⟨i + 1, by omega, by go_num, hKs, hR3⟩
  ·have hz : ¬ (i : Int) < (vs.length : Int) := by omega
   go_wp2_with fail
   go_end0
   refine ⟨rfl, fun j v ns h1 h2 => ?_, hKs⟩
   have h9 := hR0.out j v ns h1 h2
   rwa [if_pos (by have := (List.getElem?_eq_some_iff.1 h1).1; omega)] at h9
end Go.Proofs.YtcpfanpcdkoiaaaGreatDoor
