/-
  Pk02: NatN1 BitsN (what is needed of them).
-/
import Derived.Test.YtcpfanpcdkoiaaaGreatPk00
import Derived.Test.YtcpfanpcdkoiaaaGreatPk01
import Derived.BigRegion
import Derived.Deep.LoopGhost
import Derived.Shelf.Small.Bits
import Derived.Test.YtcpfanpcdkoiaaaGreatProg
set_option maxRecDepth 100000
set_option linter.unusedVariables false
set_option linter.unusedSimpArgs false

namespace Go.Proofs.YtcpfanpcdkoiaaaGreat


open Go.RowKit
theorem trim_any (ao : Option Addr) (cap : Nat) (xs : List Nat) (w : World) (hc : Cells .u32 w ao xs) (hcap : xs.length ≤ cap) (hm : cap ≤ maxLen) (hx : ∀ x ∈ xs, x < 4294967296) :
  Calls Tryz.prog 197 #[.slice ao xs.length cap] w fun e w' =>
   e = .returned (.agg #[.slice ao (limbs (val xs)).length (limbs (val xs)).length]) ∧ Below w.heap.size w w' := by
 unfold maxLen at hm
 go_enter Tryz.func197, Tryz.ntmps197
 go_wp2
 go_loop [3] (fun n => ∃ k : Nat, k ≤ xs.length ∧ n = .int .i64 k ∧ (∀ i, k ≤ i → i < xs.length → xs[i]? = some 0)) (fun n => (intOf n).toNat)
 case atStart => exact ⟨xs.length, Nat.le_refl _, rfl, fun i h1 h2 => by omega⟩
 case round =>
  obtain ⟨k, hk, rfl, hz⟩ := hrel
  have HZ := Lib.hid hz; clear hz
  rcases Nat.eq_zero_or_pos k with rfl | hk0
  ·go_wp2
   have e := limbs_take xs 0 (by omega) hx HZ.out (.inl rfl)
   refine bodyPost_ret (v := .agg #[.slice ao 0 0]) (by simp [results, Tryz.results197, go_sem]) rfl ⟨?_, (Below.refl _ _).alloc (Nat.le_refl _) _⟩
   rw [e]; simp
  ·obtain ⟨j, rfl⟩ : ∃ j, k = j + 1 := ⟨k - 1, by omega⟩
   rcases hc with rfl | ⟨b, off, rfl, hb, hcell⟩
   ·simp at hk
   have hj := hcell j (by omega)
   clear hcell
   by_cases h0 : xs[j]?.getD 0 = 0
   ·rw [h0] at hj
    go_wp2
    go_round
    case rel =>
     refine ⟨j, by omega, by go_num, fun i h1 h2 => ?_⟩
     by_cases e : i = j
     ·subst e; rw [List.getElem?_eq_getElem h2] at h0 ⊢; simpa using h0
     ·exact HZ.out i (by omega) h2
    case measure => simp [intOf]
   ·go_wp2
    have e := limbs_take xs (j + 1) hk hx HZ.out (.inr (by intro h; rw [Nat.add_sub_cancel] at h; rw [h] at h0; exact h0 rfl))
    have e2 : (limbs (val xs)).length = j + 1 := by rw [e, List.length_take]; omega
    refine bodyPost_ret (v := .agg #[.slice (some ⟨b, off, none⟩) (j + 1) (j + 1)]) (by simp [results, Tryz.results197, go_sem]) rfl ⟨?_, (Below.refl _ _).alloc (Nat.le_refl _) _⟩
    rw [e2]
theorem trim_nat {w' : World} {ao : Option Addr} {cap : Nat} {xs : List Nat} (hc : Cells .u32 w' ao xs) (hcap : xs.length ≤ cap) (hx : ∀ x ∈ xs, x < 4294967296) (hm : cap ≤ maxLen) :
  NatIs w' (.agg #[.slice ao (limbs (val xs)).length (limbs (val xs)).length]) (val xs) := by
 refine ⟨_, rfl, ao, _, rfl, Nat.le_refl _, Nat.le_trans (val_limbs_length_le xs hx) (Nat.le_trans hcap hm), ?_, ?_⟩
 ·rintro rfl
  rcases hc with rfl | ⟨b, off, h, _⟩
  ·exact congrArg List.length limbs_zero
  ·cases h
 ·obtain ⟨k, hk, e⟩ := limbs_prefix xs hx
  rw [e]
  exact hc.take k
end Go.Proofs.YtcpfanpcdkoiaaaGreat
namespace Go.Proofs.YtcpfanpcdkoiaaaGreat
open Go.RowKit


theorem Tryz.info211 : (Tryz.prog.info? 211).map (fun i => (i.zero, i.size, i.bytes)) = some (some (.int .u32 0), 1, 4) := by kernel_rfl
theorem E32 : Elem Tryz.prog 178 211 (.int .u32 0) 4 := elem_of Tryz.underlying178 Tryz.info211 rfl
theorem NatIs.open {w : World} {v : Value} {n : Nat} (h : NatIs w v n) : ∃ ao cap, v = .agg #[.slice ao (limbs n).length cap] ∧ (limbs n).length ≤ cap ∧ cap ≤ 9223372036854775807 ∧ (ao = none → cap = 0) ∧ Cells .u32 w ao (limbs n) := by
 obtain ⟨sv, rfl, ao, cap, rfl, h1, h2, h3, h4⟩ := h
 exact ⟨ao, cap, rfl, h1, h2, h3, h4⟩
theorem NatIs.zero (w : World) : NatIs w (.agg #[.slice none 0 0]) 0 :=
 ⟨_, rfl, none, 0, by rw [limbs_zero]; rfl, by rw [limbs_zero]; simp, Nat.zero_le _, fun _ => rfl, .inl limbs_zero⟩
theorem zero_any (v : Value) (n : Nat) (w : World) (h : NatIs w v n) :
  Calls Tryz.prog 196 #[v] w fun e w' => e = .returned (.bool (decide (n = 0))) ∧ Below w.heap.size w w' := by
 obtain ⟨ao, cap, rfl, h1, h2, h3, h4⟩ := h.open
 have e : ((((limbs n).length : Nat) : Int) == 0) = decide (n = 0) := by
  rw [Bool.eq_iff_iff]; simp [limbs_eq_nil]
 have HE := Lib.hid e; clear e
 clear h3 h4
 go_enter Tryz.func196, Tryz.ntmps196
 go_wp2
 go_ret
 exact ⟨congrArg (fun b => Ending.returned (.bool b)) HE.out, (Below.refl _ _).alloc (Nat.le_refl _) _⟩
theorem at_any (v : Value) (n : Nat) (i : Nat) (w : World) (h : NatIs w v n) (hi : i ≤ 9223372036854775807) :
  Calls Tryz.prog 205 #[v, .int .i64 i] w fun e w' => e = .returned (.int .u32 (((limbs n)[i]?.getD 0 : Nat) : Int)) ∧ Below w.heap.size w w' := by
 obtain ⟨ao, cap, rfl, h1, h2, h3, h4⟩ := h.open
 clear h3
 by_cases hlt : i < (limbs n).length
 ·rcases h4 with h4 | ⟨b, off, rfl, hb, hc⟩
  ·rw [h4] at hlt; simp at hlt
  have hi := hc i hlt
  have hi2 : (w.alloc (.cells #[.slice (some ⟨b, off, none⟩) (limbs n).length cap] 180)).cell? ⟨b, off + i, none⟩ = some (.int .u32 (((limbs n)[i]?.getD 0 : Nat) : Int)) := (World.cell?_alloc_past _ _ _ hb).trans hi
  clear hc hi
  generalize (limbs n)[i]?.getD 0 = x at *
  go_enter Tryz.func205, Tryz.ntmps205
  go_wp2
  go_ret
  exact ⟨rfl, (Below.refl _ _).alloc (Nat.le_refl _) _⟩
 ·have e : (limbs n)[i]?.getD 0 = 0 := by rw [List.getElem?_eq_none (by omega)]; rfl
  rw [e]
  clear h4 e
  go_enter Tryz.func205, Tryz.ntmps205
  go_wp2
  go_ret
  exact ⟨rfl, (Below.refl _ _).alloc (Nat.le_refl _) _⟩
theorem field_nat (w : World) (x : Value) : (Instr.field 180 (.agg #[x]) 0).run Tryz.prog w = .ok x w := by kernel_rfl
theorem load_nat {w : World} {p : Addr} {v : Value} (h : w.cell? p = some v) : (loadVar 180 p).run Tryz.prog w = .ok (.agg #[v]) w := by
 simp [go_sem, h]
theorem ret_nat {fn : Func} {s : Nat} {R : Ending → World → Prop} {a : Act} {w : World} {p : Addr} {v : Value} (hres : fn.results = #[.cell s 180]) (hp : a.tmps.getD s undef = .pointer (some p)) (hc : w.cell? p = some v) (hd : a.defers = []) (hR : R (.returned (.agg #[v])) w) : bodyPost Tryz.prog fn R .ret a w := by
 refine bodyPost_ret (v := .agg #[v]) ?_ hd hR
 have hp' : a.tmps[s]?.getD undef = .pointer (some p) := by simpa using hp
 simp only [results, hres]
 simp [Sem.run_bind, Sem.run_pure, Result.andThen, hp', asAddr, load_nat hc]
theorem ret_pair {r u u' : Value} (h : u = u') : Ending.returned (.tuple #[r, u]) = .returned (.tuple #[r, u']) := by rw [h]
theorem ret_nat_tmp {fn : Func} {s t : Nat} {R : Ending → World → Prop} {a : Act} {w : World} {p : Addr} {v u : Value} (hres : fn.results = #[.cell s 180, .tmp t]) (hp : a.tmps.getD s undef = .pointer (some p)) (hu : a.tmps.getD t undef = u) (hc : w.cell? p = some v) (hd : a.defers = []) (hR : R (.returned (.tuple #[.agg #[v], u])) w) : bodyPost Tryz.prog fn R .ret a w := by
 refine bodyPost_ret (v := .tuple #[.agg #[v], u]) ?_ hd hR
 rw [results_cell_tmp hres, hp, hu]
 simp [asAddr, load_nat hc]
theorem val_of (v : Nat) (h : v < 18446744073709551616) : val [v % 4294967296, v / 4294967296] = v := by simp only [val]; omega
attribute [local go_sem] and_low
theorem of_any (v : Nat) (w : World) (h : v < 18446744073709551616) :
  Calls Tryz.prog 184 #[.int .u64 v] w fun e w' => ∃ r, e = .returned r ∧ NatIs w' r v ∧ Below w.heap.size w w' := by
 go_enter Tryz.func184, Tryz.ntmps184
 go_wp2_with fail
 have hcell : Cells .u32 ((w.alloc (.cells #[.slice none 0 0] 180)).alloc (.cells #[.int .u32 ((v : Int) % 4294967296), .int .u32 ((v : Int) / 4294967296)] 211)) (some ⟨w.heap.size + 1, 0, none⟩) [v % 4294967296, v / 4294967296] := by
  refine .inr ⟨w.heap.size + 1, 0, rfl, by simp, fun i hi => ?_⟩
  match i, hi with
  | 0, _ => go_simp
  | 1, _ => go_simp
 refine (trim_any (some ⟨w.heap.size + 1, 0, none⟩) 2 [v % 4294967296, v / 4294967296] _ hcell (by simp) (by decide) (by intro x hx; simp at hx; omega)).mono ?_
 rintro e w1 ⟨rfl, hb⟩
 obtain ⟨hc, hf⟩ := bcell hb
 have hbox : w1.cell? ⟨w.heap.size, 0, none⟩ = some (.slice none 0 0) := by rw [hc _ _ (by simp; omega)]; go_simp
 have hn := trim_nat (w' := w1) (cap := 2) (hcell.below hb) (by simp) (by intro x hx; simp at hx; omega) (by decide)
 generalize (limbs (val [v % 4294967296, v / 4294967296])).length = m at *
 go_wp2
 refine ret_nat rfl rfl (cell_set hbox) rfl ⟨_, rfl, ?_, ?_⟩
 ·rw [val_of v h] at hn
  exact hn.set _ _ (fun n e => by rw [hbox] at e; cases e)
 ·exact (((((Below.refl _ w).alloc (Nat.le_refl _) _).alloc (by simp) _).trans (hb.mono (by simp <;> omega))).setCell (Nat.le_refl _) _)
theorem clone_any (ao : Option Addr) (cap : Nat) (xs : List Nat) (w : World) (hc : Cells .u32 w ao xs) (hcap : xs.length ≤ cap) (hm : cap ≤ maxLen) (hn : ao = none → cap = 0) (hl : xs.length ≤ 1000000000) :
  Calls Tryz.prog 203 #[.slice ao xs.length cap] w fun e w' =>
   ∃ v, e = .returned v ∧ Owns w.heap.size 211 w' v (ints .u32 xs) ∧ Below w.heap.size w w' := by
 have hnil := fun (W : World) a n c => Lib.run_eql_slice_nil (P := Tryz.prog) W 178 211 a n c 0 0 Tryz.underlying178
 cases ao with
 | none =>
  obtain rfl := hn rfl
  have : xs = [] := List.eq_nil_of_length_eq_zero (by omega)
  subst this
  go_enter Tryz.func203, Tryz.ntmps203
  go_wp2
  go_ret
  exact ⟨_, rfl, Owns.nil _ _ _, Below.refl _ _⟩
 | some ad =>
  go_enter Tryz.func203, Tryz.ntmps203
  have ho : Owns w.heap.size 211 (w.alloc (.cells #[] 211)) (.slice (some ⟨w.heap.size, 0, none⟩) 0 0) [] :=
   ⟨rfl, .inr ⟨w.heap.size, 0, #[], rfl, Nat.le_refl _, heap_alloc_new w _, Nat.le_refl _, Nat.zero_le _, rfl, rfl⟩⟩
  have hc2 := (hc.alloc (.cells #[] 211)).at
  have hlen := ints_length .u32 xs
  go_wp2_with (at_builtin; refine appendN E32 ho rfl rfl rfl (ys := ints .u32 xs) (ad := ad) (c := cap) (by rw [hlen]; rfl) hc2 (ints_one _ _) (by simp [hlen]; omega) (by simp [hlen, maxLen]; omega) (by simp) ?_; intro v' w1 hown hbel hg)
  go_ret
  exact ⟨_, rfl, hown, (((Below.refl _ w).alloc (Nat.le_refl _) _).trans hbel)⟩
end Go.Proofs.YtcpfanpcdkoiaaaGreat
namespace Go.Proofs.YtcpfanpcdkoiaaaGreat
open Go.RowKit


attribute [local go_sem] and_low
end Go.Proofs.YtcpfanpcdkoiaaaGreat
namespace Go.Proofs.YtcpfanpcdkoiaaaGreat
open Go.RowKit


end Go.Proofs.YtcpfanpcdkoiaaaGreat
namespace Go.Proofs.YtcpfanpcdkoiaaaGreat
open Go.RowKit


attribute [local go_sem] and_low
set_option maxHeartbeats 400000 in
theorem less_any (g off cap : Nat) (xs : List Nat) (m : Nat) (w : World) (hown : Mut .u32 w g off xs)
  (hx : ∀ x ∈ xs, x < 4294967296) (hm0 : 0 < m) (hm : m < 4294967296) (hl : xs.length ≤ 1000000000) :
  Calls Tryz.prog 206 #[.slice (some ⟨g, off, none⟩) xs.length cap, .int .u32 m] w fun e w' =>
   e = .returned (.int .u32 (((divL xs m).2 : Nat) : Int)) ∧ Mut .u32 w' g off (divL xs m).1 ∧ w.grownBy w' (some g) := by
 go_enter Tryz.func206, Tryz.ntmps206
 go_wp2
 go_loopw [5, 6] (fun rr i wr => ∃ k : Nat, k ≤ xs.length ∧ i = .int .i64 ((k : Int) - 1) ∧ rr = .int .u64 ((divL (xs.drop k) m).2 : Nat) ∧ Mut .u32 wr g off (xs.take k ++ (divL (xs.drop k) m).1) ∧ w.grownBy wr (some g))
  (fun _ i _ => (intOf i + 1).toNat)
 case atStart => exact ⟨xs.length, Nat.le_refl _, rfl, by simp [divL], by simpa [divL] using hown, grownBy_refl _ _⟩
 case round =>
  obtain ⟨k, hk, rfl, rfl, ho, hb⟩ := hrel
  rcases Nat.eq_zero_or_pos k with rfl | hk0
  ·simp only [List.take_zero, List.drop_zero, List.nil_append] at ho ⊢
   generalize hd : (divL xs m).2 = d at *
   have hdl : d < m := by rw [← hd]; exact divL_rest xs m hm0
   have HD := Lib.hid hd; clear hd
   go_wp2
   go_ret
   exact ⟨by rw [HD.out]; rfl, ho, hb⟩
  ·obtain ⟨j, rfl⟩ : ∃ j, k = j + 1 := ⟨k - 1, by omega⟩
   have hlt : j < xs.length := by omega
   have hdl : (divL (xs.drop (j + 1)) m).1.length = xs.length - (j + 1) := by rw [divL_length]; simp
   have hln : (xs.take (j + 1) ++ (divL (xs.drop (j + 1)) m).1).length = xs.length := by simp only [List.length_append, List.length_take, hdl]; omega
   have hck := ho.cell j (by rw [hln]; exact hlt)
   have hfk := ho.free j (by rw [hln]; exact hlt)
   have HL := Lib.hid hln; clear hln
   have hgj : (xs.take (j + 1) ++ (divL (xs.drop (j + 1)) m).1)[j]?.getD 0 = xs[j]?.getD 0 := by
    rw [List.getElem?_append_left (by simp; omega), List.getElem?_take, if_pos (by omega)]
   rw [hgj] at hck
   clear hgj
   have hxk := getD_lt (k := j) hx (by decide)
   have hdrop : xs.drop j = xs[j]?.getD 0 :: xs.drop (j + 1) := by
    rw [List.drop_eq_getElem_cons hlt, List.getElem?_eq_getElem hlt]; rfl
   have hset := fun y => set_done_top (ds := (divL (xs.drop (j + 1)) m).1) (y := y) hlt
   have hdv : divL (xs.drop j) m = (((divL (xs.drop (j + 1)) m).2 * 4294967296 + xs[j]?.getD 0) / m :: (divL (xs.drop (j + 1)) m).1, ((divL (xs.drop (j + 1)) m).2 * 4294967296 + xs[j]?.getD 0) % m) := by
    rw [hdrop]; rfl
   have hr := divL_rest (xs.drop (j + 1)) m hm0
   generalize xs[j]?.getD 0 = x at *
   generalize (divL (xs.drop (j + 1)) m).1 = ds at *
   generalize (divL (xs.drop (j + 1)) m).2 = r at *
   have hsm := small_div hr hxk (Nat.le_of_lt hm)
   have hor := or_join (r : Int) (x : Int) (by omega) (by omega) (by omega) (by omega)
   have HS := Lib.hid hset; clear hset
   have HV := Lib.hid hdv; clear hdv
   clear hdrop hdl
   have hq : ((r : Int) * 4294967296 + (x : Int)) / (m : Int) % 4294967296 = (((r * 4294967296 + x) / m : Nat) : Int) := by
    have e : (((r * 4294967296 + x) / m : Nat) : Int) = ((r : Int) * 4294967296 + (x : Int)) / (m : Int) := by simp
    have h2 := hsm.2
    rw [← e]
    generalize (r * 4294967296 + x) / m = q at h2 ⊢
    omega
   have HQ := Lib.hid hq; clear hq
   go_wp2
   go_roundw
   case rel =>
    have hst := ho.set j ((r * 4294967296 + x) / m) (by rw [HL.out]; exact hlt)
    rw [HS.out] at hst
    refine ⟨j, by omega, rfl, by rw [HV.out]; simp, ?_, grownBy_set hb _ _⟩
    rw [HV.out, HQ.out]
    exact hst
   case measure => simp [intOf]
end Go.Proofs.YtcpfanpcdkoiaaaGreat
namespace Go.Proofs.YtcpfanpcdkoiaaaGreat
open Go.RowKit


attribute [local go_sem] and_low field_nat
theorem Tryz.info5 : (Tryz.prog.info? 5).map (fun i => (i.zero, i.size, i.bytes)) = some (some (.int .u8 0), 1, 1) := by kernel_rfl
end Go.Proofs.YtcpfanpcdkoiaaaGreat

namespace Go.Proofs
open Go.Shelf
def Tryz.lays128_ren : Go.Shelf.Ren := ⟨fun | 128 => 154 | n => n, fun | 51 => 211 | 3 => 3 | 4 => 4 | 46 => 134 | 5 => 5 | 9 => 9 | n => n, fun | n => n⟩
theorem Tryz.lays128 : Go.Proofs.Lays.n128 Tryz.prog Tryz.lays128_ren := {
 mixed := by kernel_rfl
 f128 := Tryz.func154.trans (congrArg some (by kernel_rfl))
 t3 := Tryz.underlying3
 a3 := Tryz.isAgg3
 z3 := Tryz.sizeOf3
 v3 := Tryz.zeroValue3
 t4 := Tryz.underlying4
 a4 := Tryz.isAgg4
 z4 := Tryz.sizeOf4
 v4 := Tryz.zeroValue4
 t5 := Tryz.underlying5
 a5 := Tryz.isAgg5
 z5 := Tryz.sizeOf5
 v5 := Tryz.zeroValue5
 t9 := Tryz.underlying9
 a9 := Tryz.isAgg9
 z9 := Tryz.sizeOf9
 v9 := Tryz.zeroValue9
 t46 := Tryz.underlying134
 a46 := Tryz.isAgg134
 z46 := Tryz.sizeOf134
 v46 := Tryz.zeroValue134
 t51 := Tryz.underlying211
 a51 := Tryz.isAgg211
 z51 := Tryz.sizeOf211
 v51 := Tryz.zeroValue211 }
theorem Tryz.bits_Len32 (x : Int) (w : World) (h0 : 0 ≤ x) (h1 : x ≤ 4294967295) :
  Calls Tryz.prog 154 #[.int .u32 x] w fun e w' => e = .returned (.int .i64 (Lib.bitLen x.toNat)) ∧ w' = w := Any.bits_Len32 Tryz.lays128 x w h0 h1
end Go.Proofs
namespace Go.Proofs
open Go.Shelf
def Tryz.lays125_ren : Go.Shelf.Ren := ⟨fun | 125 => 115 | 128 => 154 | 129 => 155 | n => n, fun | 46 => 134 | 3 => 3 | 51 => 211 | 53 => 41 | 4 => 4 | 5 => 5 | 9 => 9 | n => n, fun | n => n⟩
theorem Tryz.lays125 : Go.Proofs.Lays.n125 Tryz.prog Tryz.lays125_ren := {
 mixed := by kernel_rfl
 f125 := Tryz.func115.trans (congrArg some (by kernel_rfl))
 f128 := Tryz.func154.trans (congrArg some (by kernel_rfl))
 f129 := Tryz.func155.trans (congrArg some (by kernel_rfl))
 t3 := Tryz.underlying3
 a3 := Tryz.isAgg3
 z3 := Tryz.sizeOf3
 v3 := Tryz.zeroValue3
 t4 := Tryz.underlying4
 a4 := Tryz.isAgg4
 z4 := Tryz.sizeOf4
 v4 := Tryz.zeroValue4
 t5 := Tryz.underlying5
 a5 := Tryz.isAgg5
 z5 := Tryz.sizeOf5
 v5 := Tryz.zeroValue5
 t9 := Tryz.underlying9
 a9 := Tryz.isAgg9
 z9 := Tryz.sizeOf9
 v9 := Tryz.zeroValue9
 t46 := Tryz.underlying134
 a46 := Tryz.isAgg134
 z46 := Tryz.sizeOf134
 v46 := Tryz.zeroValue134
 t51 := Tryz.underlying211
 a51 := Tryz.isAgg211
 z51 := Tryz.sizeOf211
 v51 := Tryz.zeroValue211
 t53 := Tryz.underlying41
 a53 := Tryz.isAgg41
 z53 := Tryz.sizeOf41
 v53 := Tryz.zeroValue41 }
theorem Tryz.bits_Len (x : Int) (w : World) (h0 : 0 ≤ x) (h1 : x ≤ 18446744073709551615) :
  Calls Tryz.prog 115 #[.int .u64 x] w fun e w' => e = .returned (.int .i64 (Lib.bitLen x.toNat)) ∧ w' = w := Any.bits_Len Tryz.lays125 x w h0 h1
end Go.Proofs
namespace Go.Proofs
open Go.Shelf
def Tryz.lays133_ren : Go.Shelf.Ren := ⟨fun | 133 => 208 | 128 => 154 | n => n, fun | 51 => 211 | 3 => 3 | 4 => 4 | 46 => 134 | 5 => 5 | 9 => 9 | n => n, fun | n => n⟩
theorem Tryz.lays133 : Go.Proofs.Lays.n133 Tryz.prog Tryz.lays133_ren := {
 mixed := by kernel_rfl
 f128 := Tryz.func154.trans (congrArg some (by kernel_rfl))
 f133 := Tryz.func208.trans (congrArg some (by kernel_rfl))
 t3 := Tryz.underlying3
 a3 := Tryz.isAgg3
 z3 := Tryz.sizeOf3
 v3 := Tryz.zeroValue3
 t4 := Tryz.underlying4
 a4 := Tryz.isAgg4
 z4 := Tryz.sizeOf4
 v4 := Tryz.zeroValue4
 t5 := Tryz.underlying5
 a5 := Tryz.isAgg5
 z5 := Tryz.sizeOf5
 v5 := Tryz.zeroValue5
 t9 := Tryz.underlying9
 a9 := Tryz.isAgg9
 z9 := Tryz.sizeOf9
 v9 := Tryz.zeroValue9
 t46 := Tryz.underlying134
 a46 := Tryz.isAgg134
 z46 := Tryz.sizeOf134
 v46 := Tryz.zeroValue134
 t51 := Tryz.underlying211
 a51 := Tryz.isAgg211
 z51 := Tryz.sizeOf211
 v51 := Tryz.zeroValue211 }
theorem Tryz.bits_LeadingZeros32 (x : Int) (w : World) (h0 : 0 ≤ x) (h1 : x ≤ 4294967295) :
  Calls Tryz.prog 208 #[.int .u32 x] w fun e w' => e = .returned (.int .i64 (32 - (Lib.bitLen x.toNat : Int))) ∧ w' = w := Any.bits_LeadingZeros32 Tryz.lays133 x w h0 h1
end Go.Proofs
