/-
  Pj02: NatN1 BitsN (what is needed of them).
-/
import Derived.Test.YtcpfanpcdkoiaaaGreatDoorPj00
import Derived.Test.YtcpfanpcdkoiaaaGreatDoorPj01
import Derived.BigRegion
import Derived.Deep.LoopGhost
import Derived.Shelf.Small.Bits
import Derived.Test.YtcpfanpcdkoiaaaGreatDoorProg
set_option maxRecDepth 100000
set_option linter.unusedVariables false
set_option linter.unusedSimpArgs false

namespace Go.Proofs.YtcpfanpcdkoiaaaGreatDoor


open Go.RowKit
theorem trim_any (ao : Option Addr) (cap : Nat) (xs : List Nat) (w : World) (hc : Cells .u32 w ao xs) (hcap : xs.length ≤ cap) (hm : cap ≤ maxLen) (hx : ∀ x ∈ xs, x < 4294967296) :
  Calls Tryz.prog 195 #[.slice ao xs.length cap] w fun e w' =>
   e = .returned (.agg #[.slice ao (limbs (val xs)).length (limbs (val xs)).length]) ∧ Below w.heap.size w w' := by
 unfold maxLen at hm
 go_enter Tryz.func195, Tryz.ntmps195
 go_wp2
 go_loop [3] (fun n => ∃ k : Nat, k ≤ xs.length ∧ n = .int .i64 k ∧ (∀ i, k ≤ i → i < xs.length → xs[i]? = some 0)) (fun n => (intOf n).toNat)
 case atStart => exact ⟨xs.length, Nat.le_refl _, rfl, fun i h1 h2 => by omega⟩
 case round =>
  obtain ⟨k, hk, rfl, hz⟩ := hrel
  have HZ := Lib.hid hz; clear hz
  rcases Nat.eq_zero_or_pos k with rfl | hk0
  ·go_wp2
   have e := limbs_take xs 0 (by omega) hx HZ.out (.inl rfl)
   refine bodyPost_ret (v := .agg #[.slice ao 0 0]) (by simp [results, Tryz.results195, go_sem]) rfl ⟨?_, (Below.refl _ _).alloc (Nat.le_refl _) _⟩
   rw [e]; simp
  ·obtain ⟨j, rfl⟩ : ∃ j, k = j + 1 := ⟨k - 1, by omega⟩
   rcases hc with rfl | ⟨b, off, rfl, hb, hcell⟩
   ·simp at hk
   have hj := hcell j (by omega)
   clear hcell
   by_cases h0 : xs[j]?.getD 0 = 0
   ·rw [h0] at hj
    go_wp2
    go_round
    case rel =>
     refine ⟨j, by omega, by go_num, fun i h1 h2 => ?_⟩
     by_cases e : i = j
     ·subst e; rw [List.getElem?_eq_getElem h2] at h0 ⊢; simpa using h0
     ·exact HZ.out i (by omega) h2
    case measure => simp [intOf]
   ·go_wp2
    have e := limbs_take xs (j + 1) hk hx HZ.out (.inr (by intro h; rw [Nat.add_sub_cancel] at h; rw [h] at h0; exact h0 rfl))
    have e2 : (limbs (val xs)).length = j + 1 := by rw [e, List.length_take]; omega
    refine bodyPost_ret (v := .agg #[.slice (some ⟨b, off, none⟩) (j + 1) (j + 1)]) (by simp [results, Tryz.results195, go_sem]) rfl ⟨?_, (Below.refl _ _).alloc (Nat.le_refl _) _⟩
    rw [e2]
theorem trim_nat {w' : World} {ao : Option Addr} {cap : Nat} {xs : List Nat} (hc : Cells .u32 w' ao xs) (hcap : xs.length ≤ cap) (hx : ∀ x ∈ xs, x < 4294967296) (hm : cap ≤ maxLen) :
  NatIs w' (.agg #[.slice ao (limbs (val xs)).length (limbs (val xs)).length]) (val xs) := by
 refine ⟨_, rfl, ao, _, rfl, Nat.le_refl _, Nat.le_trans (val_limbs_length_le xs hx) (Nat.le_trans hcap hm), ?_, ?_⟩
 ·rintro rfl
  rcases hc with rfl | ⟨b, off, h, _⟩
  ·exact congrArg List.length limbs_zero
  ·cases h
 ·obtain ⟨k, hk, e⟩ := limbs_prefix xs hx
  rw [e]
  exact hc.take k
end Go.Proofs.YtcpfanpcdkoiaaaGreatDoor
namespace Go.Proofs.YtcpfanpcdkoiaaaGreatDoor
open Go.RowKit


theorem Tryz.info228 : (Tryz.prog.info? 228).map (fun i => (i.zero, i.size, i.bytes)) = some (some (.int .u32 0), 1, 4) := by kernel_rfl
theorem E32 : Elem Tryz.prog 109 228 (.int .u32 0) 4 := elem_of Tryz.underlying109 Tryz.info228 rfl
theorem NatIs.open {w : World} {v : Value} {n : Nat} (h : NatIs w v n) : ∃ ao cap, v = .agg #[.slice ao (limbs n).length cap] ∧ (limbs n).length ≤ cap ∧ cap ≤ 9223372036854775807 ∧ (ao = none → cap = 0) ∧ Cells .u32 w ao (limbs n) := by
 obtain ⟨sv, rfl, ao, cap, rfl, h1, h2, h3, h4⟩ := h
 exact ⟨ao, cap, rfl, h1, h2, h3, h4⟩
theorem NatIs.zero (w : World) : NatIs w (.agg #[.slice none 0 0]) 0 :=
 ⟨_, rfl, none, 0, by rw [limbs_zero]; rfl, by rw [limbs_zero]; simp, Nat.zero_le _, fun _ => rfl, .inl limbs_zero⟩
theorem zero_any (v : Value) (n : Nat) (w : World) (h : NatIs w v n) :
  Calls Tryz.prog 191 #[v] w fun e w' => e = .returned (.bool (decide (n = 0))) ∧ Below w.heap.size w w' := by
 obtain ⟨ao, cap, rfl, h1, h2, h3, h4⟩ := h.open
 have e : ((((limbs n).length : Nat) : Int) == 0) = decide (n = 0) := by
  rw [Bool.eq_iff_iff]; simp [limbs_eq_nil]
 have HE := Lib.hid e; clear e
 clear h3 h4
 go_enter Tryz.func191, Tryz.ntmps191
 go_wp2
 go_ret
 exact ⟨congrArg (fun b => Ending.returned (.bool b)) HE.out, (Below.refl _ _).alloc (Nat.le_refl _) _⟩
theorem at_any (v : Value) (n : Nat) (i : Nat) (w : World) (h : NatIs w v n) (hi : i ≤ 9223372036854775807) :
  Calls Tryz.prog 231 #[v, .int .i64 i] w fun e w' => e = .returned (.int .u32 (((limbs n)[i]?.getD 0 : Nat) : Int)) ∧ Below w.heap.size w w' := by
 obtain ⟨ao, cap, rfl, h1, h2, h3, h4⟩ := h.open
 clear h3
 by_cases hlt : i < (limbs n).length
 ·rcases h4 with h4 | ⟨b, off, rfl, hb, hc⟩
  ·rw [h4] at hlt; simp at hlt
  have hi := hc i hlt
  have hi2 : (w.alloc (.cells #[.slice (some ⟨b, off, none⟩) (limbs n).length cap] 111)).cell? ⟨b, off + i, none⟩ = some (.int .u32 (((limbs n)[i]?.getD 0 : Nat) : Int)) := (World.cell?_alloc_past _ _ _ hb).trans hi
  clear hc hi
  generalize (limbs n)[i]?.getD 0 = x at *
  go_enter Tryz.func231, Tryz.ntmps231
  go_wp2
  go_ret
  exact ⟨rfl, (Below.refl _ _).alloc (Nat.le_refl _) _⟩
 ·have e : (limbs n)[i]?.getD 0 = 0 := by rw [List.getElem?_eq_none (by omega)]; rfl
  rw [e]
  clear h4 e
  go_enter Tryz.func231, Tryz.ntmps231
  go_wp2
  go_ret
  exact ⟨rfl, (Below.refl _ _).alloc (Nat.le_refl _) _⟩
theorem field_nat (w : World) (x : Value) : (Instr.field 111 (.agg #[x]) 0).run Tryz.prog w = .ok x w := by kernel_rfl
theorem load_nat {w : World} {p : Addr} {v : Value} (h : w.cell? p = some v) : (loadVar 111 p).run Tryz.prog w = .ok (.agg #[v]) w := by
 simp [go_sem, h]
theorem ret_nat {fn : Func} {s : Nat} {R : Ending → World → Prop} {a : Act} {w : World} {p : Addr} {v : Value} (hres : fn.results = #[.cell s 111]) (hp : a.tmps.getD s undef = .pointer (some p)) (hc : w.cell? p = some v) (hd : a.defers = []) (hR : R (.returned (.agg #[v])) w) : bodyPost Tryz.prog fn R .ret a w := by
 refine bodyPost_ret (v := .agg #[v]) ?_ hd hR
 have hp' : a.tmps[s]?.getD undef = .pointer (some p) := by simpa using hp
 simp only [results, hres]
 simp [Sem.run_bind, Sem.run_pure, Result.andThen, hp', asAddr, load_nat hc]
theorem ret_pair {r u u' : Value} (h : u = u') : Ending.returned (.tuple #[r, u]) = .returned (.tuple #[r, u']) := by rw [h]
theorem ret_nat_tmp {fn : Func} {s t : Nat} {R : Ending → World → Prop} {a : Act} {w : World} {p : Addr} {v u : Value} (hres : fn.results = #[.cell s 111, .tmp t]) (hp : a.tmps.getD s undef = .pointer (some p)) (hu : a.tmps.getD t undef = u) (hc : w.cell? p = some v) (hd : a.defers = []) (hR : R (.returned (.tuple #[.agg #[v], u])) w) : bodyPost Tryz.prog fn R .ret a w := by
 refine bodyPost_ret (v := .tuple #[.agg #[v], u]) ?_ hd hR
 rw [results_cell_tmp hres, hp, hu]
 simp [asAddr, load_nat hc]
theorem val_of (v : Nat) (h : v < 18446744073709551616) : val [v % 4294967296, v / 4294967296] = v := by simp only [val]; omega
attribute [local go_sem] and_low
theorem of_any (v : Nat) (w : World) (h : v < 18446744073709551616) :
  Calls Tryz.prog 164 #[.int .u64 v] w fun e w' => ∃ r, e = .returned r ∧ NatIs w' r v ∧ Below w.heap.size w w' := by
 go_enter Tryz.func164, Tryz.ntmps164
 go_wp2_with fail
 have hcell : Cells .u32 ((w.alloc (.cells #[.slice none 0 0] 111)).alloc (.cells #[.int .u32 ((v : Int) % 4294967296), .int .u32 ((v : Int) / 4294967296)] 228)) (some ⟨w.heap.size + 1, 0, none⟩) [v % 4294967296, v / 4294967296] := by
  refine .inr ⟨w.heap.size + 1, 0, rfl, by simp, fun i hi => ?_⟩
  match i, hi with
  | 0, _ => go_simp
  | 1, _ => go_simp
 refine (trim_any (some ⟨w.heap.size + 1, 0, none⟩) 2 [v % 4294967296, v / 4294967296] _ hcell (by simp) (by decide) (by intro x hx; simp at hx; omega)).mono ?_
 rintro e w1 ⟨rfl, hb⟩
 obtain ⟨hc, hf⟩ := bcell hb
 have hbox : w1.cell? ⟨w.heap.size, 0, none⟩ = some (.slice none 0 0) := by rw [hc _ _ (by simp; omega)]; go_simp
 have hn := trim_nat (w' := w1) (cap := 2) (hcell.below hb) (by simp) (by intro x hx; simp at hx; omega) (by decide)
 generalize (limbs (val [v % 4294967296, v / 4294967296])).length = m at *
 go_wp2
 refine ret_nat rfl rfl (cell_set hbox) rfl ⟨_, rfl, ?_, ?_⟩
 ·rw [val_of v h] at hn
  exact hn.set _ _ (fun n e => by rw [hbox] at e; cases e)
 ·exact (((((Below.refl _ w).alloc (Nat.le_refl _) _).alloc (by simp) _).trans (hb.mono (by simp <;> omega))).setCell (Nat.le_refl _) _)
theorem clone_any (ao : Option Addr) (cap : Nat) (xs : List Nat) (w : World) (hc : Cells .u32 w ao xs) (hcap : xs.length ≤ cap) (hm : cap ≤ maxLen) (hn : ao = none → cap = 0) (hl : xs.length ≤ 1000000000) :
  Calls Tryz.prog 198 #[.slice ao xs.length cap] w fun e w' =>
   ∃ v, e = .returned v ∧ Owns w.heap.size 228 w' v (ints .u32 xs) ∧ Below w.heap.size w w' := by
 have hnil := fun (W : World) a n c => Lib.run_eql_slice_nil (P := Tryz.prog) W 109 228 a n c 0 0 Tryz.underlying109
 cases ao with
 | none =>
  obtain rfl := hn rfl
  have : xs = [] := List.eq_nil_of_length_eq_zero (by omega)
  subst this
  go_enter Tryz.func198, Tryz.ntmps198
  go_wp2
  go_ret
  exact ⟨_, rfl, Owns.nil _ _ _, Below.refl _ _⟩
 | some ad =>
  go_enter Tryz.func198, Tryz.ntmps198
  have ho : Owns w.heap.size 228 (w.alloc (.cells #[] 228)) (.slice (some ⟨w.heap.size, 0, none⟩) 0 0) [] :=
   ⟨rfl, .inr ⟨w.heap.size, 0, #[], rfl, Nat.le_refl _, heap_alloc_new w _, Nat.le_refl _, Nat.zero_le _, rfl, rfl⟩⟩
  have hc2 := (hc.alloc (.cells #[] 228)).at
  have hlen := ints_length .u32 xs
  go_wp2_with (at_builtin; refine appendN E32 ho rfl rfl rfl (ys := ints .u32 xs) (ad := ad) (c := cap) (by rw [hlen]; rfl) hc2 (ints_one _ _) (by simp [hlen]; omega) (by simp [hlen, maxLen]; omega) (by simp) ?_; intro v' w1 hown hbel hg)
  go_ret
  exact ⟨_, rfl, hown, (((Below.refl _ w).alloc (Nat.le_refl _) _).trans hbel)⟩
end Go.Proofs.YtcpfanpcdkoiaaaGreatDoor
namespace Go.Proofs.YtcpfanpcdkoiaaaGreatDoor
open Go.RowKit


attribute [local go_sem] and_low
def moreL (xs : List Nat) (m c : Nat) : List Nat := if mulC xs m c = 0 then mulL xs m c else mulL xs m c ++ [mulC xs m c]
set_option maxHeartbeats 400000 in
theorem more_any (base : Nat) (v : Value) (xs : List Nat) (m c : Nat) (w : World) (hown : Owns base 228 w v (ints .u32 xs)) (hbase : base ≤ w.heap.size)
  (hx : ∀ x ∈ xs, x < 4294967296) (hm : m < 4294967296) (hc : c < 4294967296) (hl : xs.length ≤ 1000000000) :
  Calls Tryz.prog 205 #[v, .int .u32 m, .int .u32 c] w fun e w' =>
   ∃ v', e = .returned v' ∧ Owns base 228 w' v' (ints .u32 (moreL xs m c)) ∧ Below base w w' := by
 rcases hown.shape with ⟨rfl, hnil⟩ | ⟨g, cap, rfl, hg, hgw, hcap, hcapm, hcell, hfr⟩
 ·have : xs = [] := by simpa [ints] using hnil
  subst this
  by_cases h0 : 0 < c
  ·have hown' : Owns base 228 w (.slice none 0 0) [] := hown
   go_enter Tryz.func205, Tryz.ntmps205
   go_wp2
   refine wp_loop_rounds 1 ?_
   rw [rounds_succ]
   go_wp2_with (at_builtin; refine append1 E32 hown' rfl rfl rfl rfl rfl (by decide) (by decide) hbase ?_; intro v' w1 ho1 hb1 _)
   go_ret
   refine ⟨_, rfl, ?_, hb1⟩
   have e : moreL [] m c = [c] := by unfold moreL; rw [if_neg (by show ¬ c = 0; omega)]; rfl
   rw [e]
   exact ho1
  ·obtain rfl : c = 0 := by omega
   go_enter Tryz.func205, Tryz.ntmps205
   go_wp2
   refine wp_loop_rounds 1 ?_
   rw [rounds_succ]
   go_wp2
   go_ret
   exact ⟨_, rfl, hown, Below.refl _ _⟩
 ·rw [ints_length] at hcap
  unfold maxLen at hcapm
  rw [ints_length]
  go_enter Tryz.func205, Tryz.ntmps205
  go_wp2
  go_loopw [7, 13] (fun cc i wr => ∃ k : Nat, k ≤ xs.length ∧ i = .int .i64 k ∧ cc = .int .u64 (mulC (xs.take k) m c : Nat) ∧ Owns base 228 wr (.slice (some ⟨g, 0, none⟩) xs.length cap) (ints .u32 (mulL (xs.take k) m c ++ xs.drop k)) ∧ Below base w wr)
   (fun _ i _ => xs.length - (intOf i).toNat)
  case atStart => exact ⟨0, Nat.zero_le _, rfl, by simp [mulC], by simpa [mulL, ints_length] using hown, Below.refl _ _⟩
  case round =>
   obtain ⟨k, hk, rfl, rfl, ho, hb⟩ := hrel
   have hcar := mulC_lt (xs.take k) m c (fun x h => hx x (List.mem_of_mem_take h)) hm hc
   by_cases hlt : k < xs.length
   ·have hlen : (mulL (xs.take k) m c ++ xs.drop k).length = xs.length := by simp [mulL_length]; omega
    have HL := Lib.hid hlen
    have hlk : (mulL (xs.take k) m c).length = k := by rw [mulL_length]; simp; omega
    obtain ⟨_, _, hgw', _, hcell', hfr'⟩ := ho.at
    have hck := hcell' k hlt
    rw [get_done hlt hlk] at hck
    have hfk := hfr' k
    have hxk := getD_lt (k := k) hx (by decide)
    have hs1 := mulC_snoc (xs.take k) (xs[k]?.getD 0) m c
    have hs2 := mulL_snoc (xs.take k) (xs[k]?.getD 0) m c
    rw [← take_snoc' xs k hlt] at hs1 hs2
    have hset := set_done (f := fun l => mulL l m c) hlt hlk hs2
    have hmul := (small_mul hxk hm hcar).1
    generalize xs[k]?.getD 0 = x at *
    generalize mulC (xs.take k) m c = cc at *
    clear hcell hfr hcell' hfr'
    have HS := Lib.hid hset; clear hset
    have HS1 := Lib.hid hs1; clear hs1
    clear hs2 hlen hlk
    go_wp2
    go_roundw
    case rel =>
     have hst := ho.stored (by rw [ints_length]; exact HL.out.symm) k (.int .u32 (((cc + x * m) % 4294967296 : Nat) : Int))
     rw [ints_set, HS.out] at hst
     refine ⟨k + 1, by omega, by go_num, by rw [HS1.out]; go_num, ?_, hb.setCell (by exact hg) _⟩
     exact hst
    case measure => simp [intOf]; omega
   ·obtain rfl : k = xs.length := by omega
    simp only [List.take_length, List.drop_length, List.append_nil] at ho hcar ⊢
    have hlen : (mulL xs m c).length = xs.length := mulL_length _ _ _
    have hlen' := ints_length .u32 (mulL xs m c)
    by_cases h0 : mulC xs m c = 0
    ·have e : moreL xs m c = mulL xs m c := by simp [moreL, h0]
     have HE := Lib.hid e; clear e
     rw [h0]
     clear h0
     go_wp2
     go_ret
     exact ⟨_, rfl, by rw [HE.out]; exact ho, hb⟩
    ·have e : moreL xs m c = mulL xs m c ++ [mulC xs m c] := by simp [moreL, h0]
     generalize mulC xs m c = cc at *
     have HE := Lib.hid e; clear e
     have hpos : 0 < cc := by omega
     have hbs := hb.size
     have hone : ints .u32 (mulL xs m c ++ [cc]) = ints .u32 (mulL xs m c) ++ [.int .u32 (cc : Int)] := by simp [ints]
     have H1 := Lib.hid hone; clear hone
     go_wp2_with (at_builtin; refine append1 E32 ho rfl rfl rfl rfl rfl (by simp [hlen']; omega) (by simp [hlen', maxLen]; omega) (by omega) ?_; intro v' w1 ho1 hb1 _)
     go_ret
     exact ⟨_, rfl, by rw [HE.out, H1.out]; exact ho1, hb.trans hb1⟩
theorem moreL_val (xs : List Nat) (m c : Nat) : val (moreL xs m c) = val xs * m + c := by
 have := mul_val xs m c
 unfold moreL
 split
 ·rename_i h; rw [h] at this; simpa using this
 ·rw [val_append, mulL_length]; simp only [val]; simpa using this
theorem moreL_lt (xs : List Nat) (m c : Nat) (hx : ∀ x ∈ xs, x < 4294967296) (hm : m < 4294967296) (hc : c < 4294967296) : ∀ x ∈ moreL xs m c, x < 4294967296 := by
 have h := mulC_lt xs m c hx hm hc
 intro x hx'
 unfold moreL at hx'
 split at hx'
 ·exact mulL_lt xs m c x hx'
 ·rcases List.mem_append.1 hx' with h1 | h1
  ·exact mulL_lt xs m c x h1
  ·simp at h1; omega
theorem moreL_length (xs : List Nat) (m c : Nat) : (moreL xs m c).length ≤ xs.length + 1 := by
 unfold moreL
 split <;> simp [mulL_length]
end Go.Proofs.YtcpfanpcdkoiaaaGreatDoor
namespace Go.Proofs.YtcpfanpcdkoiaaaGreatDoor
open Go.RowKit


def strLen : Value → Nat | .string b => b.size | _ => 0
theorem trimLeftByte_any (l : List UInt8) (c : UInt8) (w : World) (hl : l.length ≤ 1000000000) :
  Calls Tryz.prog 208 #[.string ⟨l.toArray⟩, .int .u8 c.toNat] w fun e w' => e = .returned (.string ⟨(l.dropWhile (· == c)).toArray⟩) ∧ w = w' := by
 go_enter Tryz.func208, Tryz.ntmps208
 go_wp2
 go_loop [0] (fun s => ∃ r : List UInt8, r.length ≤ 1000000000 ∧ s = .string ⟨r.toArray⟩ ∧ r.dropWhile (· == c) = l.dropWhile (· == c)) (fun s => strLen s)
 case atStart => exact ⟨l, hl, rfl, rfl⟩
 case round =>
  obtain ⟨r, hr, rfl, he⟩ := hrel
  have HE := Lib.hid he; clear he
  cases r with
  | nil =>
   go_wp2
   go_ret
   exact ⟨by rw [← HE.out]; rfl, rfl⟩
  | cons x r =>
   have h0 : ∀ h, (((⟨(x :: r).toArray⟩ : ByteArray)[0]'h).toNat : Int) = (x.toNat : Int) := fun _ => rfl
   have hex := bytes_extract (x :: r) 1 (r.length + 1)
   simp only [List.take_succ_cons, List.take_length, List.drop_succ_cons, List.drop_zero] at hex
   simp only [List.length_cons] at hr
   by_cases hx : x = c
   ·subst hx
    go_wp2
    go_round
    case rel => exact ⟨r, by omega, rfl, by rw [← HE.out]; simp [List.dropWhile]⟩
    case measure => simp [strLen, ByteArray.size]
   ·have hne : ((x.toNat : Int) == (c.toNat : Int)) = false := by
     rw [beq_eq_false_iff_ne]; intro h; exact hx (UInt8.toNat_inj.1 (by omega))
    go_wp2
    go_ret
    refine ⟨ret_one ?_, rfl⟩
    rw [← HE.out]
    have hb : (x == c) = false := by simp [hx]
    simp [List.dropWhile, hb]
theorem trimLeft0_any (l : List UInt8) (w : World) (hl : l.length ≤ 1000000000) :
  Calls Tryz.prog 163 #[.string ⟨l.toArray⟩, .string ⟨#[48]⟩] w fun e w' => e = .returned (.string ⟨(l.dropWhile (· == 48)).toArray⟩) ∧ w = w' := by
 cases l with
 | nil =>
  go_enter Tryz.func163, Tryz.ntmps163
  go_wp2
  go_ret
  exact ⟨rfl, rfl⟩
 | cons x r =>
  go_enter Tryz.func163, Tryz.ntmps163
  go_wp2_with (go_at_call 208; refine (trimLeftByte_any (x :: r) 48 _ hl).mono ?_; rintro e w' ⟨rfl, rfl⟩)
  go_ret
  exact ⟨rfl, rfl⟩
set_option maxHeartbeats 400000 in
theorem reverse_any (base : Nat) (v : Value) (xs : List Nat) (w : World) (hown : Owns base 5 w v (ints .u8 xs)) (hl : xs.length ≤ 1000000000) (hbase : base ≤ w.heap.size) :
  Calls Tryz.prog 201 #[v] w fun e w' => e = .returned (.tuple #[]) ∧ Owns base 5 w' v (ints .u8 xs.reverse) ∧ Below base w w' := by
 rcases hown.shape with ⟨rfl, hnil⟩ | ⟨g, cap, rfl, hg, hgw, hcap, hcapm, hcell, hfr⟩
 ·have : xs = [] := by simpa [ints] using hnil
  subst this
  go_enter Tryz.func201, Tryz.ntmps201
  go_wp2
  refine wp_loop_rounds 1 ?_
  rw [rounds_succ]
  go_wp2
  go_end0
  exact ⟨rfl, hown, Below.refl _ _⟩
 ·rw [ints_length] at hcap hown ⊢
  clear hcell hfr
  go_enter Tryz.func201, Tryz.ntmps201
  go_wp2
  go_loopw [2, 3] (fun i j wr => ∃ (k : Nat) (ys : List Nat), 2 * k ≤ xs.length + 1 ∧ i = .int .i64 k ∧ j = .int .i64 ((xs.length : Int) - 1 - k) ∧ Owns base 5 wr (.slice (some ⟨g, 0, none⟩) xs.length cap) (ints .u8 ys) ∧ RevUp xs ys k ∧ Below base w wr)
   (fun _ j _ => (intOf j + 1).toNat)
  case atStart => exact ⟨0, xs, by omega, rfl, by simp, hown, RevUp.start xs, Below.refl _ _⟩
  case round =>
   obtain ⟨k, ys, hk, rfl, rfl, ho, hr, hb⟩ := hrel
   have HR := Lib.hid hr; clear hr
   by_cases hlt : 2 * k + 1 < xs.length
   ·obtain ⟨hln, _, hgw', _, hcell', hfr'⟩ := ho.at
    have c1 := hcell' k (by omega)
    have c2 := hcell' (xs.length - 1 - k) (by omega)
    have f1 := hfr' k
    have f2 := hfr' (xs.length - 1 - k)
    have eidx : ((xs.length : Int) - 1 - (k : Int)).toNat = xs.length - 1 - k := by omega
    have hge : (0 : Int) ≤ (xs.length : Int) - 1 - k := by omega
    have hlt2 : (xs.length : Int) - 1 - k < xs.length := by omega
    have hnn : (k : Int) < xs.length := by omega
    clear hcell' hfr'
    have HN : Hid (RevUp xs ((ys.set k (ys[xs.length - 1 - k]?.getD 0)).set (xs.length - 1 - k) (ys[k]?.getD 0)) (k + 1)) := HR.out.next hlt
    generalize ys[k]?.getD 0 = a at *
    generalize ys[xs.length - 1 - k]?.getD 0 = b at *
    go_wp2
    go_region
    go_wp2
    go_roundw
    case rel =>
     exact ⟨k + 1, _, by omega, by go_num, by go_num, (ho.storedN k b).storedN _ a, HN.out, ((hb.setCell (by exact hg) _).setCell (by exact hg) _).drew⟩
    case measure => simp [intOf]; omega
   ·go_wp2
    go_end0
    refine ⟨rfl, ?_, hb⟩
    rw [← HR.out.done (by omega)]
    exact ho
end Go.Proofs.YtcpfanpcdkoiaaaGreatDoor
namespace Go.Proofs.YtcpfanpcdkoiaaaGreatDoor
open Go.RowKit


attribute [local go_sem] and_low
set_option maxHeartbeats 400000 in
theorem less_any (g off cap : Nat) (xs : List Nat) (m : Nat) (w : World) (hown : Mut .u32 w g off xs)
  (hx : ∀ x ∈ xs, x < 4294967296) (hm0 : 0 < m) (hm : m < 4294967296) (hl : xs.length ≤ 1000000000) :
  Calls Tryz.prog 200 #[.slice (some ⟨g, off, none⟩) xs.length cap, .int .u32 m] w fun e w' =>
   e = .returned (.int .u32 (((divL xs m).2 : Nat) : Int)) ∧ Mut .u32 w' g off (divL xs m).1 ∧ w.grownBy w' (some g) := by
 go_enter Tryz.func200, Tryz.ntmps200
 go_wp2
 go_loopw [5, 6] (fun rr i wr => ∃ k : Nat, k ≤ xs.length ∧ i = .int .i64 ((k : Int) - 1) ∧ rr = .int .u64 ((divL (xs.drop k) m).2 : Nat) ∧ Mut .u32 wr g off (xs.take k ++ (divL (xs.drop k) m).1) ∧ w.grownBy wr (some g))
  (fun _ i _ => (intOf i + 1).toNat)
 case atStart => exact ⟨xs.length, Nat.le_refl _, rfl, by simp [divL], by simpa [divL] using hown, grownBy_refl _ _⟩
 case round =>
  obtain ⟨k, hk, rfl, rfl, ho, hb⟩ := hrel
  rcases Nat.eq_zero_or_pos k with rfl | hk0
  ·simp only [List.take_zero, List.drop_zero, List.nil_append] at ho ⊢
   generalize hd : (divL xs m).2 = d at *
   have hdl : d < m := by rw [← hd]; exact divL_rest xs m hm0
   have HD := Lib.hid hd; clear hd
   go_wp2
   go_ret
   exact ⟨by rw [HD.out]; rfl, ho, hb⟩
  ·obtain ⟨j, rfl⟩ : ∃ j, k = j + 1 := ⟨k - 1, by omega⟩
   have hlt : j < xs.length := by omega
   have hdl : (divL (xs.drop (j + 1)) m).1.length = xs.length - (j + 1) := by rw [divL_length]; simp
   have hln : (xs.take (j + 1) ++ (divL (xs.drop (j + 1)) m).1).length = xs.length := by simp only [List.length_append, List.length_take, hdl]; omega
   have hck := ho.cell j (by rw [hln]; exact hlt)
   have hfk := ho.free j (by rw [hln]; exact hlt)
   have HL := Lib.hid hln; clear hln
   have hgj : (xs.take (j + 1) ++ (divL (xs.drop (j + 1)) m).1)[j]?.getD 0 = xs[j]?.getD 0 := by
    rw [List.getElem?_append_left (by simp; omega), List.getElem?_take, if_pos (by omega)]
   rw [hgj] at hck
   clear hgj
   have hxk := getD_lt (k := j) hx (by decide)
   have hdrop : xs.drop j = xs[j]?.getD 0 :: xs.drop (j + 1) := by
    rw [List.drop_eq_getElem_cons hlt, List.getElem?_eq_getElem hlt]; rfl
   have hset := fun y => set_done_top (ds := (divL (xs.drop (j + 1)) m).1) (y := y) hlt
   have hdv : divL (xs.drop j) m = (((divL (xs.drop (j + 1)) m).2 * 4294967296 + xs[j]?.getD 0) / m :: (divL (xs.drop (j + 1)) m).1, ((divL (xs.drop (j + 1)) m).2 * 4294967296 + xs[j]?.getD 0) % m) := by
    rw [hdrop]; rfl
   have hr := divL_rest (xs.drop (j + 1)) m hm0
   generalize xs[j]?.getD 0 = x at *
   generalize (divL (xs.drop (j + 1)) m).1 = ds at *
   generalize (divL (xs.drop (j + 1)) m).2 = r at *
   have hsm := small_div hr hxk (Nat.le_of_lt hm)
   have hor := or_join (r : Int) (x : Int) (by omega) (by omega) (by omega) (by omega)
   have HS := Lib.hid hset; clear hset
   have HV := Lib.hid hdv; clear hdv
   clear hdrop hdl
   have hq : ((r : Int) * 4294967296 + (x : Int)) / (m : Int) % 4294967296 = (((r * 4294967296 + x) / m : Nat) : Int) := by
    have e : (((r * 4294967296 + x) / m : Nat) : Int) = ((r : Int) * 4294967296 + (x : Int)) / (m : Int) := by simp
    have h2 := hsm.2
    rw [← e]
    generalize (r * 4294967296 + x) / m = q at h2 ⊢
    omega
   have HQ := Lib.hid hq; clear hq
   go_wp2
   go_roundw
   case rel =>
    have hst := ho.set j ((r * 4294967296 + x) / m) (by rw [HL.out]; exact hlt)
    rw [HS.out] at hst
    refine ⟨j, by omega, rfl, by rw [HV.out]; simp, ?_, grownBy_set hb _ _⟩
    rw [HV.out, HQ.out]
    exact hst
   case measure => simp [intOf]
end Go.Proofs.YtcpfanpcdkoiaaaGreatDoor
namespace Go.Proofs.YtcpfanpcdkoiaaaGreatDoor
open Go.RowKit


attribute [local go_sem] and_low field_nat
theorem Tryz.info5 : (Tryz.prog.info? 5).map (fun i => (i.zero, i.size, i.bytes)) = some (some (.int .u8 0), 1, 1) := by kernel_rfl
theorem E8 : Elem Tryz.prog 214 5 (.int .u8 0) 1 := elem_of Tryz.underlying214 Tryz.info5 rfl
def codes (ds : List Nat) : List Nat := ds.map (48 + ·)
theorem codes_append (a b : List Nat) : codes (a ++ b) = codes a ++ codes b := by simp [codes]
theorem codes_length (a : List Nat) : (codes a).length = a.length := by simp [codes]
theorem str_dropWhile (xs : List Nat) (h : ∀ x ∈ xs, x < 256) : (str xs).dropWhile (· == 48) = str (xs.dropWhile (· == 48)) := by
 induction xs with
 | nil => rfl
 | cons x xs ih =>
  have hx := h x (by simp)
  have ih' := ih (fun y hy => h y (by simp [hy]))
  have e : (UInt8.ofNat x == 48) = (x == 48) := by
   rw [Bool.eq_iff_iff, beq_iff_eq, beq_iff_eq, ← UInt8.toNat_inj]
   simp; omega
  by_cases h48 : (x == 48) = true
  ·simp only [str, List.map_cons, List.dropWhile, e, h48] at ih' ⊢
   exact ih'
  ·have h48' : (x == 48) = false := by simpa using h48
   simp only [str, List.map_cons, List.dropWhile, e, h48']
theorem div_pow_step (r k : Nat) : r / 10 ^ k / 10 = r / 10 ^ (k + 1) := by rw [Nat.div_div_eq_div_mul, Nat.pow_succ]
set_option maxHeartbeats 1000000 in
theorem text_any (v : Value) (n : Nat) (w : World) (h : NatIs w v n) (hl : (limbs n).length ≤ 100000) :
  Calls Tryz.prog 155 #[v] w fun e w' => e = .returned (.string ⟨(str (dec n)).toArray⟩) ∧ Below w.heap.size w w' := by
 obtain ⟨ao, cap, rfl, h1, h2, h3, h4⟩ := h.open
 have hz := zero_any _ n (w.alloc (.cells #[.slice ao (limbs n).length cap] 111)) (h.below ((Below.refl _ _).alloc (Nat.le_refl _) _))
 by_cases hn : n = 0
 ·subst hn
  have hd : decide ((0 : Nat) = 0) = true := rfl
  rw [hd] at hz
  have HZ := Lib.hid hz; clear hz hd
  go_enter Tryz.func155, Tryz.ntmps155
  go_wp2_with fail
  refine HZ.out.mono ?_
  rintro e w1 ⟨rfl, hb1⟩
  go_wp2
  go_ret
  exact ⟨rfl, ((Below.refl _ w).alloc (Nat.le_refl _) _).trans (hb1.mono (by simp <;> omega))⟩
 ·have hd : decide (n = 0) = false := by simp [hn]
  rw [hd] at hz
  have HZ := Lib.hid hz; clear hz hd
  go_enter Tryz.func155, Tryz.ntmps155
  go_wp2_with fail
  refine HZ.out.mono ?_
  rintro e w1 ⟨rfl, hb1⟩
  have hbox : w1.cell? ⟨w.heap.size, 0, none⟩ = some (.slice ao (limbs n).length cap) := by rw [(bcell hb1).1 _ _ (by simp <;> omega)]; go_simp
  have hb0 : Below w.heap.size w w1 := ((Below.refl _ w).alloc (Nat.le_refl _) _).trans (hb1.mono (by simp <;> omega))
  have hc1 := h4.below hb0
  have hs1 := hb0.size
  clear HZ
  go_wp2_with fail
  refine (clone_any ao cap (limbs n) w1 hc1 h1 (by simpa [maxLen] using h2) h3 (by omega)).mono ?_
  rintro e w2 ⟨lv, rfl, ho, hb2⟩
  rcases ho.shape with ⟨_, hnil⟩ | ⟨g, cap2, rfl, hg, hgw, hcap2, hcapm2, _, _⟩
  ·have : limbs n = [] := by simpa [ints] using hnil
   rw [limbs_eq_nil] at this
   exact absurd this hn
  rw [ints_length] at hcap2 ho ⊢
  have hmut := ho.mut
  have hlim := Lib.hid (lt_pow_limbs n)
  have hb02 : Below w.heap.size w w2 := hb0.trans (hb2.mono hs1)
  have hgB : w.heap.size ≤ g := by omega
  have hcapm3 : cap2 ≤ 9223372036854775807 := by unfold maxLen at hcapm2; omega
  clear hbox hc1 ho hb0 hb1 hb2 h4 h3 hs1 hcapm2 hg
  go_wp2
  go_loopg [3, 4] n (fun q ov lv wr => ∃ (cap : Nat) (ds : List Nat), lv = .slice (some ⟨g, 0, none⟩) (limbs q).length cap ∧ (limbs q).length ≤ cap ∧ cap ≤ 9223372036854775807 ∧ (limbs q).length ≤ 100000 ∧ Mut .u32 wr g 0 (limbs q) ∧
   Owns w2.heap.size 5 wr ov (ints .u8 (codes ds)) ∧ (∀ x ∈ ds, x < 10) ∧ ds.length ≤ 3200009 ∧ n = dval ds + 10 ^ ds.length * q ∧ Below w.heap.size w wr ∧ w2.heap.size ≤ wr.heap.size)
  case atStart => exact ⟨cap2, [], rfl, hcap2, hcapm3, hl, hmut, Owns.nil _ _ _, by simp, by simp, by simp [dval], hb02, Nat.le_refl _⟩
  case round =>
   obtain ⟨cap, ds, rfl, hcp, hcm, hll, hm, ho, hds, hdl, hval, hb, hsz⟩ := hrel
   have HV := Lib.hid hval; clear hval
   have HD := Lib.hid hds; clear hds
   rcases Nat.eq_zero_or_pos gk with rfl | hpos
   ·have e0 : (limbs 0).length = 0 := by rw [limbs_zero]; rfl
    rw [e0]
    clear hm hmut hcp hll e0
    go_wp2_with fail
    refine (reverse_any w2.heap.size _ (codes ds) wr ho (by rw [codes_length]; omega) hsz).mono ?_
    rintro e w3 ⟨rfl, ho3, hb3⟩
    obtain ⟨ao3, cap3, rfl, hcap3, hcapm3, hnil3, hc3⟩ := ho3.toInts
    have hcv := conv_string (P := Tryz.prog) Tryz.underlying214 Tryz.underlying5 Tryz.underlying9 hc3 cap3
    have hlen3 : (codes ds).reverse.length ≤ 1000000000 := by rw [List.length_reverse, codes_length]; omega
    have hfin := dec_of_digits HV.out HD.out (by omega)
    have hlt3 : ∀ x ∈ (codes ds).reverse, x < 256 := by
     intro x hx
     simp only [List.mem_reverse, codes, List.mem_map] at hx
     obtain ⟨y, hy, rfl⟩ := hx
     have := HD.out y hy
     omega
    have hfin2 : ((codes ds).reverse).dropWhile (· == 48) = dec n := by
     rw [← hfin]; simp [codes, List.map_reverse]
    have hfin3 := str_dropWhile _ hlt3
    rw [hfin2] at hfin3
    have HF := Lib.hid hfin3
    clear hfin hfin2 hfin3 hlt3
    generalize (codes ds).reverse = rs at *
    have hsl : (str rs).length ≤ 1000000000 := by simpa [str] using hlen3
    generalize hrl : rs.length = rl at *
    have HR := Lib.hid hrl; clear hrl
    go_wp2_with fail
    refine (trimLeft0_any (str rs) w3 hsl).mono ?_
    rintro e w4 ⟨rfl, rfl⟩
    go_wp2
    go_ret
    exact ⟨ret_one (congrArg (fun l : List UInt8 => Value.string ⟨l.toArray⟩) HF.out), hb.trans (hb3.mono hb02.size)⟩
   ·have hlp : 0 < (limbs gk).length := by
     cases hlg : limbs gk with
     | nil => rw [limbs_eq_nil] at hlg; omega
     | cons _ _ => simp
    obtain ⟨q, hq0⟩ : ∃ q, q = gk := ⟨_, rfl⟩
    subst hq0
    go_wp2_with fail
    have hll2 : (limbs q).length ≤ 1000000000 := by omega
    refine (less_any g 0 cap (limbs q) 1000000000 wr hm (limbs_lt _) (by decide) (by decide) hll2).mono ?_
    rintro e w3 ⟨rfl, hm3, hg3⟩
    obtain ⟨hq, hr⟩ := divL_eq (limbs q) 1000000000 (by decide)
    have hr9 := divL_rest (limbs q) 1000000000 (by decide)
    have hdlt := divL_lt (limbs q) 1000000000 (limbs_lt _) (by decide) (by decide)
    have hdln := divL_length (limbs q) 1000000000
    rw [val_limbs] at hq hr
    generalize (divL (limbs q) 1000000000).1 = ys at *
    generalize (divL (limbs q) 1000000000).2 = r at *
    have hgw3 : g < wr.heap.size := hm.lt
    have ho3 := ho.other hg3 hgw
    have hb3 := hb.trans (below_of_grown hg3 hgB hgw3)
    have hsz3 := Nat.le_trans hsz hg3.size
    have hdl2 := pow_le_bound HV.out hpos hlim.out
    have hdl3 : ds.length ≤ 3200000 := by omega
    have HQ := Lib.hid hq; clear hq
    have HR := Lib.hid hr; clear hr
    have HDN := Lib.hid hdln; clear hdln
    clear ho hb hsz hg3 hdl2 hm hmut
    go_wp2
    go_loopg [3, 5, 19] 9 (fun c ov rv cv wr => ∃ k : Nat, k + c = 9 ∧ cv = .int .i64 k ∧ rv = .int .u32 (r / 10 ^ k : Nat) ∧ Owns w2.heap.size 5 wr ov (ints .u8 (codes (ds ++ digsK k r))) ∧ Mut .u32 wr g 0 ys ∧ Below w.heap.size w wr ∧ w2.heap.size ≤ wr.heap.size)
    case atStart => exact ⟨0, rfl, rfl, by simp, by simpa [digsK] using ho3, hm3, hb3, hsz3⟩
    case round =>
     obtain ⟨k, hk, rfl, rfl, ho4, hm4, hb4, hsz4⟩ := hrel
     have hlk : (codes (ds ++ digsK k r)).length = ds.length + k := by rw [codes_length, List.length_append, digsK_length]
     have hx : r / 10 ^ k < 4294967296 := Nat.lt_of_le_of_lt (Nat.div_le_self _ _) (by omega)
     have hstep := Lib.hid (div_pow_step r k)
     by_cases hk9 : k = 9
     ·subst hk9
      rw [← HDN.out]
      have hyl : ys.length ≤ cap := by rw [HDN.out]; exact hcp
      have hyl2 : ys.length ≤ 100000 := by rw [HDN.out]; exact hll
      go_wp2_with fail
      refine (trim_any (some ⟨g, 0, none⟩) cap ys wr hm4.cells hyl (by unfold maxLen; omega) hdlt).mono ?_
      rintro e w6 ⟨rfl, hb6⟩
      obtain ⟨kk, hkk, hpre⟩ := limbs_prefix ys hdlt
      have hm6 : Mut .u32 w6 g 0 (limbs (val ys)) := by rw [hpre]; exact (hm4.below hb6 hm4.lt).take kk
      have hlv := val_limbs_length_le ys hdlt
      have ho6 := ho4.kept hb6
      have hb7 := hb4.trans (hb6.mono (Nat.le_trans hb02.size hsz4))
      have hsz6 := Nat.le_trans hsz4 hb6.size
      have hds : ∀ x ∈ ds ++ digsK 9 r, x < 10 := by
       intro x hx
       rcases List.mem_append.1 hx with h | h
       ·exact HD.out x h
       ·exact digsK_lt 9 r x h
      have hvn := dval_step HV.out
      rw [← HR.out] at hvn
      have HVN := Lib.hid hvn
      have HDS := Lib.hid hds
      clear hvn hds hpre hm4 ho4 hb4 hsz4
      rw [HQ.out] at hm6 hlv ⊢
      go_wp2
      go_roundg (q / 1000000000)
      case measure => omega
      case rel => exact ⟨_, ds ++ digsK 9 r, rfl, Nat.le_refl _, by omega, by omega, hm6, ho6, HDS.out, by rw [List.length_append, digsK_length]; omega, HVN.out, hb7, hsz6⟩
     ·have hlk2 := ints_length .u8 (codes (ds ++ digsK k r))
      have HK : Hid (digsK (k + 1) r = digsK k r ++ [r / 10 ^ k % 10]) := rfl
      generalize r / 10 ^ k = x at *
      have hk9' : k < 9 := by omega
      go_wp2_with (at_builtin; refine append1 E8 ho4 rfl rfl rfl rfl rfl (by rw [hlk2, hlk]; omega) (by rw [hlk2, hlk]; unfold maxLen; omega) hsz4 ?_; intro v' w5 ho5 hb5 hg5)
      have hon : ints .u8 (codes (ds ++ digsK (k + 1) r)) = ints .u8 (codes (ds ++ digsK k r)) ++ [.int .u8 (48 + (x : Int) % 10)] := by
       rw [HK.out, ← List.append_assoc, codes_append, ints_append]; simp [codes, ints]
      go_roundg (gk - 1)
      case measure => omega
      case rel => exact ⟨k + 1, by omega, by go_num, by rw [← hstep.out]; go_num, by rw [hon]; exact ho5, hm4.below hb5 hgw, hb4.trans (hb5.mono hb02.size), Nat.le_trans hsz4 hb5.size⟩
end Go.Proofs.YtcpfanpcdkoiaaaGreatDoor

namespace Go.Proofs
open Go.Shelf
def Tryz.lays128_ren : Go.Shelf.Ren := ⟨fun | 128 => 224 | n => n, fun | 51 => 228 | 3 => 3 | 4 => 4 | 46 => 166 | 5 => 5 | 9 => 9 | n => n, fun | n => n⟩
theorem Tryz.lays128 : Go.Proofs.Lays.n128 Tryz.prog Tryz.lays128_ren := {
 mixed := by kernel_rfl
 f128 := Tryz.func224.trans (congrArg some (by kernel_rfl))
 t3 := Tryz.underlying3
 a3 := Tryz.isAgg3
 z3 := Tryz.sizeOf3
 v3 := Tryz.zeroValue3
 t4 := Tryz.underlying4
 a4 := Tryz.isAgg4
 z4 := Tryz.sizeOf4
 v4 := Tryz.zeroValue4
 t5 := Tryz.underlying5
 a5 := Tryz.isAgg5
 z5 := Tryz.sizeOf5
 v5 := Tryz.zeroValue5
 t9 := Tryz.underlying9
 a9 := Tryz.isAgg9
 z9 := Tryz.sizeOf9
 v9 := Tryz.zeroValue9
 t46 := Tryz.underlying166
 a46 := Tryz.isAgg166
 z46 := Tryz.sizeOf166
 v46 := Tryz.zeroValue166
 t51 := Tryz.underlying228
 a51 := Tryz.isAgg228
 z51 := Tryz.sizeOf228
 v51 := Tryz.zeroValue228 }
theorem Tryz.bits_Len32 (x : Int) (w : World) (h0 : 0 ≤ x) (h1 : x ≤ 4294967295) :
  Calls Tryz.prog 224 #[.int .u32 x] w fun e w' => e = .returned (.int .i64 (Lib.bitLen x.toNat)) ∧ w' = w := Any.bits_Len32 Tryz.lays128 x w h0 h1
end Go.Proofs
namespace Go.Proofs
open Go.Shelf
def Tryz.lays125_ren : Go.Shelf.Ren := ⟨fun | 125 => 184 | 128 => 224 | 129 => 225 | n => n, fun | 46 => 166 | 3 => 3 | 51 => 228 | 53 => 93 | 4 => 4 | 5 => 5 | 9 => 9 | n => n, fun | n => n⟩
theorem Tryz.lays125 : Go.Proofs.Lays.n125 Tryz.prog Tryz.lays125_ren := {
 mixed := by kernel_rfl
 f125 := Tryz.func184.trans (congrArg some (by kernel_rfl))
 f128 := Tryz.func224.trans (congrArg some (by kernel_rfl))
 f129 := Tryz.func225.trans (congrArg some (by kernel_rfl))
 t3 := Tryz.underlying3
 a3 := Tryz.isAgg3
 z3 := Tryz.sizeOf3
 v3 := Tryz.zeroValue3
 t4 := Tryz.underlying4
 a4 := Tryz.isAgg4
 z4 := Tryz.sizeOf4
 v4 := Tryz.zeroValue4
 t5 := Tryz.underlying5
 a5 := Tryz.isAgg5
 z5 := Tryz.sizeOf5
 v5 := Tryz.zeroValue5
 t9 := Tryz.underlying9
 a9 := Tryz.isAgg9
 z9 := Tryz.sizeOf9
 v9 := Tryz.zeroValue9
 t46 := Tryz.underlying166
 a46 := Tryz.isAgg166
 z46 := Tryz.sizeOf166
 v46 := Tryz.zeroValue166
 t51 := Tryz.underlying228
 a51 := Tryz.isAgg228
 z51 := Tryz.sizeOf228
 v51 := Tryz.zeroValue228
 t53 := Tryz.underlying93
 a53 := Tryz.isAgg93
 z53 := Tryz.sizeOf93
 v53 := Tryz.zeroValue93 }
theorem Tryz.bits_Len (x : Int) (w : World) (h0 : 0 ≤ x) (h1 : x ≤ 18446744073709551615) :
  Calls Tryz.prog 184 #[.int .u64 x] w fun e w' => e = .returned (.int .i64 (Lib.bitLen x.toNat)) ∧ w' = w := Any.bits_Len Tryz.lays125 x w h0 h1
end Go.Proofs
namespace Go.Proofs
open Go.Shelf
def Tryz.lays133_ren : Go.Shelf.Ren := ⟨fun | 133 => 245 | 128 => 224 | n => n, fun | 51 => 228 | 3 => 3 | 4 => 4 | 46 => 166 | 5 => 5 | 9 => 9 | n => n, fun | n => n⟩
theorem Tryz.lays133 : Go.Proofs.Lays.n133 Tryz.prog Tryz.lays133_ren := {
 mixed := by kernel_rfl
 f128 := Tryz.func224.trans (congrArg some (by kernel_rfl))
 f133 := Tryz.func245.trans (congrArg some (by kernel_rfl))
 t3 := Tryz.underlying3
 a3 := Tryz.isAgg3
 z3 := Tryz.sizeOf3
 v3 := Tryz.zeroValue3
 t4 := Tryz.underlying4
 a4 := Tryz.isAgg4
 z4 := Tryz.sizeOf4
 v4 := Tryz.zeroValue4
 t5 := Tryz.underlying5
 a5 := Tryz.isAgg5
 z5 := Tryz.sizeOf5
 v5 := Tryz.zeroValue5
 t9 := Tryz.underlying9
 a9 := Tryz.isAgg9
 z9 := Tryz.sizeOf9
 v9 := Tryz.zeroValue9
 t46 := Tryz.underlying166
 a46 := Tryz.isAgg166
 z46 := Tryz.sizeOf166
 v46 := Tryz.zeroValue166
 t51 := Tryz.underlying228
 a51 := Tryz.isAgg228
 z51 := Tryz.sizeOf228
 v51 := Tryz.zeroValue228 }
theorem Tryz.bits_LeadingZeros32 (x : Int) (w : World) (h0 : 0 ≤ x) (h1 : x ≤ 4294967295) :
  Calls Tryz.prog 245 #[.int .u32 x] w fun e w' => e = .returned (.int .i64 (32 - (Lib.bitLen x.toNat : Int))) ∧ w' = w := Any.bits_LeadingZeros32 Tryz.lays133 x w h0 h1
end Go.Proofs
