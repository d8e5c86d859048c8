import Derived.Test.YtafmhoeammbemaaDoorValA
import Derived.Deep.DeepCutAuto
import Derived.WalkMore
import Derived.Laws.StructEq
namespace Go.Proofs.YtafmhoeammbemaaDoor
open Go.RowKit
set_option linter.unusedVariables false
set_option linter.unusedSimpArgs false
attribute [local go_sem] field_nat
/-- A cell of memory that only is read. -/
structure CellV (w : World) (b off : Nat) (v : Value) : Prop where
  cell : w.cell? ⟨b, off, none⟩ = some v
theorem CellV.kept {w w' : World} {b off : Nat} {v : Value} (h : CellV w b off v) (hb : Below w.heap.size w w') : CellV w' b off v := ⟨(hb.cell (p := ⟨b, off, none⟩) (World.block_lt_of_cell? w ⟨b, off, none⟩ h.cell)).trans h.cell⟩
theorem CellV.drew {w : World} {b off : Nat} {v : Value} (h : CellV w b off v) : CellV w.drew b off v := ⟨h.cell⟩
/-- A row of values in memory. -/
def Vals (w : World) (ao : Option Addr) (vs : List V3) : Prop := ∀ (i : Nat) (v : V3), vs[i]? = some v → ∃ b off, ao = some ⟨b, off, none⟩ ∧ CellV w b (off + i * 3) (.int .i64 v.k) ∧ CellV w b (off + i * 3 + 1) (.string ⟨v.n.toArray⟩) ∧ CellV w b (off + i * 3 + 2) (.string ⟨v.c.toArray⟩)
theorem Vals.below {w w' : World} {ao : Option Addr} {vs : List V3} (h : Vals w ao vs) (hb : Below w.heap.size w w') : Vals w' ao vs := fun i v hi => by
  obtain ⟨b, off, h1, h2, h3, h4⟩ := h i v hi
  exact ⟨b, off, h1, h2.kept hb, h3.kept hb, h4.kept hb⟩
theorem vals1 (w : World) (k : Int) (n c : List UInt8) : Vals (w.alloc (.cells #[.int .i64 k, .string ⟨n.toArray⟩, .string ⟨c.toArray⟩] 23)) (some ⟨w.heap.size, 0, none⟩) [⟨k, n, c⟩] := fun i v hi => by
  match i, hi with
  | 0, hi =>
    simp at hi; subst hi
    exact ⟨_, 0, rfl, ⟨by go_simp⟩, ⟨by go_simp⟩, ⟨by go_simp⟩⟩
theorem vals2 (w : World) (k : Int) (n c : List UInt8) (k2 : Int) (n2 c2 : List UInt8) : Vals (w.alloc (.cells #[.int .i64 k, .string ⟨n.toArray⟩, .string ⟨c.toArray⟩, .int .i64 k2, .string ⟨n2.toArray⟩, .string ⟨c2.toArray⟩] 23)) (some ⟨w.heap.size, 0, none⟩) [⟨k, n, c⟩, ⟨k2, n2, c2⟩] := fun i v hi => by
  match i, hi with
  | 0, hi =>
    simp at hi; subst hi
    exact ⟨_, 0, rfl, ⟨by go_simp⟩, ⟨by go_simp⟩, ⟨by go_simp⟩⟩
  | 1, hi =>
    simp at hi; subst hi
    exact ⟨_, 0, rfl, ⟨by go_simp⟩, ⟨by go_simp⟩, ⟨by go_simp⟩⟩
def valsRoom : Int → List V3 → Int
  | n, [] => n
  | n, v :: r => if n < 0 then n else valsRoom (roomL n [1, v.n.length, v.c.length]) r
theorem valsRoom_neg {n : Int} (h : n < 0) (vs : List V3) : valsRoom n vs = n := by
  cases vs with
  | nil => rfl
  | cons v r => unfold valsRoom; rw [if_pos h]
theorem valsRoom_drop {n : Int} {vs : List V3} {i : Nat} {v : V3} (h : vs[i]? = some v) (hn : ¬ n < 0) : valsRoom n (vs.drop i) = valsRoom (roomL n [1, v.n.length, v.c.length]) (vs.drop (i + 1)) := by
  have hi : i < vs.length := (List.getElem?_eq_some_iff.1 h).1
  rw [List.drop_eq_getElem_cons hi, (List.getElem?_eq_some_iff.1 h).2]
  rw [valsRoom, if_neg hn]
theorem roomL_range {n : Int} (ks : List Nat) (h1 : -1 ≤ n) (h2 : n ≤ 1000000000) : -1 ≤ roomL n ks ∧ roomL n ks ≤ 1000000000 := by
  induction ks generalizing n with
  | nil => exact ⟨h1, h2⟩
  | cons k ks ih =>
    unfold roomL
    split
    · omega
    · exact ih (by omega) (by omega)
def rowB (vs : List V3) : Bool := decide (vs.length ≤ 50) && decide (0 ≤ valsRoom 4000 vs)
theorem roomL_le (n : Int) (ks : List Nat) : roomL n ks ≤ n ∨ roomL n ks = -1 := by
  induction ks generalizing n with
  | nil => exact Or.inl (Int.le_refl _)
  | cons k ks ih =>
    unfold roomL
    split
    · exact Or.inr rfl
    · rcases ih (n - k) with h | h
      · exact Or.inl (by omega)
      · exact Or.inr h
theorem room_le {n : Int} {a b : Nat} (h : 0 ≤ roomL n [1, a, b]) : (a : Int) + b ≤ n := by
  unfold roomL at h
  split at h
  · omega
  · unfold roomL at h
    split at h
    · omega
    · unfold roomL at h
      split at h
      · omega
      · unfold roomL at h; omega
theorem row_le1 {k : Int} {n c : List UInt8} (h : rowB [⟨k, n, c⟩] = true) : n.length ≤ 4000 ∧ c.length ≤ 4000 := by
  unfold rowB valsRoom valsRoom at h
  simp only [Bool.and_eq_true, decide_eq_true_eq] at h
  have h2 := h.2
  rw [if_neg (by omega)] at h2
  have := room_le h2
  omega
theorem row_le2 {k : Int} {n c : List UInt8} {k2 : Int} {n2 c2 : List UInt8} (h : rowB [⟨k, n, c⟩, ⟨k2, n2, c2⟩] = true) : n.length ≤ 4000 ∧ c.length ≤ 4000 ∧ n2.length ≤ 4000 ∧ c2.length ≤ 4000 := by
  unfold rowB valsRoom valsRoom valsRoom at h
  simp only [Bool.and_eq_true, decide_eq_true_eq] at h
  have h2 := h.2
  rw [if_neg (by omega)] at h2
  by_cases h3 : roomL 4000 [1, n.length, c.length] < 0
  · rw [if_pos h3] at h2; omega
  · rw [if_neg h3] at h2
    have h4 := room_le (n := 4000) (a := n.length) (b := c.length) (by omega)
    have h5 := room_le h2
    have h6 := roomL_le 4000 [1, n.length, c.length]
    omega
theorem cells3 (w : World) (x y z : Nat) : Cells .i64 (w.alloc (.cells #[.int .i64 (x : Int), .int .i64 (y : Int), .int .i64 (z : Int)] 3)) (some ⟨w.heap.size, 0, none⟩) [x, y, z] := by
  refine .inr ⟨_, 0, rfl, by simp, fun i hi => ?_⟩
  match i, hi with
  | 0, _ => go_simp
  | 1, _ => go_simp
  | 2, _ => go_simp
theorem room_z (n z : Int) (ao : Option Addr) (cap : Nat) (ks : List Nat) (w : World) (hn : -1 ≤ n) (hn2 : n ≤ 1000000000) (hc : Cells .i64 w ao ks) (hlen : ks.length ≤ 1000000) (hz : Hid (z = roomL n ks)) :
    Calls Tryd.prog 19 #[.int .i64 n, .slice ao ks.length cap] w fun e w' => e = .returned (.int .i64 z) ∧ Below w.heap.size w w' := by
  rw [hz.out]
  refine (room_any n ao cap ks w hn hn2 hc hlen).mono ?_
  rintro e w' ⟨rfl, rfl⟩
  exact ⟨rfl, Below.refl _ _⟩
theorem room_z3 (n z : Int) (ao : Option Addr) (x y t : Nat) (w : World) (hn : -1 ≤ n) (hn2 : n ≤ 1000000000) (hc : Cells .i64 w ao [x, y, t]) (hz : Hid (z = roomL n [x, y, t])) :
    Calls Tryd.prog 19 #[.int .i64 n, .slice ao 3 3] w fun e w' => e = .returned (.int .i64 z) ∧ Below w.heap.size w w' := room_z n z ao 3 [x, y, t] w hn hn2 hc (by simp) hz
set_option maxRecDepth 100000 in
set_option maxHeartbeats 1000000 in
/-- values: what is left of the room. -/
theorem values_any (m0 : Int) (ao : Option Addr) (cap : Nat) (vs : List V3) (w : World) (hm1 : -1 ≤ m0) (hm2 : m0 ≤ 1000000000) (hv : Vals w ao vs) (hlen : vs.length ≤ 1000000) (hl : ∀ v ∈ vs, v.n.length ≤ 9223372036854775807 ∧ v.c.length ≤ 9223372036854775807) : Calls Tryd.prog 8 #[.int .i64 m0, .slice ao vs.length cap] w fun e w' => e = .returned (.int .i64 (valsRoom m0 vs)) ∧ Below w.heap.size w w' := by
  have hbf : Below w.heap.size w w := Below.refl _ _
  go_enter Tryd.func8, Tryd.ntmps8
  go_wp2_with fail
  go_loopg [0, 5] vs.length (fun gg nv iv wr => ∃ (m : Int) (i : Nat), i + gg = vs.length ∧ nv = .int .i64 m ∧ iv = .int .i64 (i : Int) ∧ -1 ≤ m ∧ m ≤ 1000000000 ∧ Hid (valsRoom m (vs.drop i) = valsRoom m0 vs) ∧ Vals wr ao vs ∧ Below w.heap.size w wr)
  case atStart => exact ⟨m0, 0, by omega, rfl, rfl, hm1, hm2, Lib.hid rfl, hv, hbf⟩
  clear hv hbf
  case round =>
    obtain ⟨m, i, hi, rfl, rfl, hq1, hq2, HR, hv, hbf⟩ := hrel
    by_cases hil : ¬ i < vs.length
    case pos =>
      have hdn : vs.drop i = [] := List.drop_eq_nil_of_le (by omega)
      have hre : m = valsRoom m0 vs := by rw [← HR.out, hdn]; rfl
      have HRE := Lib.hid hre
      have hii : ¬ ((i : Nat) : Int) < ((vs.length : Nat) : Int) := by omega
      clear hdn hre
      go_wp2_with fail
      go_ret
      exact ⟨ret_one (congrArg (Value.int .i64) (by exact HRE.out)), hbf⟩
    case neg =>
      have hil9 : i < vs.length := by omega
      have hii : ((i : Nat) : Int) < ((vs.length : Nat) : Int) := by omega
      clear hil
      by_cases hmn : m < 0
      case pos =>
        have hre : m = valsRoom m0 vs := by rw [← HR.out, valsRoom_neg hmn]
        have HRE := Lib.hid hre
        have hmg : ¬ (0 : Int) ≤ m := by omega
        clear hre
        go_wp2_with fail
        go_ret
        exact ⟨ret_one (congrArg (Value.int .i64) (by exact HRE.out)), hbf⟩
      case neg =>
        have hmg : (0 : Int) ≤ m := by omega
        obtain ⟨v, hv9⟩ : ∃ v, vs[i]? = some v := ⟨_, List.getElem?_eq_getElem hil9⟩
        have hmem : v ∈ vs := List.mem_of_getElem? hv9
        have hle := hl v hmem
        obtain ⟨hln, hlc⟩ := hle
        have hdr := valsRoom_drop hv9 hmn
        rw [hdr] at HR
        obtain ⟨b, off, rfl, h0, hbx, hby⟩ := hv i v hv9
        obtain ⟨z, hz⟩ : ∃ z, z = roomL m [1, v.n.length, v.c.length] := ⟨_, rfl⟩
        have hzr := roomL_range [1, v.n.length, v.c.length] hq1 hq2
        rw [← hz] at HR hzr
        have HZ := Lib.hid hz
        obtain ⟨hz1, hz2⟩ := hzr
        obtain ⟨vn, hvn⟩ : ∃ l, l = v.n := ⟨_, rfl⟩
        obtain ⟨vc, hvc⟩ : ∃ l, l = v.c := ⟨_, rfl⟩
        rw [← hvn] at HZ hbx hln
        rw [← hvc] at HZ hby hlc
        clear hdr hz hmem hv9 hvn hvc h0
        have hqi : (0 : Int) ≤ (i : Int) := by omega
        have ex := hbx.cell
        have ey := hby.cell
        go_wp2_with fail
        clear ex ey
        refine wp_region_seq (S := fun w' => CellV w' (b) (off + i * 3 + 1) (Value.string ⟨vn.toArray⟩) ∧ CellV w' (b) (off + i * 3 + 2) (Value.string ⟨vc.toArray⟩)) [(true, 0), (true, 1), (true, 2), (true, 3), (true, 4), (true, 5), (true, 6), (true, 7), (true, 8), (true, 9), (true, 10), (true, 11), (true, 12), (false, 13), (false, 14), (true, 15)] (by kernel_rfl) (by kernel_rfl) (by kernel_rfl) (by kernel_rfl) (by kernel_rfl) (fun d _ _ _ _ h => by cases d <;> exact h) ⟨hbx.drew, hby.drew⟩ (fun _ => ?_)
        simp only [pickOps, List.append_eq, List.cons_append, List.nil_append, List.getElem?_toArray, List.getElem?_cons_succ, List.getElem?_cons_zero]
        have hb : Below wr.heap.size wr wr.drew := (Below.refl _ _).drew
        generalize wr.drew = w1 at hb ⊢
        replace hbx := hbx.kept hb
        replace hby := hby.kept hb
        replace hv := hv.below hb
        replace hbf := hbf.trans (hb.mono hbf.size)
        clear hb
        repeat (first | (refine seq_take (v := ?_) (by rfl) ?_ ?_; rotate_left; (· intro w hSw; (try dsimp only at hSw); obtain ⟨⟨ex⟩, ⟨ey⟩⟩ := hSw; go_simp; all_goals with_reducible rfl); (try simp only [Act.put, List.setIfInBounds_toArray, List.set_cons_zero, List.set_cons_succ])) | (refine seq_leave (by rfl) ?_; (try simp only [Act.put, List.setIfInBounds_toArray, List.set_cons_zero, List.set_cons_succ])))
        refine seq_step (by rfl) (fun K hK => ?_)
        go_simp
        obtain ⟨w2, hwE⟩ : ∃ W, W = w1.alloc (.cells #[.int .i64 1, .int .i64 (vn.length : Int), .int .i64 (vc.length : Int)] 3) := ⟨_, rfl⟩
        have hb : Below w1.heap.size w1 w2 := by rw [hwE]; exact (Below.refl _ _).alloc (Nat.le_refl _) _
        have hcs : Cells .i64 w2 (some ⟨w1.heap.size, 0, none⟩) [1, vn.length, vc.length] := by rw [hwE]; exact cells3 _ 1 _ _
        rw [← hwE]
        clear hwE
        replace hbx := hbx.kept hb
        replace hby := hby.kept hb
        replace hv := hv.below hb
        replace hbf := hbf.trans (hb.mono hbf.size)
        clear hb
        first | refine hK.out _ _ ⟨hbx, hby⟩ (fun _ => ?_) | (go_wp2_with fail; refine hK.out _ _ ⟨hbx, hby⟩ (fun _ => ?_))
        clear hK K
        (try simp only [Act.put, List.setIfInBounds_toArray, List.set_cons_zero, List.set_cons_succ])
        refine seq_step (by rfl) (fun K hK => ?_)
        go_simp
        go_at_call 19
        (with_reducible refine (room_z3 m z _ 1 vn.length vc.length _ hq1 hq2 hcs HZ).mono ?_)
        rintro e w3 ⟨rfl, hb⟩
        replace hbx := hbx.kept hb
        replace hby := hby.kept hb
        replace hv := hv.below hb
        replace hbf := hbf.trans (hb.mono hbf.size)
        clear hb
        first | refine hK.out _ _ ⟨hbx, hby⟩ (fun _ => ?_) | (go_wp2_with fail; refine hK.out _ _ ⟨hbx, hby⟩ (fun _ => ?_))
        clear hK K
        (try simp only [Act.put, List.setIfInBounds_toArray, List.set_cons_zero, List.set_cons_succ])
        repeat (first | (refine seq_take (v := ?_) (by rfl) ?_ ?_; rotate_left; (· intro w hSw; (try dsimp only at hSw); obtain ⟨⟨ex⟩, ⟨ey⟩⟩ := hSw; go_simp; all_goals with_reducible rfl); (try simp only [Act.put, List.setIfInBounds_toArray, List.set_cons_zero, List.set_cons_succ])) | (refine seq_leave (by rfl) ?_; (try simp only [Act.put, List.setIfInBounds_toArray, List.set_cons_zero, List.set_cons_succ])))
        refine seq_end ?_
        go_wp2_with fail
        go_roundg (gk - 1)
        case measure => omega
        case rel => exact ⟨z, i + 1, by omega, rfl, by go_num, hz1, hz2, HR, hv, hbf⟩
set_option maxRecDepth 100000 in
set_option maxHeartbeats 1000000 in
/-- Row. -/
theorem row_b (ao : Option Addr) (cap : Nat) (vs : List V3) (b : Bool) (w : World) (hv : Vals w ao vs) (hlen : vs.length ≤ 1000000) (hl : ∀ v ∈ vs, v.n.length ≤ 9223372036854775807 ∧ v.c.length ≤ 9223372036854775807) (HB : Hid (b = rowB vs)) : Calls Tryd.prog 4 #[.slice ao vs.length cap] w fun e w' => e = .returned (.bool b) ∧ Below w.heap.size w w' := by
  obtain ⟨z, hz⟩ : ∃ z, z = valsRoom 4000 vs := ⟨_, rfl⟩
  have hva := fun W h => values_any 4000 ao cap vs W (by decide) (by decide) h hlen hl
  rw [← hz] at hva
  have HZ := Lib.hid hz
  clear hz
  by_cases h50 : vs.length ≤ 50
  · have h5i : ((vs.length : Nat) : Int) ≤ 50 := by omega
    have HB2 : Hid (b = decide (0 ≤ z)) := Lib.hid (by rw [HB.out, HZ.out]; unfold rowB; rw [decide_eq_true h50]; rfl)
    go_enter Tryd.func4, Tryd.ntmps4
    go_wp2_with fail
    refine (hva _ hv).mono ?_
    rintro e w' ⟨rfl, hb⟩
    clear hva
    go_wp2_with fail
    go_ret
    exact ⟨ret_one (by rw [HB2.out]; rfl), hb⟩
  · have h5i : ¬ ((vs.length : Nat) : Int) ≤ 50 := by omega
    have HB2 : Hid (b = false) := Lib.hid (by rw [HB.out]; unfold rowB; rw [decide_eq_false h50]; rfl)
    clear hva
    go_enter Tryd.func4, Tryd.ntmps4
    go_wp2_with fail
    go_ret
    exact ⟨ret_one (by rw [HB2.out]; rfl), Below.refl _ _⟩
theorem row_b1 (ao : Option Addr) (v : V3) (b : Bool) (w : World) (hv : Vals w ao [v]) (hl : v.n.length ≤ 9223372036854775807 ∧ v.c.length ≤ 9223372036854775807) (HB : Hid (b = rowB [v])) : Calls Tryd.prog 4 #[.slice ao 1 1] w fun e w' => e = .returned (.bool b) ∧ Below w.heap.size w w' :=
  row_b ao 1 [v] b w hv (by simp) (fun u hu => by simp at hu; subst hu; exact hl) HB
theorem row_b2 (ao : Option Addr) (v u : V3) (b : Bool) (w : World) (hv : Vals w ao [v, u]) (hl : v.n.length ≤ 9223372036854775807 ∧ v.c.length ≤ 9223372036854775807) (hl2 : u.n.length ≤ 9223372036854775807 ∧ u.c.length ≤ 9223372036854775807) (HB : Hid (b = rowB [v, u])) : Calls Tryd.prog 4 #[.slice ao 2 2] w fun e w' => e = .returned (.bool b) ∧ Below w.heap.size w w' :=
  row_b ao 2 [v, u] b w hv (by simp) (fun x hx => by simp at hx; rcases hx with rfl | rfl; exact hl; exact hl2) HB
theorem v_15 : vpk [49, 46, 53] = 1 ∧ vpn [49, 46, 53] = [51, 47, 50] ∧ vpcat [49, 46, 53] = [] ∧ vpc [49, 46, 53] = 0 := by
  have h1 : qcode [49, 46, 53] = 3 := by unfold qcode; rw [if_pos (by decide)]
  have h2 : litCode [49, 46, 53] = 0 := by decide
  have h3 : litVal [49, 46, 53] = qOf false 3 2 := by
    rw [litVal_of h2, show expOf [49, 46, 53] = -1 by decide, show dnum (lall [49, 46, 53]) = 15 by decide, show sneg [49, 46, 53] = false by decide]
    decide
  have h4 : qtext (qOf false 3 2) = [51, 47, 50] := by
    unfold qtext
    rw [show decide (qOf false 3 2 < 0) = false by decide, show (qOf false 3 2).num.natAbs = 3 by decide, show (qOf false 3 2).den = 2 by decide, str3, str2]; rfl
  unfold vpk vpn vpcat vpc
  rw [h1, h2, h3, h4]
  exact ⟨rfl, rfl, rfl, rfl⟩
theorem v_32 : vtext 1 [51, 47, 50] [] = [51, 47, 50] := by
  have h4 : qtext (qOf false 3 2) = [51, 47, 50] := by
    unfold qtext
    rw [show decide (qOf false 3 2 < 0) = false by decide, show (qOf false 3 2).num.natAbs = 3 by decide, show (qOf false 3 2).den = 2 by decide, str3, str2]; rfl
  have h5 := (qparse_text (qOf false 3 2) (dec_small (by decide)) (dec_small (by decide))).1
  rw [h4] at h5
  unfold vtext vvalid vnum
  rw [h5]
  rfl
end Go.Proofs.YtafmhoeammbemaaDoor
