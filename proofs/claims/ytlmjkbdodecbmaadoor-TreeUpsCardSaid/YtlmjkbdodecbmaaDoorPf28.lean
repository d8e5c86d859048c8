/-
  Pf28: LawTg LawTw (what is needed of them).
-/
import Derived.Test.YtlmjkbdodecbmaaDoorPf11
import Derived.Test.YtlmjkbdodecbmaaDoorPf20
import Derived.Test.YtlmjkbdodecbmaaDoorPf27

namespace Go.Proofs.YtlmjkbdodecbmaaDoor
open Go.RowKit Go.Shelf
set_option linter.unusedVariables false
set_option linter.unusedSimpArgs false
theorem fields_t (ao : Option Addr) (cap : Nat) (xs : List FV) (b9 : Bool) (w : World) (hv : Hid (Flds w ao xs)) (hlen : Hid (xs.length ≤ 9223372036854775807)) (hl : Hid (∀ x ∈ xs, BigF x.f)) (HB : Hid (b9 = fieldsB (xs.map (·.f)))) : Calls Tryd.prog 15 #[.slice ao xs.length cap] w fun e w' => e = .returned (.bool b9) ∧ Below w.heap.size w w' := fieldsBk_any ao cap xs b9 w hv.out hlen.out hl.out HB
theorem tvalid_h (t : TR) (no : Option Addr) (nc : Nat) (B : Nat) (ao : Option Addr) (cap : Nat) (xs : List FV) (b : Bool) (w : World) (hT : Hid (TrIs B w t no nc)) (hBw : B ≤ w.heap.size) (hsz : Hid (t.nodes.length + (t.nodes.map fun x => x.kids.length).sum ≤ 1500)) (hsm : Hid (∀ x ∈ t.nodes, SmN x)) (hf : Hid (Flds w ao xs)) (hxl : Hid (xs.length ≤ 1000000)) (HB : Hid (b = validT (xs.map (·.f)) t)) :
    Calls Tryd.prog 16 #[.agg #[.slice no t.nodes.length nc, .int .i64 t.ms, .int .i64 t.nt], .slice ao xs.length cap] w fun e w' => e = .returned (.bool b) ∧ Below w.heap.size w w' := tvalid_any t no nc B ao cap xs b w hT.out hBw hsz.out hsm hf hxl.out HB
theorem tup_h (t : TR) (n z : Int) (no : Option Addr) (nc : Nat) (B : Nat) (w : World) (hT : Hid (TrIs B w t no nc)) (hBw : Hid (B ≤ w.heap.size)) (hsz : Hid (t.nodes.length + (t.nodes.map fun x => x.kids.length).sum ≤ 1500)) (HZ : Hid (z = upV t n)) :
    Calls Tryd.prog 20 #[.agg #[.slice no t.nodes.length nc, .int .i64 t.ms, .int .i64 t.nt], .int .i64 n] w fun e w' => e = .returned (.int .i64 z) ∧ Below w.heap.size w w' := tup_any t n z no nc B w hT.out hBw.out hsz.out HZ
end Go.Proofs.YtlmjkbdodecbmaaDoor

namespace Go.Proofs.YtlmjkbdodecbmaaDoor
open Go.RowKit Go.Shelf
set_option linter.unusedVariables false
set_option linter.unusedSimpArgs false
attribute [local go_sem] field_nat
theorem eq_seqnil2 (w : World) (b : Nat) : (binOp .eql 44 (.func (.func twalkF) #[] #[.pointer (some ⟨b, 0, none⟩)]) .nilFunc).run Tryd.prog w = .ok (.bool false) w := by kernel_rfl
theorem OwnsK.at99 {base : Nat} {e : TypeId} {w : World} {lo : Option Addr} {n lc : Nat} {xs : List Value} (h : OwnsK 1 base e w (.slice lo n lc) n xs) (hn : 0 < n) : ∃ g, lo = some ⟨g, 0, none⟩ ∧ base ≤ g ∧ g < w.heap.size ∧ ∀ i x, xs[i]? = some x → w.cell? ⟨g, i, none⟩ = some x := by
  rcases h.shape with ⟨h4, h5⟩ | ⟨g, cap', e1, h6, h7, -⟩
  · omega
  · cases e1
    exact ⟨g, rfl, h6, h7, fun i x hi => h.cellAt hi⟩
theorem cutL_zero {α : Type} (L : List α) : cutL 0 L = L := by unfold cutL; rw [if_neg (by omega)]
theorem deepL_take {L : List (Nat × Nat)} {i : Nat} {x : Nat × Nat} (h : L[i]? = some x) : deepL (L.take (i + 1)) = max (deepL (L.take i)) x.2 := by
  rw [List.take_add_one, h]
  exact deepL_snoc _ _
set_option maxRecDepth 100000 in
set_option maxHeartbeats 8000000 in
/-- TreeUps. -/
theorem treeUps_main (t : TR) (no : Option Addr) (nc : Nat) (ao : Option Addr) (cap : Nat) (xs : List FV) (w : World) (hT0 : TrIs w.heap.size w t no nc) (hF0 : Flds w ao xs) (hxl : xs.length ≤ 9223372036854775807) (hbig : ∀ x ∈ xs, BigF x.f) :
    Calls Tryd.prog 4 #[.agg #[.slice no t.nodes.length nc, .int .i64 t.ms, .int .i64 t.nt], .slice ao xs.length cap] w fun e w' => e = .returned (.bool true) ∧ Below w.heap.size w w' := by
  obtain ⟨B, hB⟩ : ∃ B, B = w.heap.size := ⟨_, rfl⟩
  rw [← hB] at hT0
  obtain ⟨tb, htb⟩ : ∃ b, b = treeB t := ⟨_, rfl⟩
  obtain ⟨fb, hfb⟩ : ∃ b, b = fieldsB (xs.map (·.f)) := ⟨_, rfl⟩
  obtain ⟨vb, hvb⟩ : ∃ b, b = validT (xs.map (·.f)) t := ⟨_, rfl⟩
  have HTB := Lib.hid htb
  have HFB := Lib.hid hfb
  have HVB := Lib.hid hvb
  obtain ⟨w0, hw0, hbf, hz0, px, hpx, hbx⟩ := boxT w no t.nodes.length nc t.ms t.nt
  have hT := hT0.low (Low.of_below hbf (by omega))
  have hBw : B ≤ w0.heap.size := by omega
  have HF : Hid (Flds w0 ao xs) := Lib.hid (hF0.below hbf)
  have HXL := Lib.hid hxl
  have HBIG := Lib.hid hbig
  have HW := Lib.hid hw0
  have HB0 := Lib.hid hB
  have HPX : Hid (w.heap.size ≤ px) := Lib.hid (by omega)
  clear hw0 hz0 htb hfb hvb hT0 hF0 hxl hbig
  go_enter Tryd.func4, Tryd.ntmps4
  go_upto_region 1 with fail
  rw [← HW.out, ← hpx]
  clear hpx HW hB
  have e0 := hbx.cell 0 _ rfl
  have e1 := hbx.cell 1 _ rfl
  have e2 := hbx.cell 2 _ rfl
  go_wp2_with fail
  (with_reducible refine (bTree_any t tb no nc B _ hT hBw HTB).mono ?_)
  rintro e w1 ⟨rfl, hb⟩
  try clear e0 e1 e2
  replace hbx := hbx.kept hb
  replace hT := hT.low (Low.of_below hb hBw)
  replace hBw := Nat.le_trans hBw hb.size
  replace HF : Hid (Flds _ ao xs) := Lib.hid (HF.out.below hb)
  replace hbf := hbf.trans (hb.mono hbf.size)
  clear hb
  cases tb
  case false =>
    go_wp2_with fail
    refine (alive14_any _).mono ?_
    rintro e w9 ⟨rfl, hb⟩
    go_wp2_with fail
    go_ret
    exact ⟨ret_one rfl, hbf.trans (hb.mono hbf.size)⟩
  case true =>
  have hSZ := treeB_le HTB.out.symm
  have HSZ := Lib.hid hSZ.1
  have HSM := Lib.hid hSZ.2
  clear HTB hSZ
  go_wp2_with fail
  (with_reducible refine (fields_t ao cap xs fb _ HF HXL HBIG HFB).mono ?_)
  rintro e w2 ⟨rfl, hb⟩
  try clear e0 e1 e2
  replace hbx := hbx.kept hb
  replace hT := hT.low (Low.of_below hb hBw)
  replace hBw := Nat.le_trans hBw hb.size
  replace HF : Hid (Flds _ ao xs) := Lib.hid (HF.out.below hb)
  replace hbf := hbf.trans (hb.mono hbf.size)
  clear hb
  cases fb
  case false =>
    go_wp2_with fail
    refine (alive14_any _).mono ?_
    rintro e w9 ⟨rfl, hb⟩
    go_wp2_with fail
    go_ret
    exact ⟨ret_one rfl, hbf.trans (hb.mono hbf.size)⟩
  case true =>
  have HXM : Hid (xs.length ≤ 1000000) := Lib.hid (by have := (fieldsB_le HFB.out.symm).1; rw [List.length_map] at this; omega)
  clear HFB HXL HBIG
  have e0 := hbx.cell 0 _ rfl
  have e1 := hbx.cell 1 _ rfl
  have e2 := hbx.cell 2 _ rfl
  go_wp2_with fail
  (with_reducible refine (tvalid_h t no nc B ao cap xs vb _ (Lib.hid hT) hBw HSZ HSM HF HXM HVB).mono ?_)
  rintro e w3 ⟨rfl, hb⟩
  try clear e0 e1 e2
  replace hbx := hbx.kept hb
  replace hT := hT.low (Low.of_below hb hBw)
  replace hBw := Nat.le_trans hBw hb.size
  replace HF : Hid (Flds _ ao xs) := Lib.hid (HF.out.below hb)
  replace hbf := hbf.trans (hb.mono hbf.size)
  clear hb
  cases vb
  case false =>
    go_wp2_with fail
    refine (alive14_any _).mono ?_
    rintro e w9 ⟨rfl, hb⟩
    go_wp2_with fail
    go_ret
    exact ⟨ret_one rfl, hbf.trans (hb.mono hbf.size)⟩
  case true =>
  go_wp2_with fail
  refine (alive14_any _).mono ?_
  rintro e w4 ⟨rfl, hb⟩
  try clear e0 e1 e2
  replace hbx := hbx.kept hb
  replace hT := hT.low (Low.of_below hb hBw)
  replace hBw := Nat.le_trans hBw hb.size
  replace HF : Hid (Flds _ ao xs) := Lib.hid (HF.out.below hb)
  replace hbf := hbf.trans (hb.mono hbf.size)
  clear hb
  clear HF HXM HSM
  have e0 := hbx.cell 0 _ rfl
  have e1 := hbx.cell 1 _ rfl
  have e2 := hbx.cell 2 _ rfl
  go_wp2_with fail
  (with_reducible refine (treeWalk_any no t.nodes.length nc t.ms t.nt _).mono ?_)
  rintro e w5 ⟨rfl, hw5⟩
  have hb : Below w4.heap.size w4 w5 := by rw [hw5]; exact (Below.refl _ w4).alloc (Nat.le_refl _) _
  obtain ⟨pw, hpw⟩ : ∃ q, q = w4.heap.size := ⟨_, rfl⟩
  have hbw : BoxL w5 pw [.slice no t.nodes.length nc, .int .i64 t.ms, .int .i64 t.nt] := by rw [hw5, hpw]; exact BoxL.new w4 _ _
  have hzw : w5.heap.size = w4.heap.size + 1 := by rw [hw5]; simp
  rw [← hpw]
  clear e0 e1 e2
  replace hbx := hbx.kept hb
  replace hT := hT.low (Low.of_below hb hBw)
  replace hBw := Nat.le_trans hBw hb.size
  replace hbf := hbf.trans (hb.mono hbf.size)
  have hpw5 : pw < w5.heap.size := by omega
  have hcall := walked_any (walkT t) 0 B pw w5 (twalk1_iter B t no nc pw w5 hT hBw hpw5 HSZ.out hbw) hBw hpw5 (by
    have hv := HVB.out.symm
    rw [walkT_len (validT_out hv).2.2.1]
    have := HSZ.out
    unfold TR.N
    omega)
  rw [cutL_zero] at hcall
  have hLN : (walkT t).length = t.nodes.length := walkT_len (validT_out HVB.out.symm).2.2.1
  obtain ⟨N, hN⟩ : ∃ N, N = t.nodes.length := ⟨_, rfl⟩
  obtain ⟨L, hL⟩ : ∃ L, L = walkT t := ⟨_, rfl⟩
  have HUP : Hid (∀ x ∈ L, climbV t 40 (x.1 : Int) 1 = (0, x.2)) := Lib.hid (by rw [hL]; exact fun x hx => ups_law HVB.out.symm hx)
  have HDL : Hid (∀ i, deepL (L.take i) ≤ 3000) := Lib.hid (by
    intro i
    have h9 : ∀ x ∈ L.take i, x.2 ≤ 40 := fun x hx => by
      have h1 := deepT_le (t := t) (x := x) (by rw [← hL]; exact List.mem_of_mem_take hx)
      have := (validT_out HVB.out.symm).2.2.2
      omega
    have h8 : ∀ (l : List (Nat × Nat)) (m : Nat), m ≤ 40 → (∀ x ∈ l, x.2 ≤ 40) → l.foldl (fun m x => max m x.2) m ≤ 40 := by
      intro l
      induction l with
      | nil => intro m hm _; exact hm
      | cons a l ih =>
        intro m hm hl
        rw [List.foldl_cons]
        exact ih _ (by have := hl a (by simp); omega) (fun x hx => hl x (by simp [hx]))
    have := h8 (L.take i) 0 (by omega) h9
    unfold deepL
    omega)
  have HDT : Hid (deepT t = deepL L) := Lib.hid (by rw [hL]; rfl)
  rw [← hL, ← hN] at hLN
  rw [← hL] at hcall
  have HN := Lib.hid hN
  have HLN := Lib.hid hLN
  clear hb hw5 hpw hbw hzw hL hLN hN HVB hpw5
  have hsn := eq_seqnil2 w5 pw
  go_wp2_with fail
  refine hcall.mono ?_
  rintro e w6 hq
  obtain ⟨lo, n, lc, dno, dc, rfl, HNN, hOl, hOd, hb⟩ := hq
  obtain rfl : n = N := by rw [HNN.out, HLN.out]
  clear hcall hsn HNN
  obtain ⟨D1, hD1⟩ : ∃ D, D = w5.heap.size := ⟨_, rfl⟩
  rw [← hD1] at hOl hOd
  replace hbx := hbx.kept hb
  replace hT := hT.low (Low.of_below hb hBw)
  replace hBw := Nat.le_trans hBw hb.size
  replace hbf := hbf.trans (hb.mono hbf.size)
  have hn1 : n ≤ 1500 := by rw [HN.out]; have := HSZ.out; omega
  clear hb hD1
  rw [← HN.out] at hbx ⊢
  have e0 := hbx.cell 0 _ rfl
  go_wp2_with fail
  clear e0
  rw [HN.out] at hbx
  go_loopg [8, 9] n (fun gg mv iv wr => ∃ (i m : Nat), i + gg = n ∧ mv = .int .i64 (m : Int) ∧ iv = .int .i64 (i : Int) ∧ Hid (m = deepL (L.take i)) ∧ OwnsK 1 D1 3 wr (.slice lo n lc) n (icel (fstI L)) ∧ OwnsK 1 D1 3 wr (.slice dno n dc) n (icel (sndI L)) ∧ BoxL wr px [.slice no t.nodes.length nc, .int .i64 t.ms, .int .i64 t.nt] ∧ Hid (TrIs B wr t no nc) ∧ Hid (B ≤ wr.heap.size) ∧ Below w.heap.size w wr)
  case atStart => exact ⟨0, 0, by omega, rfl, rfl, Lib.hid rfl, hOl, hOd, hbx, Lib.hid hT, Lib.hid hBw, hbf⟩
  clear hOl hOd hbx hT hBw hbf
  case round =>
    obtain ⟨i, m, hi, rfl, rfl, HM, hOl, hOd, hbx, HT, HBw, hbf⟩ := hrel
    by_cases hil : i < n
    case pos =>
      have hii : ((i : Nat) : Int) < ((n : Nat) : Int) := by omega
      have hqi : (0 : Int) ≤ (i : Int) := by omega
      obtain ⟨x, hx9⟩ : ∃ x, L[i]? = some x := ⟨_, List.getElem?_eq_getElem (by rw [HLN.out]; exact hil)⟩
      obtain ⟨g, hlo, hg1, hg2, hc⟩ := hOl.at99 (by omega)
      have cl := hc i (.int .i64 (x.1 : Int)) (icel_get (by unfold fstI; rw [List.getElem?_map, hx9]; rfl))
      have HX := Lib.hid hx9
      have HCL := HUP.out x (List.mem_of_getElem? hx9)
      have HDX := HDL.out (i + 1)
      rw [deepL_take hx9, ← HM.out] at HDX
      have HDX2 := Lib.hid HDX
      rw [hlo]
      have HLO := Lib.hid hlo
      clear hlo hc hx9 HDX hg1 hg2
      have hx40 : x.2 ≤ 3000 := by have := HDX2.out; omega
      go_wp2_with fail
      clear cl
      rw [← HLO.out]
      obtain ⟨go, hgo⟩ : ∃ go, go = gk := ⟨_, rfl⟩; subst hgo
      obtain ⟨w7, hw7⟩ : ∃ W, W = wr := ⟨_, rfl⟩; subst hw7
      go_loopg [10, 11, 12] 40 (fun gg nv sv kv wr => ∃ (k s : Nat) (y : Int), k + gg = 40 ∧ nv = .int .i64 y ∧ sv = .int .i64 (s : Int) ∧ kv = .int .i64 (k : Int) ∧ s ≤ k + 1 ∧ Hid (climbV t gg y s = (0, x.2)) ∧ OwnsK 1 D1 3 wr (.slice lo n lc) n (icel (fstI L)) ∧ OwnsK 1 D1 3 wr (.slice dno n dc) n (icel (sndI L)) ∧ BoxL wr px [.slice no t.nodes.length nc, .int .i64 t.ms, .int .i64 t.nt] ∧ Hid (TrIs B wr t no nc) ∧ Hid (B ≤ wr.heap.size) ∧ Below w.heap.size w wr)
      case atStart => exact ⟨0, 1, (x.1 : Int), by omega, rfl, rfl, rfl, by omega, Lib.hid HCL, hOl, hOd, hbx, HT, HBw, hbf⟩
      clear hOl hOd hbx HT HBw hbf HCL
      case round =>
        obtain ⟨k, s, y, hk, rfl, rfl, rfl, hsk, HC, hOl, hOd, hbx, HT, HBw, hbf⟩ := hrel
        by_cases hkl : k < 40
        case pos =>
          obtain ⟨g1, rfl⟩ : ∃ g1, gk = g1 + 1 := ⟨gk - 1, by omega⟩
          have hkk : ((k : Nat) : Int) < 40 := by omega
          obtain ⟨z, hz⟩ : ∃ z, z = upV t y := ⟨_, rfl⟩
          have HZ := Lib.hid hz
          have e0 := hbx.cell 0 _ rfl
          have e1 := hbx.cell 1 _ rfl
          have e2 := hbx.cell 2 _ rfl
          clear hz
          go_wp2_with fail
          (with_reducible refine (tup_h t y z no nc B _ HT HBw HSZ HZ).mono ?_)
          rintro e w8 ⟨rfl, hb⟩
          clear e0 e1 e2
          replace hbx := hbx.kept hb
          replace HT : Hid (TrIs B w8 t no nc) := Lib.hid (HT.out.low (Low.of_below hb HBw.out))
          replace HBw : Hid (B ≤ w8.heap.size) := Lib.hid (Nat.le_trans HBw.out hb.size)
          replace hOl := hOl.kept hb
          replace hOd := hOd.kept hb
          replace hbf := hbf.trans (hb.mono hbf.size)
          clear hb
          by_cases hz0 : 0 ≤ z
          · have HC2 : Hid (climbV t g1 z (s + 1) = (0, x.2)) := Lib.hid (by
              have h9 := HC.out
              rw [climbV, show upW t y = z from HZ.out.symm, if_pos hz0] at h9
              exact h9)
            have e0 := hbx.cell 0 _ rfl
            have e1 := hbx.cell 1 _ rfl
            have e2 := hbx.cell 2 _ rfl
            go_wp2_with fail
            (with_reducible refine (tup_h t y z no nc B _ HT HBw HSZ HZ).mono ?_)
            rintro e w9 ⟨rfl, hb⟩
            clear e0 e1 e2
            replace hbx := hbx.kept hb
            replace HT : Hid (TrIs B w9 t no nc) := Lib.hid (HT.out.low (Low.of_below hb HBw.out))
            replace HBw : Hid (B ≤ w9.heap.size) := Lib.hid (Nat.le_trans HBw.out hb.size)
            replace hOl := hOl.kept hb
            replace hOd := hOd.kept hb
            replace hbf := hbf.trans (hb.mono hbf.size)
            clear hb
            go_wp2_with fail
            go_roundg g1
            case measure => omega
            case rel => exact ⟨k + 1, s + 1, z, by omega, rfl, by go_num, by go_num, by omega, HC2, hOl, hOd, hbx, HT, HBw, hbf⟩
          · have HC2 : Hid (y = 0 ∧ s = x.2) := Lib.hid (by
              have h9 := HC.out
              rw [climbV, show upW t y = z from HZ.out.symm, if_neg hz0] at h9
              cases h9
              exact ⟨rfl, rfl⟩)
            obtain ⟨rfl, hsx⟩ := HC2.out
            obtain ⟨g, hdo, hg1, hg2, hc⟩ := hOd.at99 (by omega)
            have cd := hc i (.int .i64 (x.2 : Int)) (icel_get (by unfold sndI; rw [List.getElem?_map, HX.out]; rfl))
            have hsx2 : (((s : Nat) : Int) != ((x.2 : Nat) : Int)) = false := by rw [bne_eq_false_iff_eq, hsx]
            rw [hdo]
            have HDO := Lib.hid hdo
            clear hdo hc hg1 hg2
            go_wp2_with fail
            clear cd
            rw [← HDO.out]
            go_roundg (go - 1)
            case measure => omega
            case rel => exact ⟨i + 1, max m x.2, by omega, congrArg (Value.int .i64) (show max ((m : Nat) : Int) ((x.2 : Nat) : Int) = ((max m x.2 : Nat) : Int) by omega), by go_num, Lib.hid (by rw [deepL_take HX.out, ← HM.out]), hOl, hOd, hbx, HT, HBw, hbf⟩
        case neg =>
          have hkk : ¬ ((k : Nat) : Int) < 40 := by omega
          obtain rfl : gk = 0 := by omega
          have HC2 : Hid (y = 0 ∧ s = x.2) := Lib.hid (by
            have h9 := HC.out
            rw [climbV] at h9
            cases h9
            exact ⟨rfl, rfl⟩)
          obtain ⟨rfl, hsx⟩ := HC2.out
          obtain ⟨g, hdo, hg1, hg2, hc⟩ := hOd.at99 (by omega)
          have cd := hc i (.int .i64 (x.2 : Int)) (icel_get (by unfold sndI; rw [List.getElem?_map, HX.out]; rfl))
          have hsx2 : (((s : Nat) : Int) != ((x.2 : Nat) : Int)) = false := by rw [bne_eq_false_iff_eq, hsx]
          rw [hdo]
          have HDO := Lib.hid hdo
          clear hdo hc hg1 hg2
          go_wp2_with fail
          clear cd
          rw [← HDO.out]
          go_roundg (go - 1)
          case measure => omega
          case rel => exact ⟨i + 1, max m x.2, by omega, congrArg (Value.int .i64) (show max ((m : Nat) : Int) ((x.2 : Nat) : Int) = ((max m x.2 : Nat) : Int) by omega), by go_num, Lib.hid (by rw [deepL_take HX.out, ← HM.out]), hOl, hOd, hbx, HT, HBw, hbf⟩
    case neg =>
    have hii : ¬ ((i : Nat) : Int) < ((n : Nat) : Int) := by omega
    have HME : Hid (m = deepT t) := Lib.hid (by rw [HM.out, HDT.out, List.take_of_length_le (by rw [HLN.out]; omega)])
    have e0 := hbx.cell 0 _ rfl
    have e1 := hbx.cell 1 _ rfl
    have e2 := hbx.cell 2 _ rfl
    go_wp2_with fail
    (with_reducible refine (tdepth_h t m no nc B _ HT HBw.out HSZ HME).mono ?_)
    rintro e w8 ⟨rfl, hb⟩
    go_wp2_with fail
    go_ret
    exact ⟨ret_one rfl, hbf.trans (hb.mono hbf.size)⟩
theorem treeUps_walk (v u : Value) (w : World) (h : TreeIn w v) (hs : FldsIn w u) :
    Calls Tryd.prog 4 #[v, u] w fun e w' => e = .returned (.bool true) ∧ Below w.heap.size w w' := by
  obtain ⟨t, no, nc, rfl, hT⟩ := h
  obtain ⟨ao, cap, xs, rfl, hF, h1, h2, h3⟩ := hs
  unfold maxLen at h2
  exact treeUps_main t no nc ao cap xs w hT hF (by omega) h3
end Go.Proofs.YtlmjkbdodecbmaaDoor
