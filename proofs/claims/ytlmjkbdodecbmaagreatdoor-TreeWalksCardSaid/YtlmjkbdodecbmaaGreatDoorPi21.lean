/-
  Pi21: TreC (what is needed of them).
-/
import Derived.Test.YtlmjkbdodecbmaaGreatDoorPi20

namespace Go.Proofs.YtlmjkbdodecbmaaGreatDoor
open Go.RowKit
set_option linter.unusedVariables false
set_option linter.unusedSimpArgs false
attribute [local go_sem] field_nat
theorem upK_bad {N : Nat} {i k : Int} {ks up : List Int} (h : k < 1 ∨ (N : Int) ≤ k ∨ 0 ≤ up[k.toNat]?.getD 0) : upK N i (k :: ks) up = none := by rw [upK, if_pos h]
theorem upK_good {N : Nat} {i k : Int} {ks up : List Int} (h : ¬ (k < 1 ∨ (N : Int) ≤ k ∨ 0 ≤ up[k.toNat]?.getD 0)) : upK N i (k :: ks) up = upK N i ks (up.set k.toNat i) := by rw [upK, if_neg h]
theorem set_rep (n i : Nat) (hi : i < n) : (List.replicate i (-1 : Int) ++ List.replicate (n - i) 0).set i (-1) = List.replicate (i + 1) (-1) ++ List.replicate (n - (i + 1)) 0 := by
  apply List.ext_getElem?
  intro j
  by_cases hj : j = i
  · subst hj
    rw [List.getElem?_set_self (by simp; omega), List.getElem?_append_left (by simp), List.getElem?_replicate, if_pos (by omega)]
  · rw [List.getElem?_set_ne (by omega)]
    rcases Nat.lt_or_ge j i with h | h
    · rw [List.getElem?_append_left (by simp; omega), List.getElem?_append_left (by simp; omega), List.getElem?_replicate, List.getElem?_replicate, if_pos h, if_pos (by omega)]
    · rw [List.getElem?_append_right (by simp; omega), List.getElem?_append_right (by simp; omega), List.getElem?_replicate, List.getElem?_replicate]
      simp only [List.length_replicate]
      by_cases h2 : j - i < n - i
      · rw [if_pos h2, if_pos (by omega)]
      · rw [if_neg h2, if_neg (by omega)]
theorem kids_sum {ns : List TN} {i : Nat} {x : TN} (h : ns[i]? = some x) : x.kids.length ≤ (ns.map fun x => x.kids.length).sum := by
  have hm := List.mem_of_getElem? h
  clear h
  induction ns with
  | nil => cases hm
  | cons y r ih =>
    rw [List.map_cons, List.sum_cons]
    rcases List.mem_cons.1 hm with rfl | hm
    · omega
    · have := ih hm; omega
/-- What shape answers. -/
def ShP (t : TR) (b : Bool) (w : World) (e : Ending) (w' : World) : Prop := ∃ v, e = .returned (.tuple #[v, .bool b]) ∧ Below w.heap.size w w' ∧ (b = true → ∃ ao cap up, v = .slice ao up.length cap ∧ upT t = some up ∧ IntsB w'.heap.size w' ao cap up)
theorem ShP.no {t : TR} {w w' : World} {e : Ending} {v : Value} (h1 : e = .returned (.tuple #[v, .bool false])) (h2 : Below w.heap.size w w') : ShP t false w e w' := ⟨v, h1, h2, fun h => by cases h⟩
theorem ShP.yes {t : TR} {w w' : World} {e : Ending} {g : Nat} {up : List Int} {b : Bool} (h1 : e = .returned (.tuple #[.slice (some ⟨g, 0, none⟩) up.length up.length, .bool b])) (h2 : Below w.heap.size w w') (h3 : upT t = some up) (h4 : BoxL w' g (icel up)) (h5 : up.length ≤ maxLen) : ShP t b w e w' :=
  ⟨_, h1, h2, fun _ => ⟨_, _, up, rfl, h3, ⟨⟨Nat.le_refl _, h5⟩, (by intro h; cases h), fun i n hi => ⟨g, 0, rfl, h4.lt, by rw [Nat.zero_add]; exact h4.cell i _ (icel_get hi)⟩⟩⟩⟩
/-- The heap of nodes to be seen: its state. -/
def StW (t : TR) (L : List (Nat × Nat)) (N : Nat) (vis st : List (Nat × Nat)) (f : Nat) : Prop := WInv (kidsB t) N vis st ∧ L = vis ++ dfs (kidsB t) f st ∧ N < vis.length + f
theorem StW.step {t : TR} {L : List (Nat × Nat)} {N : Nat} {vis st : List (Nat × Nat)} {f : Nat} {x : Nat × Nat} (ho : OnceF (kidsB t) N) (h : StW t L N vis (x :: st) f) : ∃ f', f = f' + 1 ∧ StW t L N (vis ++ [x]) ((kidsB t x.1).map (fun k => (k, x.2 + 1)) ++ st) f' := by
  obtain ⟨h1, h2, h3⟩ := h
  have hl := h1.len
  rw [List.length_cons] at hl
  obtain ⟨f', rfl⟩ : ∃ f', f = f' + 1 := ⟨f - 1, by omega⟩
  rw [dfs] at h2
  refine ⟨f', rfl, h1.step ho, ?_, ?_⟩
  · rw [h2]; simp
  · rw [List.length_append, List.length_singleton]; omega
/-- Its cells, the one on top last. -/
def stIs (st : List (Nat × Nat)) : List Int := (st.map fun x => (x.1 : Int)).reverse
theorem stIs_cons (x : Nat × Nat) (st : List (Nat × Nat)) : stIs (x :: st) = stIs st ++ [(x.1 : Int)] := by unfold stIs; simp
theorem stIs_kids {t : TR} {n : TN} {x d : Nat} {st : List (Nat × Nat)} (hn : t.nodes[x]? = some n) (hp : ∀ k ∈ n.kids, 1 ≤ k) : stIs ((kidsB t x).map (fun k => (k, d)) ++ st) = stIs st ++ n.kids := by
  unfold stIs kidsB kidsT
  rw [hn]
  simp only [List.map_append, List.map_map, List.reverse_append]
  congr 1
  rw [List.map_reverse, List.reverse_reverse, List.map_map]
  conv => rhs; rw [← List.map_id n.kids]
  apply List.map_congr_left
  intro k hk
  have := hp k hk
  simp only [Function.comp, id]
  omega
set_option maxRecDepth 100000 in
set_option maxHeartbeats 8000000 in
/-- shape. -/
theorem tshape_any (t : TR) (b : Bool) (no : Option Addr) (nc : Nat) (B : Nat) (w : World) (hT : TrIs B w t no nc) (hBw : B ≤ w.heap.size) (hK : t.nodes.length + (t.nodes.map fun x => x.kids.length).sum ≤ 1500) (HB : Hid (b = shapeB t)) :
    Calls Tryz.prog 39 #[.agg #[.slice no t.nodes.length nc, .int .i64 t.ms, .int .i64 t.nt]] w (ShP t b w) := by
  obtain ⟨w0, hw0, hbf, hz0, px, hpx, hbx⟩ := boxT w no t.nodes.length nc t.ms t.nt
  replace hT := hT.low (Low.of_below hbf hBw)
  have HPX : Hid (w.heap.size ≤ px ∧ px < w0.heap.size) := Lib.hid (by omega)
  have HW := Lib.hid hw0
  have e0 := hbx.cell 0 _ rfl
  obtain ⟨N, hN⟩ : ∃ N, N = t.nodes.length := ⟨_, rfl⟩
  have hNl : N ≤ 1500 := by omega
  have hkk : ∀ (i : Nat) (x : TN), t.nodes[i]? = some x → x.kids.length ≤ 1500 := fun i x h => by have := kids_sum h; omega
  have HKK := Lib.hid hkk
  clear hw0 hz0 hkk hK
  go_enter Tryz.func39, Tryz.ntmps39
  go_upto_region 1 with fail
  rw [← HW.out, ← hpx]
  clear hpx HW
  rw [← hN] at e0 hbx ⊢
  have HN := Lib.hid hN
  clear hN
  go_wp2_with (at_make; refine makeT E_intT (n := N) rfl rfl rfl rfl (by omega) (by unfold maxLen; omega) ?_; intro w4 hO4 hb4)
  rw [made_ints] at hO4
  have hbu := BoxL.of_owns hO4
  obtain ⟨pu, hpu⟩ : ∃ p, p = w0.heap.size := ⟨_, rfl⟩
  rw [← hpu] at hbu
  try rw [← hpu]
  have HPU : Hid (w.heap.size ≤ pu ∧ B ≤ pu ∧ px ≠ pu) := Lib.hid (by have := HPX.out; have := hbf.size; omega)
  replace hbx := hbx.kept hb4
  replace hT := hT.low (Low.of_below hb4 (Nat.le_trans hBw hbf.size))
  replace hbf := hbf.trans (hb4.mono hbf.size)
  clear hO4 hb4 hpu e0
  have hbu0 : BoxL w4 pu (icel (List.replicate 0 (-1) ++ List.replicate (N - 0) 0)) := by simpa using hbu
  clear hbu
  go_loopg [19] N (fun gg iv wr => ∃ (i : Nat), i + gg = N ∧ iv = .int .i64 (i : Int) ∧ BoxL wr pu (icel (List.replicate i (-1) ++ List.replicate (N - i) 0)) ∧ BoxL wr px [.slice no N nc, .int .i64 t.ms, .int .i64 t.nt] ∧ TrIs B wr t no nc ∧ Below w.heap.size w wr)
  case atStart => exact ⟨0, by omega, rfl, hbu0, hbx, hT, hbf⟩
  clear hbx hT hbf hbu0
  case round =>
    obtain ⟨i, hi, rfl, hbu, hbx, hT, hbf⟩ := hrel
    by_cases hil : i < N
    case pos =>
      have hii : ((i : Nat) : Int) < ((N : Nat) : Int) := by omega
      have hqi : (0 : Int) ≤ (i : Int) := by omega
      have ei := hbu.cell i (.int .i64 0) (icel_get (by rw [List.getElem?_append_right (by simp), List.getElem?_replicate]; simp; omega))
      have fi := hbu.free i (by rw [icel_len]; simp; omega)
      go_wp2_with fail
      clear ei fi
      go_roundg (gk - 1)
      case measure => omega
      case rel =>
        refine ⟨i + 1, by omega, by go_num, ?_, hbx.setOther HPU.out.2.2 _ _, hT.low (fun k hk => heap_set_ne (by have := HPU.out; omega)), hbf.setCell (p := ⟨pu, i, none⟩) HPU.out.1 _⟩
        have := hbu.set i (.int .i64 (-1)) (by rw [icel_len]; simp; omega)
        rw [icel_set, set_rep N i hil] at this
        exact this
    case neg =>
    have hii : ¬ ((i : Nat) : Int) < ((N : Nat) : Int) := by omega
    have hie : N = i := by omega
    subst hie
    rw [Nat.sub_self, List.replicate_zero, List.append_nil] at hbu
    have e0 := hbx.cell 0 _ rfl
    have HU : Hid (upN N ((0 : Nat) : Int) (t.nodes.drop 0) (List.replicate N (-1)) = upT t) := Lib.hid (by unfold upT TR.N; rw [← HN.out]; rfl)
    go_wp2_with fail
    clear e0 hii hi hil
    obtain ⟨w5, hw5⟩ : ∃ W, W = wr := ⟨_, rfl⟩; subst hw5
    go_loopg [29] N (fun gg iv wr => ∃ (i : Nat) (up : List Int), i + gg = N ∧ iv = .int .i64 (i : Int) ∧ up.length = N ∧ Hid (upN N (i : Int) (t.nodes.drop i) up = upT t) ∧ BoxL wr pu (icel up) ∧ BoxL wr px [.slice no N nc, .int .i64 t.ms, .int .i64 t.nt] ∧ TrIs B wr t no nc ∧ Below w.heap.size w wr)
    case atStart => exact ⟨0, List.replicate N (-1), by omega, rfl, by simp, HU, hbu, hbx, hT, hbf⟩
    clear hbx hT hbf hbu HU
    case round =>
      obtain ⟨i, up, hi, rfl, hul, HU, hbu, hbx, hT, hbf⟩ := hrel
      have HUL := Lib.hid hul
      by_cases hil : i < N
      case pos =>
        have hii : ((i : Nat) : Int) < ((N : Nat) : Int) := by omega
        have hqi : (0 : Int) ≤ (i : Int) := by omega
        obtain ⟨x, hx9⟩ : ∃ k, t.nodes[i]? = some k := ⟨_, List.getElem?_eq_getElem (by have := HN.out; omega)⟩
        have hkl := HKK.out i x hx9
        have hdr : t.nodes.drop i = x :: t.nodes.drop (i + 1) := by rw [List.drop_eq_getElem_cons (by have := HN.out; omega), (List.getElem?_eq_some_iff.1 hx9).2]
        rw [hdr, upN] at HU
        obtain ⟨nb, noff, l, hno, hbB, hNI, hnd⟩ := hT.at_ i x hx9
        subst hno
        obtain ⟨c0, c1, c2, c3, c4, c5, c6, c7⟩ := hnd
        obtain ⟨w1, hwE, hb0, hz1, pv, hpE, hbv⟩ := boxN wr x l
        have HPV : Hid (pv ≠ pu ∧ w.heap.size ≤ pv) := Lib.hid (by have := hbu.lt; have := hbf.size; omega)
        have HW := Lib.hid hwE
        clear hwE hul hx9 hdr hz1
        go_upto_region 10 with fail
        rw [← HW.out, ← hpE]
        clear HW hpE c0 c1 c2 c3 c4 c5 c6 c7
        have hBwr : B ≤ wr.heap.size := by have := HPU.out; have := hbu.lt; omega
        have hKI := hNI.k.low (Low.of_below hb0 hBwr)
        replace hbu := hbu.kept hb0
        replace hbx := hbx.kept hb0
        replace hT := hT.low (Low.of_below hb0 hBwr)
        replace hbf := hbf.trans (hb0.mono hbf.size)
        have e6 := hbv.cell 6 _ rfl
        clear hb0 hNI
        have HUI : Hid ((upK N (i : Int) (x.kids.drop 0) up).bind (upN N ((i : Int) + 1) (t.nodes.drop (i + 1))) = upT t) := HU
        clear HU
        go_wp2_with fail
        clear e6
        obtain ⟨go, hgo⟩ : ∃ go, go = gk := ⟨_, rfl⟩; subst hgo
        obtain ⟨w6, hw6⟩ : ∃ W, W = w1 := ⟨_, rfl⟩; subst hw6
        go_loopg [37] x.kids.length (fun gg jv wr => ∃ (j : Nat) (up : List Int), j + gg = x.kids.length ∧ jv = .int .i64 (j : Int) ∧ up.length = N ∧ Hid ((upK N (i : Int) (x.kids.drop j) up).bind (upN N ((i : Int) + 1) (t.nodes.drop (i + 1))) = upT t) ∧ BoxL wr pu (icel up) ∧ BoxL wr px [.slice (some ⟨nb, noff, none⟩) N nc, .int .i64 t.ms, .int .i64 t.nt] ∧ TrIs B wr t (some ⟨nb, noff, none⟩) nc ∧ IntsB B wr l.io l.ic x.kids ∧ Below w.heap.size w wr)
        case atStart => exact ⟨0, up, by omega, rfl, HUL.out, HUI, hbu, hbx, hT, hKI, hbf⟩
        clear hbx hT hbf hbu HUI hKI hbv
        case round =>
          obtain ⟨j, up2, hj, rfl, hul2, HU, hbu, hbx, hT, hKI, hbf⟩ := hrel
          by_cases hjl : j < x.kids.length
          case pos =>
            have hjj : ((j : Nat) : Int) < ((x.kids.length : Nat) : Int) := by omega
            have hqj : (0 : Int) ≤ (j : Int) := by omega
            obtain ⟨k, hk9⟩ : ∃ k, x.kids[j]? = some k := ⟨_, List.getElem?_eq_getElem hjl⟩
            have hdr : x.kids.drop j = k :: x.kids.drop (j + 1) := by rw [List.drop_eq_getElem_cons hjl, (List.getElem?_eq_some_iff.1 hk9).2]
            rw [hdr] at HU
            obtain ⟨kb, koff, hko, hkB, ck⟩ := hKI.at_ j k hk9
            rw [hko]
            clear hdr hk9
            by_cases hbad : k < 1 ∨ (N : Int) ≤ k
            · have HB2 : Hid (b = false) := Lib.hid (by rw [HB.out]; unfold shapeB; rw [← HU.out, upK_bad (by omega)]; rfl)
              rcases (show k < 1 ∨ (¬ k < 1 ∧ (N : Int) ≤ k) by omega) with hb1 | ⟨hb1, hb2⟩
              · clear hbad hul2
                go_wp2_with fail
                go_ret2
                rw [HB2.out]
                exact ShP.no rfl hbf
              · clear hbad hul2
                go_wp2_with fail
                go_ret2
                rw [HB2.out]
                exact ShP.no rfl hbf
            · have hb1 : ¬ k < 1 := by omega
              have hb2 : ¬ (N : Int) ≤ k := by omega
              obtain ⟨kn, rfl⟩ : ∃ n : Nat, k = (n : Int) := ⟨k.toNat, by omega⟩
              have hqk : (0 : Int) ≤ (kn : Int) := by omega
              have hkn : (kn : Int) < (N : Int) := by omega
              obtain ⟨u, hu9⟩ : ∃ u, up2[kn]? = some u := ⟨_, List.getElem?_eq_getElem (by omega)⟩
              have eu := hbu.cell kn _ (icel_get hu9)
              have fu := hbu.free kn (by rw [icel_len]; omega)
              by_cases hu : 0 ≤ u
              · have HB2 : Hid (b = false) := Lib.hid (by rw [HB.out]; unfold shapeB; rw [← HU.out, upK_bad (.inr (.inr (by rw [Int.toNat_natCast, hu9]; exact hu)))]; rfl)
                clear hbad hul2 fu
                go_wp2_with fail
                go_ret2
                rw [HB2.out]
                exact ShP.no rfl hbf
              · have HU2 : Hid ((upK N (i : Int) (x.kids.drop (j + 1)) (up2.set kn (i : Int))).bind (upN N ((i : Int) + 1) (t.nodes.drop (i + 1))) = upT t) := Lib.hid (by
                  rw [← HU.out, upK_good (by rw [Int.toNat_natCast, hu9]; simp only [Option.getD_some]; omega), Int.toNat_natCast])
                have HUL2 := Lib.hid hul2
                clear hbad hul2 hu9
                go_wp2_with fail
                clear eu fu ck
                rw [← hko]
                go_roundg (gk - 1)
                case measure => omega
                case rel =>
                  refine ⟨j + 1, up2.set kn (i : Int), by omega, by go_num, by rw [List.length_set]; exact HUL2.out, HU2, ?_, hbx.setOther HPU.out.2.2 _ _, hT.low (fun k hk => heap_set_ne (by have := HPU.out; omega)), (hKI.low (fun k hk => heap_set_ne (by have := HPU.out; omega))), hbf.setCell (p := ⟨pu, kn, none⟩) HPU.out.1 _⟩
                  have := hbu.set kn (.int .i64 (i : Int)) (by rw [icel_len, HUL2.out]; omega)
                  rw [icel_set] at this
                  exact this
          case neg =>
            have hjj : ¬ ((j : Nat) : Int) < ((x.kids.length : Nat) : Int) := by omega
            have HU3 : Hid (upN N (((i + 1 : Nat)) : Int) (t.nodes.drop (i + 1)) up2 = upT t) := Lib.hid (by
              rw [← HU.out, List.drop_eq_nil_of_le (show x.kids.length ≤ j by omega), upK]; rfl)
            go_wp2_with fail
            go_roundg (go - 1)
            case measure => omega
            case rel => exact ⟨i + 1, up2, by omega, by go_num, hul2, HU3, hbu, hbx, hT, hbf⟩
      case neg =>
      have hii : ¬ ((i : Nat) : Int) < ((N : Nat) : Int) := by omega
      have hup : upT t = some up := by rw [← HU.out, List.drop_eq_nil_of_le (by have := HN.out; omega), upN]
      have HUP := Lib.hid hup
      have hio : t.N = N := by unfold TR.N; exact HN.out.symm
      have hsh : shapeB t = (decide (0 < N) && decide ((dfsAll (kidsB t) N).length = N)) := by unfold shapeB; rw [hup, hio]
      obtain ⟨L, hLL⟩ : ∃ L, L = dfsAll (kidsB t) N := ⟨_, rfl⟩
      rw [← hLL] at hsh
      have HSH := Lib.hid hsh
      have HLL := Lib.hid hLL
      have HON : Hid (OnceT t up) := Lib.hid (upT_once hup)
      have HOF : Hid (OnceF (kidsB t) N) := Lib.hid (by rw [← hio]; exact (upT_once hup).f.rev)
      clear hup hsh hLL hio HU hi
      by_cases hN0 : N = 0
      case pos =>
        subst hN0
        have HB2 : Hid (b = false) := Lib.hid (by rw [HB.out, HSH.out]; rfl)
        rw [hul] at *
        go_wp2_with fail
        go_loopg [10, 11] 0 (fun gg sv tv wr => sv = .int .i64 0 ∧ tv = .slice (some ⟨pu, 0, none⟩) 0 0 ∧ Below w.heap.size w wr)
        case atStart => exact ⟨rfl, rfl, hbf⟩
        case round =>
          obtain ⟨rfl, rfl, hbf⟩ := hrel
          go_wp2_with fail
          go_ret2
          rw [HB2.out]
          exact ShP.no rfl hbf
      case neg =>
      have hN1 : (0 : Int) < ((N : Nat) : Int) := by omega
      have hNN : ¬ ((N : Nat) : Int) ≤ 0 := by omega
      obtain ⟨w7, hw7⟩ : ∃ W, W = wr.alloc (.cells #[.int .i64 0] 3) := ⟨_, rfl⟩
      have HPL : Hid (pu < wr.heap.size ∧ px < wr.heap.size) := Lib.hid ⟨hbu.lt, hbx.lt⟩
      have hb7 : Below wr.heap.size wr w7 := by rw [hw7]; exact (Below.refl _ _).alloc (Nat.le_refl _) _
      have c70 : w7.cell? ⟨wr.heap.size, 0, none⟩ = some (.int .i64 0) := by rw [hw7]; go_simp
      have HW := Lib.hid hw7
      clear hw7
      go_wp2_with (at_builtin; rw [← HW.out]; refine appendEN E_intT (base := w7.heap.size) (news := [.int .i64 0]) (by decide) rfl rfl rfl rfl rfl (fun j u hj => by rw [Addr.add_lit, Nat.zero_add]; cases j with | zero => cases hj; exact c70 | succ j => simp at hj) (by simp [Value.oneCell']) (by decide) (by decide) (Nat.le_refl _) ?_; intro v8 w8 hO8 hb8; obtain ⟨so8, sc8, rfl, -, -, -⟩ := hO8.slice)
      replace hbu := hbu.kept (hb7.trans (hb8.mono hb7.size))
      replace hbx := hbx.kept (hb7.trans (hb8.mono hb7.size))
      have hBwr : B ≤ wr.heap.size := by have := HPU.out; have := hbf.size; omega
      replace hT := hT.low (Low.of_below (hb7.trans (hb8.mono hb7.size)) hBwr)
      have HD : Hid (pu < w7.heap.size ∧ px < w7.heap.size ∧ B ≤ w7.heap.size ∧ w.heap.size ≤ w7.heap.size ∧ w7.heap.size ≤ w8.heap.size) := Lib.hid ⟨by have := HPL.out; have := hb7.size; omega, by have := HPL.out; have := hb7.size; omega, by have := hb7.size; omega, by have := hbf.size; have := hb7.size; omega, hb8.size⟩
      replace hbf := hbf.trans ((hb7.trans (hb8.mono hb7.size)).mono hbf.size)
      have hst0 : StW t L N [] [(0, 1)] (N + 1) := ⟨WInv.start (by omega), by rw [HLL.out]; rfl, by simp⟩
      have HST0 := Lib.hid hst0
      obtain ⟨D, hDD⟩ : ∃ D, D = w7.heap.size := ⟨_, rfl⟩
      rw [← hDD] at HD hO8
      clear hst0 hDD hb7 hb8 c70 HW hBwr HPL
      (try go_wp2_with fail)
      obtain ⟨w5, hw5⟩ : ∃ W, W = w8 := ⟨_, rfl⟩; subst hw5
      go_loopg [10, 11] (N + 1) (fun gg sv tv wr => ∃ (vis st : List (Nat × Nat)) (qo : Option Addr) (qn qc : Nat), sv = .int .i64 (vis.length : Int) ∧ tv = .slice qo qn qc ∧ OwnsK 1 D 3 wr (.slice qo qn qc) st.length (icel (stIs st)) ∧ Hid (StW t L N vis st gg) ∧ vis.length + st.length ≤ N ∧ BoxL wr pu (icel up) ∧ BoxL wr px [.slice no N nc, .int .i64 t.ms, .int .i64 t.nt] ∧ TrIs B wr t no nc ∧ Below w.heap.size w wr ∧ D ≤ wr.heap.size)
      case atStart => exact ⟨[], [(0, 1)], so8, 1, sc8, rfl, rfl, hO8, HST0, (by simp; omega), hbu, hbx, hT, hbf, HD.out.2.2.2.2⟩
      clear hbu hbx hT hbf HST0 hO8
      case round =>
        obtain ⟨vis, st, qo, qn, qc, rfl, rfl, hO, HS, hvl, hbu, hbx, hT, hbf, hDw⟩ := hrel
        cases st with
        | nil =>
          obtain ⟨uo, uc, hue, -, -, -⟩ := hO.slice
          cases hue
          have hLv : L = vis := by
            have := HS.out.2.1
            rw [this]
            cases gk with
            | zero => rw [dfs, List.append_nil]
            | succ n => rw [dfs, List.append_nil]
          have hsh2 : shapeB t = decide (vis.length = N) := by rw [HSH.out, hLv, decide_eq_true (by omega)]; rfl
          have HB2 : Hid (b = decide (vis.length = N)) := Lib.hid (by rw [HB.out, hsh2])
          clear hLv hsh2 hO HS
          by_cases hv : vis.length = N
          · have HB3 : Hid (b = true) := Lib.hid (by rw [HB2.out, decide_eq_true hv])
            have hvg : (0 : Int) < ((vis.length : Nat) : Int) := by omega
            have hvb : (((vis.length : Nat) : Int) == ((N : Nat) : Int)) = true := by rw [beq_iff_eq]; omega
            clear hv
            go_wp2_with fail
            go_ret2
            rw [HB3.out]
            exact ShP.yes (by rw [HUL.out]; rfl) hbf HUP.out hbu (by rw [HUL.out]; unfold maxLen; omega)
          · have HB3 : Hid (b = false) := Lib.hid (by rw [HB2.out, decide_eq_false hv])
            have hvb : (((vis.length : Nat) : Int) == ((N : Nat) : Int)) = false := by rw [beq_eq_false_iff_ne]; omega
            clear hv
            by_cases hv0 : (0 : Int) < ((vis.length : Nat) : Int)
            · go_wp2_with fail
              go_ret2
              rw [HB3.out]
              exact ShP.no rfl hbf
            · go_wp2_with fail
              go_ret2
              rw [HB3.out]
              exact ShP.no rfl hbf
        | cons x st =>
          rw [List.length_cons] at hO hvl
          obtain ⟨f', hf', hSt⟩ := HS.out.step HOF.out
          have hxN := HS.out.1.lt x (by simp)
          have hlen9 := hSt.1.len
          obtain ⟨y, hy9⟩ : ∃ k, t.nodes[x.1]? = some k := ⟨_, List.getElem?_eq_getElem (by have := HN.out; omega)⟩
          have hyk : ∀ k ∈ y.kids, (1 : Int) ≤ k := fun k hk => (HON.out.val x.1 y hy9 k hk).1
          rw [stIs_cons, icel_app] at hO
          have HSI := Lib.hid (stIs_kids (t := t) (d := x.2 + 1) (st := st) hy9 hyk)
          have hkl := HKK.out x.1 y hy9
          obtain ⟨nb, noff, l, hno, hbB, hNI, hnd⟩ := hT.at_ x.1 y hy9
          subst hno
          obtain ⟨g, hqo, hgD, hgw⟩ : ∃ g, qo = some ⟨g, 0, none⟩ ∧ D ≤ g ∧ g < wr.heap.size := by
            rcases hO.shape with ⟨h1, h2⟩ | ⟨g, cap', e1, h3, h4, _⟩
            · omega
            · cases e1; exact ⟨g, rfl, h3, h4⟩
          subst hqo
          obtain ⟨uo, uc, hue, hcap, hcm, -⟩ := hO.slice
          cases hue
          unfold maxLen at hcm
          have hq4 : ((st.length : Nat) : Int) ≤ ((qc : Nat) : Int) := by omega
          have hq5 : (0 : Int) ≤ ((st.length : Nat) : Int) := by omega
          have hwr : IntKind.i64.wrap ((st.length : Nat) : Int) = ((st.length : Nat) : Int) := by rw [IntKind.wrap_i64]; omega
          have HKI := Lib.hid hNI.k
          have HST := Lib.hid hSt
          have et : wr.cell? ⟨g, st.length, none⟩ = some (.int .i64 (x.1 : Int)) := hO.cellAt (by rw [List.getElem?_append_right (by rw [icel_len]; unfold stIs; simp)]; rw [icel_len]; unfold stIs icel; simp)
          have hOp := hO.pop (r := icel (stIs st)) (by rw [icel_len]; unfold stIs; simp) ⟨_, rfl⟩
          have hq1 : (0 : Int) < ((st.length : Nat) : Int) + 1 := by omega
          have hq2 : ((x.1 : Nat) : Int) < ((N : Nat) : Int) := by omega
          have hq3 : (0 : Int) ≤ ((x.1 : Nat) : Int) := by omega
          have hlen8 : vis.length + 1 + (y.kids.length + st.length) ≤ N := by
            rw [List.length_append, List.length_singleton, List.length_append, List.length_map] at hlen9
            have e9 : (kidsB t x.1).length = y.kids.length := by unfold kidsB kidsT; rw [hy9]; simp
            omega
          clear hO HS hSt hy9 hyk hNI hlen9 hxN
          go_upto_region 24 with fail
          clear et
          refine wp_region_seq (S := fun w' => BoxL w' px [.slice (some ⟨nb, noff, none⟩) N nc, .int .i64 t.ms, .int .i64 t.nt] ∧ ndAt w' nb (noff + x.1 * 8) y l) [(true, 0), (true, 1), (true, 2), (true, 3), (true, 4), (true, 5), (true, 6), (true, 7), (true, 8), (true, 9), (true, 10), (false, 11), (true, 12)] (by kernel_rfl) (by kernel_rfl) (by kernel_rfl) (by kernel_rfl) (by kernel_rfl) (fun d _ _ _ _ h => by cases d <;> exact h) ⟨hbx.drew, hnd.drew⟩ (fun _ => ?_)
          simp only [pickOps, List.append_eq, List.cons_append, List.nil_append, List.getElem?_toArray, List.getElem?_cons_succ, List.getElem?_cons_zero]
          have hb : Below wr.heap.size wr wr.drew := (Below.refl _ _).drew
          have hsz9 : wr.drew.heap.size = wr.heap.size := rfl
          generalize wr.drew = wd at hb hsz9 ⊢
          have hBw9 : B ≤ wr.heap.size := by have := HD.out; omega
          replace hbx := hbx.kept hb
          replace hbu := hbu.kept hb
          replace hnd := hnd.kept hb
          replace hT := hT.low (Low.of_below hb hBw9)
          replace HKI := Lib.hid (HKI.out.low (Low.of_below hb hBw9))
          replace hOp := hOp.kept hb
          replace hbf := hbf.trans (hb.mono hbf.size)
          clear hb
          repeat (first | (refine seq_take (v := ?_) (by rfl) ?_ ?_; rotate_left; (· intro w hSw; (try dsimp only at hSw); obtain ⟨hL, hN⟩ := hSw; have e0 := hL.cell 0 _ rfl; have c6 := hN.c6; clear hL hN; go_simp; all_goals with_reducible rfl); (try simp only [Act.put, List.setIfInBounds_toArray, List.set_cons_zero, List.set_cons_succ])) | (refine seq_leave (by rfl) ?_; (try simp only [Act.put, List.setIfInBounds_toArray, List.set_cons_zero, List.set_cons_succ])))
          refine seq_step (by rfl) (fun K hK => ?_)
          refine step_appendT E_intT hOp rfl rfl rfl (news := icel y.kids) (by rw [icel_len]; simp) ?_ (icel_one _) (by omega) (by unfold maxLen; omega) (by omega) ?_
          · rcases hio : l.io with _ | ad
            · have h0 := HKI.out.no hio
              have h1 := HKI.out.cap.1
              exact .inl ⟨rfl, by omega, h0⟩
            · refine .inr ⟨ad, rfl, fun j u hj => ?_⟩
              obtain ⟨n9, hn9, rfl⟩ := icel_inv hj
              obtain ⟨b9, off9, e9, hb9, hc9⟩ := HKI.out.at_ j n9 hn9
              rw [hio] at e9
              cases e9
              rw [Addr.add_lit]
              exact hc9
          intro v9 w9 hO9 hg9 hn9
          obtain ⟨so9, sc9, rfl, -, -, -⟩ := hO9.slice
          have hgp : g ≠ pu ∧ g ≠ px := by have := HD.out; omega
          have hne : ∀ k, k ≠ g → k < wd.heap.size → w9.heap[k]? = wd.heap[k]? := fun k hk hl => hg9.block k hl (fun e => hk (by simpa [Value.ownBlock] using e))
          replace hbx := hbx.block (hne px hgp.2.symm hbx.lt)
          replace hbu := hbu.block (hne pu hgp.1.symm hbu.lt)
          replace hnd := hnd.block (hne nb (by have := HD.out; omega) hnd.lt)
          replace hT := hT.low (fun k hk => hne k (by have := HD.out; omega) (by omega))
          replace hbf := hbf.trans ⟨hg9.os, hg9.tape, hg9.output, hg9.size, fun k hk => hne k (by have := HD.out; omega) (Nat.lt_of_lt_of_le hk hbf.size)⟩
          have hDw9 : D ≤ w9.heap.size := by have := hg9.size; omega
          rw [← icel_app, ← HSI.out] at hO9
          have HO9 := Lib.hid hO9
          have HHN := Lib.hid hn9
          clear hO9 hn9 hg9 hne hOp HKI hgw
          refine hK.out _ _ ⟨hbx, hnd⟩ (fun _ => ?_)
          clear hK K
          (try simp only [Act.put, List.setIfInBounds_toArray, List.set_cons_zero, List.set_cons_succ])
          repeat (first | (refine seq_take (v := ?_) (by rfl) ?_ ?_; rotate_left; (· intro w hSw; (try dsimp only at hSw); obtain ⟨hL, hN⟩ := hSw; have e0 := hL.cell 0 _ rfl; have c6 := hN.c6; clear hL hN; go_simp; all_goals with_reducible rfl); (try simp only [Act.put, List.setIfInBounds_toArray, List.set_cons_zero, List.set_cons_succ])) | (refine seq_leave (by rfl) ?_; (try simp only [Act.put, List.setIfInBounds_toArray, List.set_cons_zero, List.set_cons_succ])))
          refine seq_end ?_
          go_wp2_with fail
          have hfin : (List.map (fun k => (k, x.2 + 1)) (kidsB t x.1) ++ st).length = st.length + y.kids.length := by
            have := congrArg List.length HSI.out
            unfold stIs at this
            simp at this
            rw [List.length_append, List.length_map]
            omega
          go_roundg f'
          case measure => omega
          case rel => exact ⟨vis ++ [x], _, so9, _, sc9, by rw [List.length_append, List.length_singleton]; go_num, rfl, by rw [hfin]; exact HO9.out, HST, by rw [hfin, List.length_append, List.length_singleton]; omega, hbu, hbx, hT, hbf, hDw9⟩
end Go.Proofs.YtlmjkbdodecbmaaGreatDoor
