/-
  Pk20: OnxR (what is needed of them).
-/
import Derived.Test.YtcpfanpcdkoiaaaGreatPk18
import Derived.Test.YtcpfanpcdkoiaaaGreatPk19
import Derived.Laws.StructEq
set_option maxRecDepth 100000
set_option linter.unusedVariables false
set_option linter.unusedSimpArgs false

namespace Go.Proofs.YtcpfanpcdkoiaaaGreat
open Go.RowKit


def OwnI (w : World) (g : Nat) (ns : List Int) : Prop := Owns g 3 w (.slice (some ⟨g, 0, none⟩) ns.length ns.length) (ivals .i64 ns)
theorem OwnI.cell {w : World} {g : Nat} {ns : List Int} (h : OwnI w g ns) {i : Nat} {x : Int} (hi : ns[i]? = some x) : w.cell? ⟨g, i, none⟩ = some (.int .i64 x) := by
 rcases h.shape with ⟨h0, _⟩ | ⟨g', cap, e, h2, h3, h4, h5, h6, h7⟩
 ·cases h0
 ·have hl := (List.getElem?_eq_some_iff.1 hi).1
  have e2 : g' = g := by simp at e; exact e.1.symm
  subst e2
  rw [h6 i (by rw [ivals_length]; exact hl), ivals_get hl, hi]; rfl
theorem OwnI.free {w : World} {g : Nat} {ns : List Int} (h : OwnI w g ns) (j : Nat) : w.frozen? ⟨g, j, none⟩ = false := by
 rcases h.shape with ⟨h0, _⟩ | ⟨g', cap, e, h2, h3, h4, h5, h6, h7⟩
 ·cases h0
 ·have e2 : g' = g := by simp at e; exact e.1.symm
  subst e2
  exact h7 j
theorem OwnI.lt {w : World} {g : Nat} {ns : List Int} (h : OwnI w g ns) : g < w.heap.size := by
 rcases h.shape with ⟨h0, _⟩ | ⟨g', cap, e, h2, h3, h4, h5, h6, h7⟩
 ·cases h0
 ·have e2 : g' = g := by simp at e; exact e.1.symm
  subst e2
  exact h3
theorem OwnI.set {w : World} {g : Nat} {ns : List Int} (h : OwnI w g ns) (j : Nat) (x : Int) : OwnI (w.setCell ⟨g, j, none⟩ (.int .i64 x)) g (ns.set j x) := by
 have h2 := Owns.stored h (by rw [ivals_length]) j (.int .i64 x)
 unfold OwnI
 rw [List.length_set, show ivals .i64 (ns.set j x) = (ivals .i64 ns).set j (.int .i64 x) from by simp [ivals, List.map_set]]
 exact h2
theorem OwnI.kept {w w' : World} {g : Nat} {ns : List Int} (h : OwnI w g ns) (hb : Below w.heap.size w w') : OwnI w' g ns := Owns.kept h hb
theorem OwnI.ints {w : World} {g : Nat} {ns : List Int} (h : OwnI w g ns) : IntsI .i64 w (.slice (some ⟨g, 0, none⟩) ns.length ns.length) ns := (ints_of_owns (B := g) h).1
def Rng (n : Nat) (up : List Int) : Prop := ∀ x ∈ up, x = -1 ∨ (0 ≤ x ∧ x < (n : Int))
theorem Rng.set {n : Nat} {up : List Int} (h : Rng n up) (j k : Nat) (hk : k < n) : Rng n (up.set j (k : Int)) := by
 intro x hx
 rcases List.mem_or_eq_of_mem_set hx with h1 | h1
 ·exact h x h1
 ·subst h1; exact .inr ⟨by omega, by omega⟩
theorem Rng.at {n : Nat} {up : List Int} (h : Rng n up) {j : Nat} {x : Int} (hj : up[j]? = some x) : x = -1 ∨ (0 ≤ x ∧ x < (n : Int)) := h x (List.mem_of_getElem? hj)
theorem up1_set {n i : Nat} (h : i < n) : (List.replicate i (-1 : Int) ++ List.replicate (n - i) 0).set i (-1) = List.replicate (i + 1) (-1 : Int) ++ List.replicate (n - (i + 1)) 0 := by
 rw [List.set_append]
 simp only [List.length_replicate, Nat.lt_irrefl, if_false, Nat.sub_self]
 rw [show n - i = (n - (i + 1)) + 1 by omega, List.replicate_succ (n := n - (i + 1)), List.set_cons_zero, List.replicate_succ' (n := i), List.append_assoc]
 rfl
theorem up1_get {n i : Nat} (h : i < n) : (List.replicate i (-1 : Int) ++ List.replicate (n - i) 0)[i]? = some 0 := by
 rw [List.getElem?_append_right (by simp), List.length_replicate, Nat.sub_self, List.getElem?_replicate, if_pos (by omega)]
theorem range'_succ {n k : Nat} (h : k < n) : List.range' k (n - k) = k :: List.range' (k + 1) (n - (k + 1)) := by
 rw [show n - k = (n - (k + 1)) + 1 by omega]; rfl
theorem upE_range (ns : List EN) : upE ns = upL ns (List.range' 0 (ns.length - 0)) (List.replicate ns.length (-1)) := by
 unfold upE; rw [List.range_eq_range']; rfl
theorem kidsE_lt {ns : List EN} {y : EN} : ∀ a ∈ kidsE ns y, a < ns.length := by
 intro a ha
 unfold kidsE at ha
 split at ha
 ·simp at ha
 ·rcases List.mem_append.1 ha with h | h
  ·exact findE_lt (by simpa using h)
  ·exact findE_lt (by simpa using h)
theorem forestE_none {ns : List EN} (h : upE ns = none) : forestE ns = false := by unfold forestE; rw [h]
theorem forestE_some {ns : List EN} {up : List Int} (h : upE ns = some up) : forestE ns = ((List.range ns.length).all (fun k => okE up 39 (up[k]?.getD 0)) && (decide ((up.filter (fun x => decide (x = -1))).length = (treesE ns).length) && singleE ns up)) := by unfold forestE; rw [h]
def cntU (up : List Int) (k : Nat) : Nat := ((up.take k).filter (fun x => decide (x = -1))).length
theorem cntU_succ {up : List Int} {k : Nat} {x : Int} (h : up[k]? = some x) : cntU up (k + 1) = cntU up k + (if x = -1 then 1 else 0) := by
 unfold cntU
 rw [List.take_add_one, h, List.filter_append, List.length_append]
 by_cases e : x = -1 <;> simp [e]
theorem okE_end (up : List Int) (f : Nat) : okE up f (-1) = true := by cases f <;> simp [okE]
theorem okE_step {up : List Int} {f : Nat} {x y : Int} (hx : x ≠ -1) (hy : up[x.toNat]? = some y) : okE up (f + 1) x = okE up f y := by
 rw [okE, hy]; simp [hx]
set_option maxHeartbeats 4000000 in
theorem forest_any (v : Value) (e : EE) (bo : Option Addr) (bc : Nat) (no : Option Addr) (nc : Nat) (lo : Option Addr) (lc : Nat) (w : World) (h : EnsIs w v e bo bc no nc lo lc) (hlim : e.nodes.length ≤ 100000) (r : Bool) (hr : Hid (forestE e.nodes = r)) :
  Calls Tryz.prog 95 #[v] w fun e w' => e = .returned (.bool r) ∧ Below w.heap.size w w' := by
 obtain ⟨rfl, h1, h2, h4, h5, h3, h6, h7, h8, h9⟩ := h
 obtain ⟨w0, hw0, hbf, pe, hpe, hbe⟩ := boxE w e bo bc no nc lo lc
 have HP : Hid (w.heap.size ≤ pe) := Lib.hid (by omega)
 have HW := Lib.hid hw0; clear hw0
 go_enter Tryz.func95, Tryz.ntmps95
 go_upto_region 1 with fail
 rw [← HW.out, ← hpe]
 clear hpe HW
 skip
 have hE : EnsIs w0 (ensV e bo bc no nc lo lc) e bo bc no nc lo lc := EnsIs.below ⟨rfl, h1, h2, h4, h5, h3, h6, h7, h8, h9⟩ hbf
 obtain ⟨ee0, ee1, ee2, ee3, ee4, ee5, ee6⟩ := hbe.c7
 have hlt := hbe.lt
 have hbe0 := hbe
 have hpl0 := Lib.hid hbe.lt
 go_wp2_with (at_make; refine makeN E_ints (n := e.nodes.length) rfl rfl rfl rfl (by omega) (by unfold maxLen; omega) ?_; intro w1 hO1 hb1; replace hbe := hbe.kept hb1)
 obtain ⟨pu, hpE⟩ : ∃ p, p = w0.heap.size := ⟨_, rfl⟩
 rw [← hpE] at hO1
 rw [← hpE]
 have hpu := Lib.hid (Nat.le_of_eq hpE.symm)
 have hpe := Lib.hid (show pe < pu by omega)
 clear hpE hlt ee0 ee1 ee2 ee3 ee4 ee5 ee6
 have hU1 : OwnI w1 pu (List.replicate 0 (-1) ++ List.replicate (e.nodes.length - 0) 0) := by
  unfold OwnI
  have e9 : ints .i64 (List.replicate e.nodes.length 0) = ivals .i64 (List.replicate 0 (-1) ++ List.replicate (e.nodes.length - 0) 0) := by simp [ints, ivals]
  rw [e9] at hO1
  simpa using hO1
 clear hO1
 go_loopg [18] e.nodes.length (fun gg iv wr => ∃ (i : Nat), i + gg = e.nodes.length ∧ iv = .int .i64 (i : Int) ∧ OwnI wr pu (List.replicate i (-1) ++ List.replicate (e.nodes.length - i) 0) ∧ Below w0.heap.size w0 wr)
 case atStart => exact ⟨0, by omega, rfl, hU1, hb1⟩
 case round =>
  clear hU1 hbe
  obtain ⟨i, hi, rfl, hU, hbr⟩ := hrel
  by_cases hil : i < e.nodes.length
  ·have hz : (i : Int) < (e.nodes.length : Int) := by omega
   have hz0 : (0 : Int) ≤ (i : Int) := by omega
   have cu := hU.cell (up1_get hil)
   have fu := hU.free i
   have hU2 := hU.set i (-1)
   rw [up1_set hil] at hU2
   clear hU
   go_wp2_with fail
   go_roundg (gk - 1)
   case measure => omega
   case rel => exact ⟨i + 1, by omega, by first | rfl | go_num, hU2, hbr.setCell (p := ⟨pu, i, none⟩) hpu.out _⟩
  ·have hz : ¬ (i : Int) < (e.nodes.length : Int) := by omega
   have hie : i = e.nodes.length := by omega
   rw [hie, Nat.sub_self, List.replicate_zero, List.append_nil] at hU
   clear hie hi hil hb1
   obtain ⟨w2, hww⟩ : ∃ x, x = wr := ⟨_, rfl⟩
   subst hww
   have hbe := hbe0.below hbr (by have := hpe.out; have := hpu.out; have := hpl0.out; omega)
   have ee5 := hbe.cell 5 _ rfl
   go_wp2_with fail
   clear hz ee5
   obtain ⟨go1, hgo⟩ : ∃ go, go = gk := ⟨_, rfl⟩
   subst hgo
   obtain ⟨U, hUU⟩ : ∃ U, upE e.nodes = U := ⟨_, rfl⟩
   have HU := Lib.hid hUU
   have hst : Hid (upL e.nodes (List.range' 0 (e.nodes.length - 0)) (List.replicate e.nodes.length (-1)) = U) := Lib.hid (by rw [← upE_range]; exact hUU)
   clear hUU
   go_loopg [28] e.nodes.length (fun gg iv wr => ∃ (k : Nat) (up : List Int), k + gg = e.nodes.length ∧ iv = .int .i64 (k : Int) ∧ OwnI wr pu up ∧ up.length = e.nodes.length ∧ Hid (Rng e.nodes.length up) ∧ Hid (upL e.nodes (List.range' k (e.nodes.length - k)) up = U) ∧ Below w0.heap.size w0 wr)
   case atStart => exact ⟨0, _, by omega, rfl, hU, by simp, Lib.hid (fun x hx => .inl (List.eq_of_mem_replicate hx)), hst, hbr⟩
   case round =>
    clear hU hst hbe
    clear hbr
    obtain ⟨k, up, hk, rfl, hU, hul, hRg, hst, hbr⟩ := hrel
    have hbe := hbe0.below hbr (by have := hpe.out; have := hpu.out; have := hpl0.out; omega)
    by_cases hkl : k < e.nodes.length
    ·have hz : (k : Int) < (e.nodes.length : Int) := by omega
     have hz0 : (0 : Int) ≤ (k : Int) := by omega
     rw [range'_succ hkl] at hst
     obtain ⟨y, hy⟩ : ∃ y, e.nodes[k] = y := ⟨_, rfl⟩
     have hy2 : e.nodes[k]! = y := by rw [getElem!_pos e.nodes k hkl, hy]
     obtain ⟨ks, hks⟩ : ∃ ks, kidsE e.nodes y = ks := ⟨_, rfl⟩
     have hkn : ∀ a ∈ ks, a < e.nodes.length := by rw [← hks]; exact kidsE_lt
     have hst2 : Hid ((upK k (ks.drop 0) up).bind (upL e.nodes (List.range' (k + 1) (e.nodes.length - (k + 1)))) = U) := Lib.hid (by have h10 := hst.out; rw [upL, hy2, hks] at h10; exact h10)
     have hK := kids_any _ e _ _ _ _ _ _ k wr (hE.below hbr) hkl y hy ks (Lib.hid hks)
     have hbfr := hbf.trans (hbr.mono hbf.size)
     clear hst hy hy2 hks
     obtain ⟨ee0, ee1, ee2, ee3, ee4, ee5, ee6⟩ := hbe.c7
     obtain ⟨ww, hww⟩ : ∃ x, x = wr := ⟨_, rfl⟩
     subst hww
     obtain ⟨go2, hgo⟩ : ∃ go, go = gk := ⟨_, rfl⟩
     subst hgo
     go_wp2_with (go_at_call 135; refine hK.mono ?_; rintro e9 w3 ⟨r9, rfl, hOk, hbk⟩; obtain ⟨kao, kcp, rfl, kc1, kc2, _⟩ := OwnsK.slice (K := 1) hOk; rw [natI_ivals_len] at *)
     clear hK ee0 ee1 ee2 ee3 ee4 ee5 ee6
     have hkl2 : ks.length ≤ 9223372036854775807 := by unfold maxLen at kc2; omega
     have hbr3 := hbr.trans (hbk.mono hbr.size)
     have hU3 := hU.kept hbk
     have hpu3 := Lib.hid hU.lt
     clear hU
     go_loopg [35] ks.length (fun gg iv wr => ∃ (j : Nat) (up : List Int), j + gg = ks.length ∧ iv = .int .i64 (j : Int) ∧ OwnI wr pu up ∧ up.length = e.nodes.length ∧ Hid (Rng e.nodes.length up) ∧ Hid ((upK k (ks.drop j) up).bind (upL e.nodes (List.range' (k + 1) (e.nodes.length - (k + 1)))) = U) ∧ Below w0.heap.size w0 wr ∧ Owns ww.heap.size 3 wr (.slice kao ks.length kcp) (ivals .i64 (natI ks)))
     case atStart => exact ⟨0, up, by omega, rfl, hU3, hul, hRg, hst2, hbr3, hOk⟩
     case round =>
      clear hU3 hul hRg hst2 hbr3 hOk up
      obtain ⟨j, up, hj, rfl, hU, hul, hRg, hst, hbq, hOk⟩ := hrel
      by_cases hjl : j < ks.length
      ·have hzj : (j : Int) < (ks.length : Int) := by omega
       have hzj0 : (0 : Int) ≤ (j : Int) := by omega
       have hI := (ints_of_owns hOk).1
       have hnl : (natI ks).length = ks.length := by simp [natI]
       rw [← hnl] at hI
       obtain ⟨kb, koff, rfl, hkb, hkc⟩ := hI.at'.2 j (by omega)
       obtain ⟨a, ha⟩ : ∃ a, ks[j] = a := ⟨_, rfl⟩
       have hkc2 : wr.cell? ⟨kb, koff + j, none⟩ = some (.int .i64 (a : Int)) := by rw [hkc]; simp [natI, List.getElem?_eq_getElem hjl, ha]
       have haN : a < e.nodes.length := hkn a (by rw [← ha]; exact List.getElem_mem hjl)
       have hdr : Hid (ks.drop j = a :: ks.drop (j + 1)) := Lib.hid (by rw [List.drop_eq_getElem_cons hjl, ha])
       clear ha hkc hI hnl
       have hza : (a : Int) < (up.length : Int) := by omega
       have hza1 : (a : Int) < (e.nodes.length : Int) := by omega
       have hza0 : (0 : Int) ≤ (a : Int) := by omega
       obtain ⟨x, hx⟩ : ∃ x, up[a]? = some x := ⟨_, List.getElem?_eq_getElem (by omega)⟩
       have cx := hU.cell hx
       have fx := hU.free a
       by_cases q : x = -1
       ·have hst3 : Hid ((upK k (ks.drop (j + 1)) (up.set a (k : Int))).bind (upL e.nodes (List.range' (k + 1) (e.nodes.length - (k + 1)))) = U) := Lib.hid (by have h10 := hst.out; rw [hdr.out, upK, hx] at h10; simpa [q] using h10)
        have hU2 := hU.set a (k : Int)
        have hRg2 := Lib.hid (hRg.out.set a k hkl)
        have hul2 : (up.set a (k : Int)).length = e.nodes.length := by rw [List.length_set]; exact hul
        have hOk2 : Owns ww.heap.size 3 (wr.setCell ⟨pu, a, none⟩ (.int .i64 (k : Int))) (.slice (some ⟨kb, koff, none⟩) ks.length kcp) (ivals .i64 (natI ks)) := Owns.other hOk (grownBy_set (grownBy_refl wr (some pu)) a _) hpu3.out
        subst q
        have hbq2 := hbq.setCell (p := ⟨pu, a, none⟩) hpu.out (.int .i64 (k : Int))
        clear hst hdr hx hU hRg hul hbq
        go_wp2_with fail
        go_roundg (gk - 1)
        case measure => omega
        case rel => exact ⟨j + 1, _, by omega, by first | rfl | go_num, hU2, hul2, hRg2, hst3, hbq2, hOk2⟩
       ·have q3 : (x != -1) = true := by simp [q]
        have hr2 : r = false := by
         have h10 := hst.out
         rw [hdr.out, upK, hx] at h10
         have h11 : upE e.nodes = none := by rw [HU.out, ← h10]; simp [q]
         rw [← hr.out, forestE_none h11]
        subst hr2
        clear hr hst hdr hx q
        go_wp2_with fail
        go_ret
        exact ⟨rfl, hbf.trans (hbq.mono hbf.size)⟩
      ·have hzj : ¬ (j : Int) < (ks.length : Int) := by omega
       have hst3 : Hid (upL e.nodes (List.range' (k + 1) (e.nodes.length - (k + 1))) up = U) := Lib.hid (by have h10 := hst.out; rw [List.drop_of_length_le (by omega)] at h10; exact h10)
       clear hst hOk
       go_wp2_with fail
       go_roundg (go2 - 1)
       case measure => omega
       case rel => exact ⟨k + 1, up, by omega, by first | rfl | go_num, hU, hul, hRg, hst3, hbq⟩
    ·have hz : ¬ (k : Int) < (e.nodes.length : Int) := by omega
     have hke : e.nodes.length - k = 0 := by omega
     rw [hke] at hst
     have hup : upE e.nodes = some up := by rw [HU.out, ← hst.out]; rfl
     have hF := forestE_some hup
     rw [hr.out] at hF
     have HF := Lib.hid hF
     clear hF hup hst HU hr hk hkl hke
     obtain ⟨w4, hww⟩ : ∃ x, x = wr := ⟨_, rfl⟩
     subst hww
     have ee5 := hbe.cell 5 _ rfl
     go_wp2_with fail
     clear hz ee5
     obtain ⟨go2, hgo⟩ : ∃ go, go = gk := ⟨_, rfl⟩
     subst hgo
     go_loopg [8, 53] e.nodes.length (fun gg rv iv wr => ∃ (k m : Nat), k + gg = e.nodes.length ∧ rv = .int .i64 (m : Int) ∧ iv = .int .i64 (k : Int) ∧ m ≤ k ∧ Hid (m = cntU up k) ∧ Hid (∀ j, j < k → okE up 39 (up[j]?.getD 0) = true) ∧ w4 = wr)
     case atStart => exact ⟨0, 0, by omega, rfl, rfl, Nat.le_refl _, Lib.hid (by simp [cntU]), Lib.hid (fun j hj => absurd hj (Nat.not_lt_zero _)), rfl⟩
     case round =>
      obtain ⟨k, m, hk, rfl, rfl, hmk, hM, hA, rfl⟩ := hrel
      by_cases hkl : k < e.nodes.length
      ·have hz : (k : Int) < (e.nodes.length : Int) := by omega
       have hzu : (k : Int) < (up.length : Int) := by omega
       have hz0 : (0 : Int) ≤ (k : Int) := by omega
       have hm0 : (0 : Int) ≤ (m : Int) := by omega
       obtain ⟨x, hx⟩ : ∃ x, up[k]? = some x := ⟨_, List.getElem?_eq_getElem (by omega)⟩
       have cx := hU.cell hx
       have hxr := hRg.out.at hx
       have HX : Hid (up[k]?.getD 0 = x) := Lib.hid (by rw [hx]; rfl)
       obtain ⟨b9, hb9'⟩ : ∃ b, okE up 39 x = b := ⟨_, rfl⟩
       have hb9 : Hid (okE up (40 - 1) x = b9) := Lib.hid hb9'
       clear hb9'
       by_cases q : x = -1
       ·have hM2 : Hid (m + 1 = cntU up (k + 1)) := Lib.hid (by rw [cntU_succ hx, hM.out, if_pos q])
        clear hM hx
        subst q
        go_wp2_with fail
        (try go_step3)
        (try go_wp2_with fail)
        (try go_step3)
        (try go_wp2_with fail)
        obtain ⟨go3, hgo⟩ : ∃ go, go = gk := ⟨_, rfl⟩
        subst hgo
        go_loopg [10, 11] 39 (fun gg dv av wr => ∃ (d : Nat) (z : Int), d + gg = 40 ∧ dv = .int .i64 (d : Int) ∧ av = .int .i64 z ∧ 1 ≤ d ∧ (z = -1 ∨ (0 ≤ z ∧ z < (e.nodes.length : Int))) ∧ Hid (okE up (40 - d) z = b9) ∧ w4 = wr)
        case atStart => exact ⟨1, _, by omega, rfl, rfl, by omega, (by first | exact hxr | omega), hb9, rfl⟩
        case round =>
         obtain ⟨d, z, hd, rfl, rfl, hd1, hzr, hok, rfl⟩ := hrel
         by_cases qz : z = -1
         ·have hbt : b9 = true := by rw [← hok.out, qz, okE_end]
          have hA2 : Hid (∀ j, j < k + 1 → okE up 39 (up[j]?.getD 0) = true) := Lib.hid (fun j hj => by
           by_cases e9 : j = k
           ·subst e9; rw [HX.out]; exact hb9.out.trans hbt
           ·exact hA.out j (by omega))
          subst qz
          have hd40 : ¬ (40 : Int) < (d : Int) := by omega
          clear hok hb9 hA hbt HX
          go_wp2_with fail
          go_roundg (go3 - 1)
          case measure => omega
          case rel => exact ⟨k + 1, m + 1, by omega, by first | rfl | go_num, by first | rfl | go_num, by omega, hM2, hA2, rfl⟩
         ·have qz2 : (z != -1) = true := by simp [qz]
          obtain ⟨zn, rfl⟩ : ∃ zn : Nat, z = (zn : Int) := ⟨z.toNat, by omega⟩
          have hzn : zn < up.length := by omega
          have hzn2 : (zn : Int) < (up.length : Int) := by omega
          have hzn0 : (0 : Int) ≤ (zn : Int) := by omega
          by_cases qd : d = 40
          ·have hbf9 : b9 = false := by rw [← hok.out, qd]; simp [okE] <;> omega
           have hr2 : r = false := by
            rw [HF.out, List.all_eq_false.2 ⟨k, List.mem_range.2 hkl, by rw [HX.out, hb9.out, hbf9]; simp⟩, Bool.false_and]
           subst hr2
           have hd41 : (40 : Int) < (d : Int) + 1 := by omega
           have hd42 : (d : Int) + 1 ≤ 9223372036854775807 := by omega
           clear qd
           clear hok hb9 hA HX HF hbf9
           go_wp2_with fail
           rw [Exit.noGoto_ret]
           (try go_wp2_with fail)
           go_ret
           exact ⟨rfl, hbf.trans (hbr.mono hbf.size)⟩
          ·obtain ⟨y, hy⟩ : ∃ y, up[zn]? = some y := ⟨_, List.getElem?_eq_getElem hzn⟩
           have cy := hU.cell hy
           have hyr := hRg.out.at hy
           have hok2 : Hid (okE up (40 - (d + 1)) y = b9) := Lib.hid (by
            rw [← hok.out, show 40 - d = (40 - (d + 1)) + 1 by omega]
            exact (okE_step qz (by rw [Int.toNat_natCast]; exact hy)).symm)
           have hd40 : ¬ (40 : Int) < (d : Int) + 1 := by omega
           clear hy hok
           go_wp2_with fail
           go_roundg (gk - 1)
           case measure => omega
           case rel => exact ⟨d + 1, y, by omega, by first | rfl | go_num, rfl, by omega, hyr, hok2, rfl⟩
       ·have q3 : (x == -1) = false := by simp [q]
        have hM2 : Hid (m = cntU up (k + 1)) := Lib.hid (by rw [cntU_succ hx, hM.out, if_neg q]; rfl)
        clear hM hx
        go_wp2_with fail
        (try go_step3)
        (try go_wp2_with fail)
        (try go_step3)
        (try go_wp2_with fail)
        obtain ⟨go3, hgo⟩ : ∃ go, go = gk := ⟨_, rfl⟩
        subst hgo
        go_loopg [10, 11] 39 (fun gg dv av wr => ∃ (d : Nat) (z : Int), d + gg = 40 ∧ dv = .int .i64 (d : Int) ∧ av = .int .i64 z ∧ 1 ≤ d ∧ (z = -1 ∨ (0 ≤ z ∧ z < (e.nodes.length : Int))) ∧ Hid (okE up (40 - d) z = b9) ∧ w4 = wr)
        case atStart => exact ⟨1, _, by omega, rfl, rfl, by omega, (by first | exact hxr | omega), hb9, rfl⟩
        case round =>
         obtain ⟨d, z, hd, rfl, rfl, hd1, hzr, hok, rfl⟩ := hrel
         by_cases qz : z = -1
         ·have hbt : b9 = true := by rw [← hok.out, qz, okE_end]
          have hA2 : Hid (∀ j, j < k + 1 → okE up 39 (up[j]?.getD 0) = true) := Lib.hid (fun j hj => by
           by_cases e9 : j = k
           ·subst e9; rw [HX.out]; exact hb9.out.trans hbt
           ·exact hA.out j (by omega))
          subst qz
          have hd40 : ¬ (40 : Int) < (d : Int) := by omega
          clear hok hb9 hA hbt HX
          go_wp2_with fail
          go_roundg (go3 - 1)
          case measure => omega
          case rel => exact ⟨k + 1, m, by omega, by first | rfl | go_num, by first | rfl | go_num, by omega, hM2, hA2, rfl⟩
         ·have qz2 : (z != -1) = true := by simp [qz]
          obtain ⟨zn, rfl⟩ : ∃ zn : Nat, z = (zn : Int) := ⟨z.toNat, by omega⟩
          have hzn : zn < up.length := by omega
          have hzn2 : (zn : Int) < (up.length : Int) := by omega
          have hzn0 : (0 : Int) ≤ (zn : Int) := by omega
          by_cases qd : d = 40
          ·have hbf9 : b9 = false := by rw [← hok.out, qd]; simp [okE] <;> omega
           have hr2 : r = false := by
            rw [HF.out, List.all_eq_false.2 ⟨k, List.mem_range.2 hkl, by rw [HX.out, hb9.out, hbf9]; simp⟩, Bool.false_and]
           subst hr2
           have hd41 : (40 : Int) < (d : Int) + 1 := by omega
           have hd42 : (d : Int) + 1 ≤ 9223372036854775807 := by omega
           clear qd
           clear hok hb9 hA HX HF hbf9
           go_wp2_with fail
           rw [Exit.noGoto_ret]
           (try go_wp2_with fail)
           go_ret
           exact ⟨rfl, hbf.trans (hbr.mono hbf.size)⟩
          ·obtain ⟨y, hy⟩ : ∃ y, up[zn]? = some y := ⟨_, List.getElem?_eq_getElem hzn⟩
           have cy := hU.cell hy
           have hyr := hRg.out.at hy
           have hok2 : Hid (okE up (40 - (d + 1)) y = b9) := Lib.hid (by
            rw [← hok.out, show 40 - d = (40 - (d + 1)) + 1 by omega]
            exact (okE_step qz (by rw [Int.toNat_natCast]; exact hy)).symm)
           have hd40 : ¬ (40 : Int) < (d : Int) + 1 := by omega
           clear hy hok
           go_wp2_with fail
           go_roundg (gk - 1)
           case measure => omega
           case rel => exact ⟨d + 1, y, by omega, by first | rfl | go_num, rfl, by omega, hyr, hok2, rfl⟩
      ·have hz : ¬ (k : Int) < (e.nodes.length : Int) := by omega
       have hke : k = e.nodes.length := by omega
       have hall : (List.range e.nodes.length).all (fun k => okE up 39 (up[k]?.getD 0)) = true := List.all_eq_true.2 fun j hj => hA.out j (by have := List.mem_range.1 hj; omega)
       have hcnt : (up.filter (fun x => decide (x = -1))).length = m := by rw [hM.out]; unfold cntU; rw [List.take_of_length_le (by omega)]
       have hF2 := HF.out
       rw [hall, Bool.true_and, hcnt] at hF2
       have hT := trees_any _ e _ _ _ _ _ _ w4 (hE.below hbr) hlim
       obtain ⟨ts, hts⟩ : ∃ ts, treesE e.nodes = ts := ⟨_, rfl⟩
       rw [hts] at hT hF2
       have HF3 := Lib.hid hF2
       obtain ⟨ee0, ee1, ee2, ee3, ee4, ee5, ee6⟩ := hbe.c7
       have hlt := hbe.lt
       clear hF2 hall hcnt hA HF hts hM hke hk hmk hkl
       by_cases q : m = ts.length
       ·have hS := fun W (hW : Below w4.heap.size w4 W) => single_e _ e _ _ _ _ _ _ (some ⟨pu, 0, none⟩) up.length up W ((hE.below hbr).below hW) hlim (hU.ints.below hW) hul r (Lib.hid (by rw [HF3.out, q]; simp))
        have q2 : ((m : Int) == (ts.length : Int)) = true := by rw [q]; exact beq_self_eq_true _
        clear q HF3
        rw [hul] at hS
        go_wp2_with (first | (go_at_call 32; refine hT.mono ?_; rintro e9 w5 ⟨r9, rfl, hO5, hb5⟩; obtain ⟨tao, tcp, rfl, _, _, _⟩ := OwnsK.slice (K := 1) hO5; rw [ivals_length] at *; replace hbe := hbe.kept hb5; clear ee0 ee1 ee2 ee3 ee4 ee5 ee6 hlt; obtain ⟨ee0, ee1, ee2, ee3, ee4, ee5, ee6⟩ := hbe.c7; replace hS := hS _ hb5) | (go_at_call 136; refine hS.mono ?_; rintro e9 w6 ⟨rfl, hb6⟩))
        go_ret
        exact ⟨rfl, hbf.trans ((hbr.trans ((hb5.trans (hb6.mono hb5.size)).mono hbr.size)).mono hbf.size)⟩
       ·have hr2 : r = false := by rw [HF3.out]; simp [q]
        have q2 : ((m : Int) == (ts.length : Int)) = false := by simp; omega
        subst hr2
        clear q HF3
        go_wp2_with (go_at_call 32; refine hT.mono ?_; rintro e9 w5 ⟨r9, rfl, hO5, hb5⟩; obtain ⟨tao, tcp, rfl, _, _, _⟩ := OwnsK.slice (K := 1) hO5; rw [ivals_length] at *)
        go_ret
        exact ⟨rfl, hbf.trans ((hbr.trans (hb5.mono hbr.size)).mono hbf.size)⟩
 
end Go.Proofs.YtcpfanpcdkoiaaaGreat
namespace Go.Proofs.YtcpfanpcdkoiaaaGreat
open Go.RowKit


theorem named_cases (e : EE) : (e.agg ∉ aggW ∧ namedE e = wordE 2) ∨ (e.agg ∈ aggW ∧ e.post ∉ postW ∧ namedE e = wordE 3) ∨ (e.agg ∈ aggW ∧ e.post ∈ postW ∧ namedE e = []) := by
 unfold namedE
 by_cases h : e.agg ∈ aggW
 ·by_cases h2 : e.post ∈ postW
  ·exact .inr (.inr ⟨h, h2, by rw [if_neg (by simp [h]), if_neg (by simp [h2])]⟩)
  ·exact .inr (.inl ⟨h, h2, by rw [if_neg (by simp [h]), if_pos h2]⟩)
 ·exact .inl ⟨h, by rw [if_pos h]⟩
set_option maxHeartbeats 8000000 in
theorem check_any (v : Value) (e : EE) (bo : Option Addr) (bc : Nat) (no : Option Addr) (nc : Nat) (lo : Option Addr) (lc : Nat) (w : World) (h : EnsIs w v e bo bc no nc lo lc) (hlim : e.nodes.length ≤ 100000) (c : Nat) (hc : Hid (checkE e = c)) :
  Calls Tryz.prog 28 #[v] w fun e w' => e = .returned (.tuple #[.string ⟨(wordE c).toArray⟩, .bool (decide (c = 0))]) ∧ Below w.heap.size w w' := by
 obtain ⟨rfl, h1, h2, h4, h5, h3, h6, h7, h8, h9⟩ := h
 have hcc := hc.out
 unfold checkE at hcc
 obtain ⟨b1, hb1⟩ : ∃ b, sizeE e = b := ⟨_, rfl⟩
 rw [hb1] at hcc
 have Hb1 := Lib.hid hb1
 clear hb1
 obtain ⟨b4, hb4⟩ : ∃ b, baseE e = b := ⟨_, rfl⟩
 rw [hb4] at hcc
 have Hb4 := Lib.hid hb4
 clear hb4
 obtain ⟨b5, hb5⟩ : ∃ b, numsE e.nodes = b := ⟨_, rfl⟩
 rw [hb5] at hcc
 have Hb5 := Lib.hid hb5
 clear hb5
 obtain ⟨b6, hb6⟩ : ∃ b, everyE e.nodes true (fun n => decide (1 ≤ n.mode ∧ n.mode ≤ 7)) = b := ⟨_, rfl⟩
 rw [hb6] at hcc
 have Hb6 := Lib.hid hb6
 clear hb6
 obtain ⟨b7, hb7⟩ : ∃ b, everyE e.nodes false (fun n => decide (0 ≤ n.feat ∧ n.feat < e.feats)) = b := ⟨_, rfl⟩
 rw [hb7] at hcc
 have Hb7 := Lib.hid hb7
 clear hb7
 obtain ⟨b8, hb8⟩ : ∃ b, everyE e.nodes false (fun n => finP n.val) = b := ⟨_, rfl⟩
 rw [hb8] at hcc
 have Hb8 := Lib.hid hb8
 clear hb8
 obtain ⟨b9, hb9⟩ : ∃ b, everyE e.nodes true (fun n => decide (n.val < 4294967296)) = b := ⟨_, rfl⟩
 rw [hb9] at hcc
 have Hb9 := Lib.hid hb9
 clear hb9
 obtain ⟨k0, hk0⟩ : ∃ b, kidE e.nodes = b := ⟨_, rfl⟩
 rw [hk0] at hcc
 have Hk0 := Lib.hid hk0
 clear hk0
 obtain ⟨k1, hk1⟩ : ∃ b, forestE e.nodes = b := ⟨_, rfl⟩
 rw [hk1] at hcc
 have Hk1 := Lib.hid hk1
 clear hk1
 obtain ⟨k2, hk2⟩ : ∃ b, leafE e = b := ⟨_, rfl⟩
 rw [hk2] at hcc
 have Hk2 := Lib.hid hk2
 clear hk2
 obtain ⟨k3, hk3⟩ : ∃ b, e.leaves.any (fun l => !finP l.wt) = b := ⟨_, rfl⟩
 rw [hk3] at hcc
 have Hk3 := Lib.hid hk3
 clear hk3
 obtain ⟨w0, hw0, hbf, pe, hpe, hbe⟩ := boxE w e bo bc no nc lo lc
 have HP : Hid (w.heap.size ≤ pe) := Lib.hid (by omega)
 have HW := Lib.hid hw0; clear hw0
 go_enter Tryz.func28, Tryz.ntmps28
 go_upto_region 1 with fail
 rw [← HW.out, ← hpe]
 clear hpe HW
 have hE : EnsIs w0 (ensV e bo bc no nc lo lc) e bo bc no nc lo lc := EnsIs.below ⟨rfl, h1, h2, h4, h5, h3, h6, h7, h8, h9⟩ hbf
 obtain ⟨ee0, ee1, ee2, ee3, ee4, ee5, ee6⟩ := hbe.c7
 have hcall := size_any _ e _ _ _ _ _ _ w0 hE _ Hb1
 cases b1 with
 | false =>
  have hc3 : c = 1 := by rw [← hcc]; first | rfl | simp
  subst hc3
  go_wp2_with (go_at_call 84; refine hcall.mono ?_; rintro e9 v1 ⟨rfl, hb⟩)
  replace hbf := hbf.trans (hb.mono hbf.size)
  exact bodyPost_ret (v := .tuple #[.string ⟨(wordE 1).toArray⟩, .bool (decide ((1 : Nat) = 0))]) (by simp [results, Tryz.results28, go_sem, wordE]) rfl ⟨rfl, hbf⟩
 | true =>
  go_upto_region 3 with (go_at_call 84; refine hcall.mono ?_; rintro e9 v1 ⟨rfl, hb⟩)
  replace hbf := hbf.trans (hb.mono hbf.size)
  replace hE := hE.below hb
  replace hbe := hbe.kept hb
  clear hb hcall ee0 ee1 ee2 ee3 ee4 ee5 ee6
  obtain ⟨ee0, ee1, ee2, ee3, ee4, ee5, ee6⟩ := hbe.c7
  rcases named_cases e with ⟨q1, q2⟩ | ⟨q1, q3, q2⟩ | ⟨q1, q3, q2⟩
  ·have hcall := named_any _ e _ _ _ _ _ _ v1 hE _ (Lib.hid q2)
   have hc3 : c = 2 := by rw [← hcc]; simp [q1]
   subst hc3
   clear q1 q2
   unfold wordE at hcall
   go_wp2_with (go_at_call 85; refine hcall.mono ?_; rintro e9 v2 ⟨rfl, hb⟩)
   replace hbf := hbf.trans (hb.mono hbf.size)
   exact bodyPost_ret (v := .tuple #[.string ⟨(wordE 2).toArray⟩, .bool (decide ((2 : Nat) = 0))]) (by simp [results, Tryz.results28, go_sem, wordE]) rfl ⟨rfl, hbf⟩
  ·have hcall := named_any _ e _ _ _ _ _ _ v1 hE _ (Lib.hid q2)
   have hc3 : c = 3 := by rw [← hcc]; simp [q1, q3]
   subst hc3
   clear q1 q2 q3
   unfold wordE at hcall
   go_wp2_with (go_at_call 85; refine hcall.mono ?_; rintro e9 v3 ⟨rfl, hb⟩)
   replace hbf := hbf.trans (hb.mono hbf.size)
   exact bodyPost_ret (v := .tuple #[.string ⟨(wordE 3).toArray⟩, .bool (decide ((3 : Nat) = 0))]) (by simp [results, Tryz.results28, go_sem, wordE]) rfl ⟨rfl, hbf⟩
  ·have hcall := named_any _ e _ _ _ _ _ _ v1 hE _ (Lib.hid q2)
   rw [if_neg (show ¬ (e.agg ∉ aggW) from fun h => h q1), if_neg (show ¬ (e.post ∉ postW) from fun h => h q3)] at hcc
   clear q1 q2 q3
   go_upto_region 6 with (go_at_call 85; refine hcall.mono ?_; rintro e9 v4 ⟨rfl, hb⟩)
   replace hbf := hbf.trans (hb.mono hbf.size)
   replace hE := hE.below hb
   replace hbe := hbe.kept hb
   clear hb hcall ee0 ee1 ee2 ee3 ee4 ee5 ee6
   obtain ⟨ee0, ee1, ee2, ee3, ee4, ee5, ee6⟩ := hbe.c7
   have hcall := base_any _ e _ _ _ _ _ _ v4 hE _ Hb4
   cases b4 with
   | false =>
    have hc3 : c = 4 := by rw [← hcc]; first | rfl | simp
    subst hc3
    go_wp2_with (go_at_call 86; refine hcall.mono ?_; rintro e9 v5 ⟨rfl, hb⟩)
    replace hbf := hbf.trans (hb.mono hbf.size)
    exact bodyPost_ret (v := .tuple #[.string ⟨(wordE 4).toArray⟩, .bool (decide ((4 : Nat) = 0))]) (by simp [results, Tryz.results28, go_sem, wordE]) rfl ⟨rfl, hbf⟩
   | true =>
    go_upto_region 8 with (go_at_call 86; refine hcall.mono ?_; rintro e9 v5 ⟨rfl, hb⟩)
    replace hbf := hbf.trans (hb.mono hbf.size)
    replace hE := hE.below hb
    replace hbe := hbe.kept hb
    clear hb hcall ee0 ee1 ee2 ee3 ee4 ee5 ee6
    obtain ⟨ee0, ee1, ee2, ee3, ee4, ee5, ee6⟩ := hbe.c7
    have hcall := numbers_any _ e _ _ _ _ _ _ v5 hE _ Hb5
    cases b5 with
    | false =>
     have hc3 : c = 5 := by rw [← hcc]; first | rfl | simp
     subst hc3
     go_wp2_with (go_at_call 87; refine hcall.mono ?_; rintro e9 v6 ⟨rfl, hb⟩)
     replace hbf := hbf.trans (hb.mono hbf.size)
     exact bodyPost_ret (v := .tuple #[.string ⟨(wordE 5).toArray⟩, .bool (decide ((5 : Nat) = 0))]) (by simp [results, Tryz.results28, go_sem, wordE]) rfl ⟨rfl, hbf⟩
    | true =>
     go_upto_region 10 with (go_at_call 87; refine hcall.mono ?_; rintro e9 v6 ⟨rfl, hb⟩)
     replace hbf := hbf.trans (hb.mono hbf.size)
     replace hE := hE.below hb
     replace hbe := hbe.kept hb
     clear hb hcall ee0 ee1 ee2 ee3 ee4 ee5 ee6
     obtain ⟨ee0, ee1, ee2, ee3, ee4, ee5, ee6⟩ := hbe.c7
     have hcall := every_any _ e _ _ _ _ _ _ true _ 89 #[] enter_check1 v6 hE _ (fun W x hx hb => check1_any x W _ rfl) Hb6
     cases b6 with
     | false =>
      have hc3 : c = 6 := by rw [← hcc]; first | rfl | simp
      subst hc3
      go_wp2_with (go_at_call 88; refine hcall.mono ?_; rintro e9 v7 ⟨rfl, hb⟩)
      replace hbf := hbf.trans (hb.mono hbf.size)
      exact bodyPost_ret (v := .tuple #[.string ⟨(wordE 6).toArray⟩, .bool (decide ((6 : Nat) = 0))]) (by simp [results, Tryz.results28, go_sem, wordE]) rfl ⟨rfl, hbf⟩
     | true =>
      go_upto_region 12 with (go_at_call 88; refine hcall.mono ?_; rintro e9 v7 ⟨rfl, hb⟩)
      replace hbf := hbf.trans (hb.mono hbf.size)
      replace hE := hE.below hb
      replace hbe := hbe.kept hb
      clear hb hcall ee0 ee1 ee2 ee3 ee4 ee5 ee6
      obtain ⟨ee0, ee1, ee2, ee3, ee4, ee5, ee6⟩ := hbe.c7
      have hcall := every_any _ e _ _ _ _ _ _ false _ 90 #[.pointer (some ⟨pe, 0, none⟩)] enter_check2 v7 hE _ (fun W x hx hb => check2_any x e.feats pe W ((hbe.kept hb).cell 0 _ rfl)) Hb7
      cases b7 with
      | false =>
       have hc3 : c = 7 := by rw [← hcc]; first | rfl | simp
       subst hc3
       go_wp2_with (go_at_call 88; refine hcall.mono ?_; rintro e9 v8 ⟨rfl, hb⟩)
       replace hbf := hbf.trans (hb.mono hbf.size)
       exact bodyPost_ret (v := .tuple #[.string ⟨(wordE 7).toArray⟩, .bool (decide ((7 : Nat) = 0))]) (by simp [results, Tryz.results28, go_sem, wordE]) rfl ⟨rfl, hbf⟩
      | true =>
       go_upto_region 14 with (go_at_call 88; refine hcall.mono ?_; rintro e9 v8 ⟨rfl, hb⟩)
       replace hbf := hbf.trans (hb.mono hbf.size)
       replace hE := hE.below hb
       replace hbe := hbe.kept hb
       clear hb hcall ee0 ee1 ee2 ee3 ee4 ee5 ee6
       obtain ⟨ee0, ee1, ee2, ee3, ee4, ee5, ee6⟩ := hbe.c7
       have hcall := every_any _ e _ _ _ _ _ _ false _ 91 #[] enter_check3 v8 hE _ (fun W x hx hb => check3_any x W _ (hE.nv x hx).v rfl) Hb8
       cases b8 with
       | false =>
        have hc3 : c = 8 := by rw [← hcc]; simp
        subst hc3
        go_wp2_with (go_at_call 88; refine hcall.mono ?_; rintro e9 v9 ⟨rfl, hb⟩)
        replace hbf := hbf.trans (hb.mono hbf.size)
        exact bodyPost_ret (v := .tuple #[.string ⟨(wordE 8).toArray⟩, .bool (decide ((8 : Nat) = 0))]) (by simp [results, Tryz.results28, go_sem, wordE]) rfl ⟨rfl, hbf⟩
       | true =>
        have hcall2 := fun W (hW : Below v8.heap.size v8 W) => every_any _ e _ _ _ _ _ _ true _ 93 #[] enter_check4 W (hE.below hW) _ (fun W x hx hb => check4_any x W _ (hE.nv x hx).v rfl) Hb9
        cases b9 with
        | false =>
         have hc3 : c = 8 := by rw [← hcc]; simp
         subst hc3
         go_wp2_with (first | (go_at_call 88; refine hcall.mono ?_; rintro e9 v9 ⟨rfl, hb⟩; replace hcall := hcall2 _ hb; replace hbe := hbe.kept hb; clear ee0 ee1 ee2 ee3 ee4 ee5 ee6; obtain ⟨ee0, ee1, ee2, ee3, ee4, ee5, ee6⟩ := hbe.c7) | (go_at_call 88; refine (hcall2 _ hb).mono ?_; rintro e9 v10 ⟨rfl, hb2⟩))
         replace hbf := hbf.trans ((hb.trans (hb2.mono hb.size)).mono hbf.size)
         exact bodyPost_ret (v := .tuple #[.string ⟨(wordE 8).toArray⟩, .bool (decide ((8 : Nat) = 0))]) (by simp [results, Tryz.results28, go_sem, wordE]) rfl ⟨rfl, hbf⟩
        | true =>
         go_upto_region 16 with (first | (go_at_call 88; refine hcall.mono ?_; rintro e9 v9 ⟨rfl, hb⟩; replace hcall := hcall2 _ hb; replace hbe := hbe.kept hb; clear ee0 ee1 ee2 ee3 ee4 ee5 ee6; obtain ⟨ee0, ee1, ee2, ee3, ee4, ee5, ee6⟩ := hbe.c7) | (go_at_call 88; refine (hcall2 _ hb).mono ?_; rintro e9 v10 ⟨rfl, hb2⟩))
         have hb3 := hb.trans (hb2.mono hb.size)
         replace hbf := hbf.trans (hb3.mono hbf.size)
         replace hE := hE.below hb3
         replace hbe := hbe.kept hb2
         clear hb hb2 hb3 hcall hcall2 ee0 ee1 ee2 ee3 ee4 ee5 ee6
         obtain ⟨ee0, ee1, ee2, ee3, ee4, ee5, ee6⟩ := hbe.c7
         have hcall := kid_any _ e _ _ _ _ _ _ v10 hE _ Hk0
         cases k0 with
         | false =>
          have hc3 : c = 9 := by rw [← hcc]; first | rfl | simp
          subst hc3
          go_wp2_with (go_at_call 94; refine hcall.mono ?_; rintro e9 v11 ⟨rfl, hb⟩)
          replace hbf := hbf.trans (hb.mono hbf.size)
          exact bodyPost_ret (v := .tuple #[.string ⟨(wordE 9).toArray⟩, .bool (decide ((9 : Nat) = 0))]) (by simp [results, Tryz.results28, go_sem, wordE]) rfl ⟨rfl, hbf⟩
         | true =>
          go_upto_region 18 with (go_at_call 94; refine hcall.mono ?_; rintro e9 v11 ⟨rfl, hb⟩)
          replace hbf := hbf.trans (hb.mono hbf.size)
          replace hE := hE.below hb
          replace hbe := hbe.kept hb
          clear hb hcall ee0 ee1 ee2 ee3 ee4 ee5 ee6
          obtain ⟨ee0, ee1, ee2, ee3, ee4, ee5, ee6⟩ := hbe.c7
          have hcall := forest_any _ e _ _ _ _ _ _ v11 hE hlim _ Hk1
          cases k1 with
          | false =>
           have hc3 : c = 10 := by rw [← hcc]; first | rfl | simp
           subst hc3
           go_wp2_with (go_at_call 95; refine hcall.mono ?_; rintro e9 v12 ⟨rfl, hb⟩)
           replace hbf := hbf.trans (hb.mono hbf.size)
           exact bodyPost_ret (v := .tuple #[.string ⟨(wordE 10).toArray⟩, .bool (decide ((10 : Nat) = 0))]) (by simp [results, Tryz.results28, go_sem, wordE]) rfl ⟨rfl, hbf⟩
          | true =>
           go_upto_region 20 with (go_at_call 95; refine hcall.mono ?_; rintro e9 v12 ⟨rfl, hb⟩)
           replace hbf := hbf.trans (hb.mono hbf.size)
           replace hE := hE.below hb
           replace hbe := hbe.kept hb
           clear hb hcall ee0 ee1 ee2 ee3 ee4 ee5 ee6
           obtain ⟨ee0, ee1, ee2, ee3, ee4, ee5, ee6⟩ := hbe.c7
           have hcall := leaf_any _ e _ _ _ _ _ _ v12 hE _ Hk2
           cases k2 with
           | false =>
            have hc3 : c = 11 := by rw [← hcc]; first | rfl | simp
            subst hc3
            go_wp2_with (go_at_call 96; refine hcall.mono ?_; rintro e9 v13 ⟨rfl, hb⟩)
            replace hbf := hbf.trans (hb.mono hbf.size)
            exact bodyPost_ret (v := .tuple #[.string ⟨(wordE 11).toArray⟩, .bool (decide ((11 : Nat) = 0))]) (by simp [results, Tryz.results28, go_sem, wordE]) rfl ⟨rfl, hbf⟩
           | true =>
            go_upto_region 22 with (go_at_call 96; refine hcall.mono ?_; rintro e9 v13 ⟨rfl, hb⟩)
            replace hbf := hbf.trans (hb.mono hbf.size)
            replace hE := hE.below hb
            replace hbe := hbe.kept hb
            clear hb hcall ee0 ee1 ee2 ee3 ee4 ee5 ee6
            obtain ⟨ee0, ee1, ee2, ee3, ee4, ee5, ee6⟩ := hbe.c7
            have hcall := cont_el (fun l => !finP l.wt) 98 #[] enter_check5 lo lc e.leaves v13 _ (fun W x hx hb => check5_any x W _ (hE.lv x hx).v rfl) hE.leaves h6 Hk3
            cases k3 with
            | true =>
             have hc3 : c = 12 := by rw [← hcc]; first | rfl | simp
             subst hc3
             go_wp2_with (go_at_call 97; refine hcall.mono ?_; rintro e9 v14 ⟨rfl, hb⟩)
             replace hbf := hbf.trans (hb.mono hbf.size)
             exact bodyPost_ret (v := .tuple #[.string ⟨(wordE 12).toArray⟩, .bool (decide ((12 : Nat) = 0))]) (by simp [results, Tryz.results28, go_sem, wordE]) rfl ⟨rfl, hbf⟩
            | false =>
             have hc3 : c = 0 := by rw [← hcc]; first | rfl | simp
             subst hc3
             go_wp2_with (go_at_call 97; refine hcall.mono ?_; rintro e9 v14 ⟨rfl, hb⟩)
             replace hbf := hbf.trans (hb.mono hbf.size)
             exact bodyPost_ret (v := .tuple #[.string ⟨(wordE 0).toArray⟩, .bool (decide ((0 : Nat) = 0))]) (by simp [results, Tryz.results28, go_sem, wordE]) rfl ⟨rfl, hbf⟩
end Go.Proofs.YtcpfanpcdkoiaaaGreat
namespace Go.Proofs.YtcpfanpcdkoiaaaGreat
open Go.RowKit Go.Lib


theorem below_dr (w : World) (q : Nat) : Below w.heap.size w (w.drewN q) := ⟨rfl, rfl, rfl, Nat.le_refl _, fun _ _ => rfl⟩
theorem allEq_eq {α : Type} [DecidableEq α] : ∀ (xs ys : List α), allEq (fun x y => decide (x = y)) xs ys = decide (xs = ys)
 | [], [] => rfl
 | [], _ :: _ => by simp [allEq]
 | _ :: _, [] => by simp [allEq]
 | x :: xs, y :: ys => by rw [allEq, allEq_eq xs ys]; simp
set_option maxHeartbeats 1000000 in
theorem neq_el : NeqAt Tryz.prog 137 (fun x => .agg (elC x).toArray) (fun x y => decide (x = y)) := by
 refine ⟨fun x y w => ?_, GuardAt.agg _ (by kernel_rfl)⟩
 have u3 := Tryz.underlying3
 have a3 := Tryz.isAgg3
 have z3 := Tryz.sizeOf3
 have u4 := Tryz.underlying41
 have a4 := Tryz.isAgg41
 have z4 := Tryz.sizeOf41
 have u5 := Tryz.underlying4
 have a5 := Tryz.isAgg4
 have z5 := Tryz.sizeOf4
 have hS : Tryz.prog.underlying 137 = some (.struct (Tryz.prog.fieldsOf 137)) := by kernel_rfl
 have hp : Tryz.prog.stoodInHeld 137 = false := by kernel_rfl
 obtain ⟨x0, x1, x2, x3⟩ := x
 obtain ⟨y0, y1, y2, y3⟩ := y
 simp only [elC]
 rw [run_neq_struct, show (10000 : Nat) = 9999 + 1 from rfl, run_equalIn_agg w 9999 137 _ _ hS hp]
 simp only [Program.fieldsOf, Tryz.underlying137]
 go_simp
 by_cases h0 : x0 = y0
 case neg => simp [h0]
 by_cases h1 : x1 = y1
 case neg => simp [h0, h1]
 by_cases h2 : x2 = y2
 case neg => simp [h0, h1, h2]
 by_cases h3 : x3 = y3
 case neg =>
  have hc : ¬ ((x3 : Int) = (y3 : Int)) := by omega
  simp [h0, h1, h2, h3, hc]
 simp [h0, h1, h2, h3]
set_option maxHeartbeats 1000000 in
theorem neq_en : NeqAt Tryz.prog 131 (fun x => .agg (enC x).toArray) (fun x y => decide (x = y)) := by
 refine ⟨fun x y w => ?_, GuardAt.agg _ (by kernel_rfl)⟩
 have u3 := Tryz.underlying3
 have a3 := Tryz.isAgg3
 have z3 := Tryz.sizeOf3
 have u4 := Tryz.underlying41
 have a4 := Tryz.isAgg41
 have z4 := Tryz.sizeOf41
 have u5 := Tryz.underlying4
 have a5 := Tryz.isAgg4
 have z5 := Tryz.sizeOf4
 have hS : Tryz.prog.underlying 131 = some (.struct (Tryz.prog.fieldsOf 131)) := by kernel_rfl
 have hp : Tryz.prog.stoodInHeld 131 = false := by kernel_rfl
 obtain ⟨x0, x1, x2, x3, x4, x5, x6, x7⟩ := x
 obtain ⟨y0, y1, y2, y3, y4, y5, y6, y7⟩ := y
 simp only [enC]
 rw [run_neq_struct, show (10000 : Nat) = 9999 + 1 from rfl, run_equalIn_agg w 9999 131 _ _ hS hp]
 simp only [Program.fieldsOf, Tryz.underlying131]
 go_simp
 by_cases h0 : x0 = y0
 case neg => simp [h0]
 by_cases h1 : x1 = y1
 case neg => simp [h0, h1]
 by_cases h2 : x2 = y2
 case neg => simp [h0, h1, h2]
 by_cases h3 : x3 = y3
 case neg => simp [h0, h1, h2, h3]
 by_cases h4 : x4 = y4
 case neg =>
  have hc : ¬ ((x4 : Int) = (y4 : Int)) := by omega
  simp [h0, h1, h2, h3, h4, hc]
 by_cases h5 : x5 = y5
 case neg => simp [h0, h1, h2, h3, h4, h5]
 by_cases h6 : x6 = y6
 case neg => simp [h0, h1, h2, h3, h4, h5, h6]
 by_cases h7 : x7 = y7
 case neg => simp [h0, h1, h2, h3, h4, h5, h6, h7]
 simp [h0, h1, h2, h3, h4, h5, h6, h7]
theorem neq_pat : NeqAt Tryz.prog 41 (fun n : Nat => Value.int .u64 (n : Int)) (fun x y => decide (x = y)) := ⟨fun x y w => by rw [(NeqAt.int Tryz.prog 41 .u64).1 (x : Int) (y : Int) w]; show Result.ok (Value.bool (!((x : Int) == (y : Int)))) w = _; rw [show ((x : Int) == (y : Int)) = decide (x = y) from by rw [Bool.eq_iff_iff]; simp; omega], fun op a b x y w => (NeqAt.int Tryz.prog 41 .u64).2 op a b (x : Int) (y : Int) w⟩
set_option maxHeartbeats 1000000 in
theorem eq_el (ao bo : Option Addr) (c d : Nat) (xs ys : List EL) (w : World) (r : Bool) (hx : RowC 4 elC w ao xs) (hy : RowC 4 elC w bo ys) (hxl : xs.length ≤ maxLen) (hyl : ys.length ≤ maxLen) (hr : Hid (decide (xs = ys) = r)) :
  Calls Tryz.prog 104 #[.slice ao xs.length c, .slice bo ys.length d] w fun e w' => e = .returned (.bool r) ∧ Below w.heap.size w w' := by
 unfold maxLen at hxl hyl
 by_cases hl : xs.length = ys.length
 ·by_cases h0 : xs.length = 0
  ·have e1 := List.eq_nil_of_length_eq_zero h0
   have e2 := List.eq_nil_of_length_eq_zero (hl ▸ h0)
   subst e1 e2
   have hr2 : r = true := by rw [← hr.out]; simp
   subst hr2
   clear hr hx hy h0 hl
   go_enter Tryz.func104, Tryz.ntmps104
   go_wp2_with fail
   go_loopg [13] 1 (fun gg iv wr => iv = .int .i64 0 ∧ Below w.heap.size w wr)
   case atStart => exact ⟨rfl, Below.refl _ _⟩
   case round =>
    obtain ⟨rfl, hbr⟩ := hrel
    go_wp2_with fail
    go_ret
    exact ⟨rfl, hbr⟩
  ·obtain ⟨b1, o1, rfl⟩ := hx.addr (i := 0) (by omega)
   obtain ⟨b2, o2, rfl⟩ := hy.addr (i := 0) (by omega)
   have hcall := AnyQ.slices_Equal Tryz.laysEqL 4 Tryz.isAgg137 Tryz.sizeOf137 elC (fun _ => rfl) (fun x y => decide (x = y)) neq_el b1 o1 xs.length c b2 o2 ys.length d xs ys w (Nat.le_refl _) (Nat.le_refl _) hxl hyl (fun j hj i v hi => by rw [getElem!_pos xs j hj] at hi; exact (hx.get hj).2 i v hi) (fun j hj i v hi => by rw [getElem!_pos ys j hj] at hi; exact (hy.get hj).2 i v hi)
   rw [List.take_length, List.take_length, allEq_eq, hr.out] at hcall
   exact hcall.mono fun e w' h => ⟨h.1, by obtain ⟨q, hq⟩ := h.2; rw [hq]; exact below_dr w q⟩
 ·have hr2 : r = false := by rw [← hr.out]; simp; intro h; rw [h] at hl; exact hl rfl
  subst hr2
  have hz : (((xs.length : Nat) : Int) != ((ys.length : Nat) : Int)) = true := by simp; omega
  clear hr hx hy hl
  go_enter Tryz.func104, Tryz.ntmps104
  go_wp2_with fail
  go_ret
  exact ⟨rfl, Below.refl _ _⟩
set_option maxHeartbeats 1000000 in
theorem eq_en (ao bo : Option Addr) (c d : Nat) (xs ys : List EN) (w : World) (r : Bool) (hx : RowC 8 enC w ao xs) (hy : RowC 8 enC w bo ys) (hxl : xs.length ≤ maxLen) (hyl : ys.length ≤ maxLen) (hr : Hid (decide (xs = ys) = r)) :
  Calls Tryz.prog 103 #[.slice ao xs.length c, .slice bo ys.length d] w fun e w' => e = .returned (.bool r) ∧ Below w.heap.size w w' := by
 unfold maxLen at hxl hyl
 by_cases hl : xs.length = ys.length
 ·by_cases h0 : xs.length = 0
  ·have e1 := List.eq_nil_of_length_eq_zero h0
   have e2 := List.eq_nil_of_length_eq_zero (hl ▸ h0)
   subst e1 e2
   have hr2 : r = true := by rw [← hr.out]; simp
   subst hr2
   clear hr hx hy h0 hl
   go_enter Tryz.func103, Tryz.ntmps103
   go_wp2_with fail
   go_loopg [13] 1 (fun gg iv wr => iv = .int .i64 0 ∧ Below w.heap.size w wr)
   case atStart => exact ⟨rfl, Below.refl _ _⟩
   case round =>
    obtain ⟨rfl, hbr⟩ := hrel
    go_wp2_with fail
    go_ret
    exact ⟨rfl, hbr⟩
  ·obtain ⟨b1, o1, rfl⟩ := hx.addr (i := 0) (by omega)
   obtain ⟨b2, o2, rfl⟩ := hy.addr (i := 0) (by omega)
   have hcall := AnyQ.slices_Equal Tryz.laysEqN 8 Tryz.isAgg131 Tryz.sizeOf131 enC (fun _ => rfl) (fun x y => decide (x = y)) neq_en b1 o1 xs.length c b2 o2 ys.length d xs ys w (Nat.le_refl _) (Nat.le_refl _) hxl hyl (fun j hj i v hi => by rw [getElem!_pos xs j hj] at hi; exact (hx.get hj).2 i v hi) (fun j hj i v hi => by rw [getElem!_pos ys j hj] at hi; exact (hy.get hj).2 i v hi)
   rw [List.take_length, List.take_length, allEq_eq, hr.out] at hcall
   exact hcall.mono fun e w' h => ⟨h.1, by obtain ⟨q, hq⟩ := h.2; rw [hq]; exact below_dr w q⟩
 ·have hr2 : r = false := by rw [← hr.out]; simp; intro h; rw [h] at hl; exact hl rfl
  subst hr2
  have hz : (((xs.length : Nat) : Int) != ((ys.length : Nat) : Int)) = true := by simp; omega
  clear hr hx hy hl
  go_enter Tryz.func103, Tryz.ntmps103
  go_wp2_with fail
  go_ret
  exact ⟨rfl, Below.refl _ _⟩
set_option maxHeartbeats 1000000 in
theorem eq_pat (ao bo : Option Addr) (c d : Nat) (xs ys : List Nat) (w : World) (r : Bool) (hx : Cells .u64 w ao xs) (hy : Cells .u64 w bo ys) (hxl : xs.length ≤ maxLen) (hyl : ys.length ≤ maxLen) (hr : Hid (decide (xs = ys) = r)) :
  Calls Tryz.prog 102 #[.slice ao xs.length c, .slice bo ys.length d] w fun e w' => e = .returned (.bool r) ∧ Below w.heap.size w w' := by
 unfold maxLen at hxl hyl
 by_cases hl : xs.length = ys.length
 ·by_cases h0 : xs.length = 0
  ·have e1 := List.eq_nil_of_length_eq_zero h0
   have e2 := List.eq_nil_of_length_eq_zero (hl ▸ h0)
   subst e1 e2
   have hr2 : r = true := by rw [← hr.out]; simp
   subst hr2
   clear hr hx hy h0 hl
   go_enter Tryz.func102, Tryz.ntmps102
   go_wp2_with fail
   go_loopg [13] 1 (fun gg iv wr => iv = .int .i64 0 ∧ Below w.heap.size w wr)
   case atStart => exact ⟨rfl, Below.refl _ _⟩
   case round =>
    obtain ⟨rfl, hbr⟩ := hrel
    go_wp2_with fail
    go_ret
    exact ⟨rfl, hbr⟩
  ·rcases hx with h | ⟨b1, o1, rfl, hb1, hc1⟩
   ·rw [h] at h0; simp at h0
   rcases hy with h | ⟨b2, o2, rfl, hb2, hc2⟩
   ·rw [h] at hl; rw [hl] at h0; simp at h0
   have hcall := AnyE.slices_Equal Tryz.laysEqP (fun n : Nat => Value.int .u64 (n : Int)) (fun x y => decide (x = y)) neq_pat b1 o1 xs.length c b2 o2 ys.length d xs ys w (Nat.le_refl _) (Nat.le_refl _) hxl hyl (fun j hj => by rw [hc1 j hj, getElem!_pos xs j hj, List.getElem?_eq_getElem hj]; rfl) (fun j hj => by rw [hc2 j hj, getElem!_pos ys j hj, List.getElem?_eq_getElem hj]; rfl)
   rw [List.take_length, List.take_length, allEq_eq, hr.out] at hcall
   exact hcall.mono fun e w' h => ⟨h.1, by obtain ⟨q, hq⟩ := h.2; rw [hq]; exact below_dr w q⟩
 ·have hr2 : r = false := by rw [← hr.out]; simp; intro h; rw [h] at hl; exact hl rfl
  subst hr2
  have hz : (((xs.length : Nat) : Int) != ((ys.length : Nat) : Int)) = true := by simp; omega
  clear hr hx hy hl
  go_enter Tryz.func102, Tryz.ntmps102
  go_wp2_with fail
  go_ret
  exact ⟨rfl, Below.refl _ _⟩
end Go.Proofs.YtcpfanpcdkoiaaaGreat
namespace Go.Proofs.YtcpfanpcdkoiaaaGreat
open Go.RowKit


theorem ee_eq (e f : EE) : decide (e = f) = (decide (e.feats = f.feats) && (decide (e.tgts = f.tgts) && (decide (e.agg = f.agg) && (decide (e.post = f.post) && (decide (e.base = f.base) && (decide (e.nodes = f.nodes) && decide (e.leaves = f.leaves))))))) := by
 obtain ⟨a1, a2, a3, a4, a5, a6, a7⟩ := e; obtain ⟨b1, b2, b3, b4, b5, b6, b7⟩ := f; rw [Bool.eq_iff_iff]; simp
set_option maxHeartbeats 4000000 in
theorem same_any (v : Value) (e : EE) (bo : Option Addr) (bc : Nat) (no : Option Addr) (nc : Nat) (lo : Option Addr) (lc : Nat) (v2 : Value) (f : EE) (bo2 : Option Addr) (bc2 : Nat) (no2 : Option Addr) (nc2 : Nat) (lo2 : Option Addr) (lc2 : Nat) (w : World) (h : EnsIs w v e bo bc no nc lo lc) (h' : EnsIs w v2 f bo2 bc2 no2 nc2 lo2 lc2) (r : Bool) (hr : Hid (decide (e = f) = r)) :
  Calls Tryz.prog 30 #[v, v2] w fun e w' => e = .returned (.bool r) ∧ Below w.heap.size w w' := by
 obtain ⟨rfl, h1, h2, h4, h5, h3, h6, h7, h8, h9⟩ := h
 obtain ⟨rfl, g1, g2, g4, g5, g3, g6, g7, g8, g9⟩ := h'
 obtain ⟨k1, hk1⟩ : ∃ b, decide (e.base = f.base) = b := ⟨_, rfl⟩
 obtain ⟨k2, hk2⟩ : ∃ b, decide (e.nodes = f.nodes) = b := ⟨_, rfl⟩
 obtain ⟨k3, hk3⟩ : ∃ b, decide (e.leaves = f.leaves) = b := ⟨_, rfl⟩
 have hr2 : r = (decide (e.feats = f.feats) && (decide (e.tgts = f.tgts) && (decide (e.agg = f.agg) && (decide (e.post = f.post) && (k1 && (k2 && k3)))))) := by rw [← hr.out, ← hk1, ← hk2, ← hk3]; exact ee_eq e f
 have Hk1 := Lib.hid hk1; have Hk2 := Lib.hid hk2; have Hk3 := Lib.hid hk3
 clear hk1 hk2 hk3 hr
 obtain ⟨w0, hw0⟩ : ∃ w0, w0 = ((w.alloc (.cells #[.int .i64 e.feats, .int .i64 e.tgts, .string ⟨e.agg.toArray⟩, .string ⟨e.post.toArray⟩, .slice bo e.base.length bc, .slice no e.nodes.length nc, .slice lo e.leaves.length lc] 75)).alloc (.cells #[.int .i64 f.feats, .int .i64 f.tgts, .string ⟨f.agg.toArray⟩, .string ⟨f.post.toArray⟩, .slice bo2 f.base.length bc2, .slice no2 f.nodes.length nc2, .slice lo2 f.leaves.length lc2] 75)) := ⟨_, rfl⟩
 have hbf : Below w.heap.size w w0 := by rw [hw0]; exact (((Below.refl _ w).alloc (Nat.le_refl _) _).alloc (by simp <;> omega) _)
 obtain ⟨pe, hpe⟩ : ∃ p, p = w.heap.size := ⟨_, rfl⟩
 have hbe : BoxL w0 pe [.int .i64 e.feats, .int .i64 e.tgts, .string ⟨e.agg.toArray⟩, .string ⟨e.post.toArray⟩, .slice bo e.base.length bc, .slice no e.nodes.length nc, .slice lo e.leaves.length lc] := by rw [hw0, hpe]; exact BoxL.of7 (by go_simp) (by go_simp) (by go_simp) (by go_simp) (by go_simp) (by go_simp) (by go_simp) (by go_simp) (by go_simp) (by go_simp) (by go_simp) (by go_simp) (by go_simp) (by go_simp)
 obtain ⟨pg, hpg⟩ : ∃ p, p = w.heap.size + 1 := ⟨_, rfl⟩
 have hbg : BoxL w0 pg [.int .i64 f.feats, .int .i64 f.tgts, .string ⟨f.agg.toArray⟩, .string ⟨f.post.toArray⟩, .slice bo2 f.base.length bc2, .slice no2 f.nodes.length nc2, .slice lo2 f.leaves.length lc2] := by rw [hw0, hpg]; exact BoxL.of7 (by go_simp) (by go_simp) (by go_simp) (by go_simp) (by go_simp) (by go_simp) (by go_simp) (by go_simp) (by go_simp) (by go_simp) (by go_simp) (by go_simp) (by go_simp) (by go_simp)
 have HP : Hid (w.heap.size ≤ pe ∧ pe < pg) := Lib.hid (by omega)
 have HW := Lib.hid hw0; clear hw0
 go_enter Tryz.func30, Tryz.ntmps30
 go_upto_region 1 with fail
 rw [← HW.out, ← hpg, ← hpe]
 clear hpe hpg HW
 obtain ⟨ee0, ee1, ee2, ee3, ee4, ee5, ee6⟩ := hbe.c7
 obtain ⟨eg0, eg1, eg2, eg3, eg4, eg5, eg6⟩ := hbg.c7
 have hP := eq_pat bo bo2 bc bc2 e.base f.base w0 k1 (h1.below hbf) (g1.below hbf) h5 g5 Hk1
 have hN := fun W (hW : Below w0.heap.size w0 W) => eq_en no no2 nc nc2 e.nodes f.nodes W k2 ((h2.below (B := 0) hbf).below (B := 0) hW) ((g2.below (B := 0) hbf).below (B := 0) hW) h3 g3 Hk2
 have hL := fun W (hW : Below w0.heap.size w0 W) => eq_el lo lo2 lc lc2 e.leaves f.leaves W k3 ((h4.below (B := 0) hbf).below (B := 0) hW) ((g4.below (B := 0) hbf).below (B := 0) hW) h6 g6 Hk3
 clear Hk1 Hk2 Hk3
 have hbe0 := hbe
 have hbg0 := hbg
 have hr3 := Lib.hid hr2
 clear hr2
 by_cases q0 : e.feats = f.feats
 case neg =>
  have z0 : (e.feats == f.feats) = false := by simp [q0]
  have hr4 : r = false := by rw [hr3.out]; simp [q0]
  subst hr4
  clear q0
  go_wp2_with fail
  go_ret
  exact ⟨rfl, hbf⟩
 have z0 : (e.feats == f.feats) = true := by simp [q0]
 have Q0 := Lib.hid q0
 clear q0
 by_cases q1 : e.tgts = f.tgts
 case neg =>
  have z1 : (e.tgts == f.tgts) = false := by simp [q1]
  have hr4 : r = false := by rw [hr3.out]; simp [Q0.out, q1]
  subst hr4
  clear q1
  go_wp2_with fail
  go_ret
  exact ⟨rfl, hbf⟩
 have z1 : (e.tgts == f.tgts) = true := by simp [q1]
 have Q1 := Lib.hid q1
 clear q1
 by_cases q2 : e.agg = f.agg
 case neg =>
  have z2 : (e.agg == f.agg) = false := by simp [q2]
  have hr4 : r = false := by rw [hr3.out]; simp [Q0.out, Q1.out, q2]
  subst hr4
  clear q2
  go_wp2_with fail
  go_ret
  exact ⟨rfl, hbf⟩
 have z2 : (e.agg == f.agg) = true := by simp [q2]
 have Q2 := Lib.hid q2
 clear q2
 by_cases q3 : e.post = f.post
 case neg =>
  have z3 : (e.post == f.post) = false := by simp [q3]
  have hr4 : r = false := by rw [hr3.out]; simp [Q0.out, Q1.out, Q2.out, q3]
  subst hr4
  clear q3
  go_wp2_with fail
  go_ret
  exact ⟨rfl, hbf⟩
 have z3 : (e.post == f.post) = true := by simp [q3]
 have Q3 := Lib.hid q3
 clear q3
 have hr4 : r = (k1 && (k2 && k3)) := by rw [hr3.out, Q0.out, Q1.out, Q2.out, Q3.out]; simp
 subst hr4
 clear hr3
 cases k1
 case false =>
  go_wp2_with (go_at_call 102; refine hP.mono ?_; rintro e9 w1 ⟨rfl, hb1⟩; replace hbe := hbe0.kept hb1; replace hbg := hbg0.kept hb1; clear ee0 ee1 ee2 ee3 ee4 ee5 ee6 eg0 eg1 eg2 eg3 eg4 eg5 eg6; obtain ⟨ee0, ee1, ee2, ee3, ee4, ee5, ee6⟩ := hbe.c7; obtain ⟨eg0, eg1, eg2, eg3, eg4, eg5, eg6⟩ := hbg.c7)
  go_ret
  exact ⟨rfl, hbf.trans (hb1.mono hbf.size)⟩
 cases k2
 case false =>
  go_wp2_with (first | (go_at_call 102; refine hP.mono ?_; rintro e9 w1 ⟨rfl, hb1⟩; replace hbe := hbe0.kept hb1; replace hbg := hbg0.kept hb1; clear ee0 ee1 ee2 ee3 ee4 ee5 ee6 eg0 eg1 eg2 eg3 eg4 eg5 eg6; obtain ⟨ee0, ee1, ee2, ee3, ee4, ee5, ee6⟩ := hbe.c7; obtain ⟨eg0, eg1, eg2, eg3, eg4, eg5, eg6⟩ := hbg.c7) | (go_at_call 103; refine (hN _ hb1).mono ?_; rintro e9 w2 ⟨rfl, hb2⟩; replace hb2 := hb1.trans (hb2.mono hb1.size); replace hbe := hbe0.kept hb2; replace hbg := hbg0.kept hb2; clear ee0 ee1 ee2 ee3 ee4 ee5 ee6 eg0 eg1 eg2 eg3 eg4 eg5 eg6; obtain ⟨ee0, ee1, ee2, ee3, ee4, ee5, ee6⟩ := hbe.c7; obtain ⟨eg0, eg1, eg2, eg3, eg4, eg5, eg6⟩ := hbg.c7))
  go_ret
  exact ⟨rfl, hbf.trans (hb2.mono hbf.size)⟩
 go_wp2_with (first | (go_at_call 102; refine hP.mono ?_; rintro e9 w1 ⟨rfl, hb1⟩; replace hbe := hbe0.kept hb1; replace hbg := hbg0.kept hb1; clear ee0 ee1 ee2 ee3 ee4 ee5 ee6 eg0 eg1 eg2 eg3 eg4 eg5 eg6; obtain ⟨ee0, ee1, ee2, ee3, ee4, ee5, ee6⟩ := hbe.c7; obtain ⟨eg0, eg1, eg2, eg3, eg4, eg5, eg6⟩ := hbg.c7) | (go_at_call 103; refine (hN _ hb1).mono ?_; rintro e9 w2 ⟨rfl, hb2⟩; replace hb2 := hb1.trans (hb2.mono hb1.size); replace hbe := hbe0.kept hb2; replace hbg := hbg0.kept hb2; clear ee0 ee1 ee2 ee3 ee4 ee5 ee6 eg0 eg1 eg2 eg3 eg4 eg5 eg6; obtain ⟨ee0, ee1, ee2, ee3, ee4, ee5, ee6⟩ := hbe.c7; obtain ⟨eg0, eg1, eg2, eg3, eg4, eg5, eg6⟩ := hbg.c7) | (go_at_call 104; refine (hL _ hb2).mono ?_; rintro e9 w3 ⟨rfl, hb3⟩; replace hb3 := hb2.trans (hb3.mono hb2.size)))
 go_ret
 exact ⟨by first | rfl | simp, hbf.trans (hb3.mono hbf.size)⟩
end Go.Proofs.YtcpfanpcdkoiaaaGreat
namespace Go.Proofs.YtcpfanpcdkoiaaaGreat
open Go.RowKit


theorem flat_get {α β : Type} {k : Nat} {enc : α → List β} (hk : ∀ x, (enc x).length = k) : ∀ (xs : List α) (i : Nat) (x : α) (j : Nat) (c : β), xs[i]? = some x → (enc x)[j]? = some c → (xs.flatMap enc)[i * k + j]? = some c
 | [], i, x, j, c, h, _ => by simp at h
 | y :: r, 0, x, j, c, h, hj => by
  simp at h; subst h
  rw [List.flatMap_cons, Nat.zero_mul, Nat.zero_add, List.getElem?_append_left (List.getElem?_eq_some_iff.1 hj).1]
  exact hj
 | y :: r, i + 1, x, j, c, h, hj => by
  rw [List.flatMap_cons, List.getElem?_append_right (by rw [hk]; have h9 : (i + 1) * k = i * k + k := Nat.succ_mul i k; omega), hk, show (i + 1) * k + j - k = i * k + j by have h9 : (i + 1) * k = i * k + k := Nat.succ_mul i k; omega]
  exact flat_get hk r i x j c (by simpa using h) hj
def oneN : List EN := [⟨0, 0, 0, 1, 1069547520, 1, 2, true⟩, ⟨0, 1, 0, 7, 0, 0, 0, false⟩, ⟨0, 2, 0, 7, 0, 0, 0, false⟩]
def oneL : List EL := [⟨0, 1, 0, 1073741824⟩, ⟨0, 2, 0, 1077936128⟩]
def oneE : EE := ⟨1, 1, [83, 85, 77], [78, 79, 78, 69], [], oneN, oneL⟩
set_option maxHeartbeats 1000000 in
theorem one_any (w : World) : Calls Tryz.prog 81 #[] w fun e w' => ∃ v no nc lo lc, e = .returned v ∧ EnsIs w' v oneE none 0 no nc lo lc ∧ Below w.heap.size w w' := by
 go_enter Tryz.func81, Tryz.ntmps81
 go_wp2_with fail
 refine bodyPost_ret (v := .agg #[.int .i64 1, .int .i64 1, .string ⟨#[83, 85, 77]⟩, .string ⟨#[78, 79, 78, 69]⟩, .slice none 0 0, .slice (some ⟨w.heap.size + 1, 0, none⟩) 3 3, .slice (some ⟨w.heap.size + 1 + 1, 0, none⟩) 2 2]) ?_ rfl ⟨_, _, _, _, _, rfl, ⟨rfl, .inl rfl, ?_, ?_, by decide, by decide, by decide, by decide, ?_, ?_⟩, ?_⟩
 ·simp [results, Tryz.results81, go_sem]
 ·refine .inr ⟨_, 0, rfl, by simp, fun i x hi j c hj => ?_⟩
  match i, hi with
  | 0, hi =>
   cases hi
   match j, hj with
   | 0, hj => cases hj; go_simp
   | 1, hj => cases hj; go_simp
   | 2, hj => cases hj; go_simp
   | 3, hj => cases hj; go_simp
   | 4, hj => cases hj; go_simp
   | 5, hj => cases hj; go_simp
   | 6, hj => cases hj; go_simp
   | 7, hj => cases hj; go_simp
  | 1, hi =>
   cases hi
   match j, hj with
   | 0, hj => cases hj; go_simp
   | 1, hj => cases hj; go_simp
   | 2, hj => cases hj; go_simp
   | 3, hj => cases hj; go_simp
   | 4, hj => cases hj; go_simp
   | 5, hj => cases hj; go_simp
   | 6, hj => cases hj; go_simp
   | 7, hj => cases hj; go_simp
  | 2, hi =>
   cases hi
   match j, hj with
   | 0, hj => cases hj; go_simp
   | 1, hj => cases hj; go_simp
   | 2, hj => cases hj; go_simp
   | 3, hj => cases hj; go_simp
   | 4, hj => cases hj; go_simp
   | 5, hj => cases hj; go_simp
   | 6, hj => cases hj; go_simp
   | 7, hj => cases hj; go_simp
 ·refine .inr ⟨_, 0, rfl, by simp, fun i x hi j c hj => ?_⟩
  match i, hi with
  | 0, hi =>
   cases hi
   match j, hj with
   | 0, hj => cases hj; go_simp
   | 1, hj => cases hj; go_simp
   | 2, hj => cases hj; go_simp
   | 3, hj => cases hj; go_simp
  | 1, hi =>
   cases hi
   match j, hj with
   | 0, hj => cases hj; go_simp
   | 1, hj => cases hj; go_simp
   | 2, hj => cases hj; go_simp
   | 3, hj => cases hj; go_simp
 ·intro n hn
  simp only [oneE, oneN, List.mem_cons, List.not_mem_nil, or_false] at hn
  rcases hn with rfl | rfl | rfl <;> exact ⟨by decide, rfl, rfl, rfl, rfl, rfl, rfl⟩
 ·intro n hn
  simp only [oneE, oneL, List.mem_cons, List.not_mem_nil, or_false] at hn
  rcases hn with rfl | rfl <;> exact ⟨by decide, rfl, rfl, rfl⟩
 ·exact (((Below.refl _ w).alloc (Nat.le_refl _) _).alloc (by simp) _).alloc (by simp; omega) _
def zeroE : EE := ⟨0, 0, [], [], [], [], []⟩
theorem zeroE_is (w : World) : EnsIs w (.agg #[.int .i64 0, .int .i64 0, .string ⟨#[]⟩, .string ⟨#[]⟩, .slice none 0 0, .slice none 0 0, .slice none 0 0]) zeroE none 0 none 0 none 0 :=
 ⟨rfl, .inl rfl, .inl rfl, .inl rfl, by decide, by decide, by decide, by simp [zeroE], by simp [zeroE], by simp [zeroE]⟩
theorem check_zero : checkE zeroE = 1 := by kernel_rfl
theorem check_one : checkE oneE = 0 := by kernel_rfl
theorem root_one : rootE oneE.nodes 0 = some 0 := by kernel_rfl
set_option maxHeartbeats 2000000 in
theorem alive22_any (w : World) : Calls Tryz.prog 27 #[] w fun e w' => e = .returned (.bool true) ∧ Below w.heap.size w w' := by
 have hC0 := fun W => check_any _ zeroE none 0 none 0 none 0 W (zeroE_is W) (by decide) 1 (Lib.hid check_zero)
 have hMo := fun W => mode_any [66, 82, 65, 78, 67, 72, 95, 71, 84] W 4 true (Lib.hid (by decide)) (Lib.hid (by decide))
 have hMn := fun W => modeName_any 7 W [76, 69, 65, 70] (Lib.hid (by decide))
 go_enter Tryz.func27, Tryz.ntmps27
 go_upto_region 2 with (go_at_call 28; refine (hC0 _).mono ?_; rintro e w1 ⟨rfl, hb1⟩)
 go_upto_region 3 with (first | (go_at_call 81; refine (one_any _).mono ?_; rintro e w2 ⟨v2, no2, nc2, lo2, lc2, rfl, hE2, hb2⟩; obtain ⟨rfl⟩ := hE2.val) | (go_at_call 28; refine (check_any _ oneE _ _ _ _ _ _ w2 hE2 (by decide) 0 (Lib.hid check_one)).mono ?_; rintro e w3 ⟨rfl, hb3⟩))
 clear hE2
 go_upto_region 4 with (first | (go_at_call 81; refine (one_any _).mono ?_; rintro e w4 ⟨v4, no4, nc4, lo4, lc4, rfl, hE4, hb4⟩; obtain ⟨rfl⟩ := hE4.val) | (go_at_call 34; refine (root_any _ oneE _ _ _ _ _ _ 0 w4 hE4 (by decide) 0 true (Lib.hid (by rw [root_one]; rfl)) (Lib.hid (by rw [root_one]; rfl))).mono ?_; rintro e w5 ⟨rfl, hb5⟩))
 clear hE4
 go_upto_region 5 with (go_at_call 82; refine (hMo _).mono ?_; rintro e w6 ⟨rfl, hb6⟩)
 go_wp2_with (first | (go_at_call 83; refine (hMn _).mono ?_; rintro e w7 ⟨rfl, hb7⟩) | (go_at_call 81; have _t := hE8; refine (one_any _).mono ?_; rintro e w9 ⟨v9, no9, nc9, lo9, lc9, rfl, hE9, hb9⟩; obtain ⟨rfl⟩ := hE9.val) | (go_at_call 81; refine (one_any _).mono ?_; rintro e w8 ⟨v8, no8, nc8, lo8, lc8, rfl, hE8, hb8⟩; obtain ⟨rfl⟩ := hE8.val) | (go_at_call 30; refine (same_any _ oneE _ _ _ _ _ _ _ oneE _ _ _ _ _ _ w9 (hE8.below hb9) hE9 true (Lib.hid (by simp))).mono ?_; rintro e w10 ⟨rfl, hb10⟩))
 go_ret
 have q2 := hb1.trans ((hb2.trans (hb3.mono hb2.size)).mono hb1.size)
 have q4 := q2.trans ((hb4.trans (hb5.mono hb4.size)).mono q2.size)
 have q6 := q4.trans ((hb6.trans (hb7.mono hb6.size)).mono q4.size)
 have q8 := q6.trans ((hb8.trans (hb9.mono hb8.size)).mono q6.size)
 exact ⟨rfl, q8.trans (hb10.mono q8.size)⟩
end Go.Proofs.YtcpfanpcdkoiaaaGreat
