/-
  Pb29: LawBd (what is needed of them).
-/
import Derived.Test.YtieffhkfefimeaaGreatDoorPb23
import Derived.Test.YtieffhkfefimeaaGreatDoorPb25
import Derived.Test.YtieffhkfefimeaaGreatDoorPb26
import Derived.Test.YtieffhkfefimeaaGreatDoorPb27
import Derived.Test.YtieffhkfefimeaaGreatDoorPb28

namespace Go.Proofs.YtieffhkfefimeaaGreatDoor
open Go.RowKit Go.Shelf
set_option linter.unusedVariables false
set_option linter.unusedSimpArgs false
theorem RQIs.setNI {w : World} {v : Value} {q : Rat} (h : RQIs w v q) (p : Addr) (u : Value) (hp : ∀ n, w.cell? p ≠ some (.int .i64 n)) : RQIs (w.setCell p u) v q := by
  obtain ⟨s, xo, xl, xc, yo, yl, yc, rfl, h1, h2, h3⟩ := h.form
  exact RQIs.mk h1 (h2.set p u hp) (h3.set p u hp)
/-- A cell of a box that holds no number. -/
theorem BoxL.noI {w : World} {b : Nat} {xs : List Value} (h : BoxL w b xs) (hx : ∀ x ∈ xs, ∀ n, x ≠ .int .i64 n) {i : Nat} (hi : i < xs.length) : ∀ n, w.cell? ⟨b, i, none⟩ ≠ some (.int .i64 n) := by
  intro n e
  rw [h.cell i _ (List.getElem?_eq_getElem hi)] at e
  exact hx _ (List.getElem_mem hi) n (Option.some.inj e)
def modE (e : EE) (s : List UInt8) : EE := { e with base := [], tgts := 1, agg := s }
theorem mod_ens {w W : World} {v : Value} {e : EE} {bo : Option Addr} {bc : Nat} {no : Option Addr} {nc : Nat} {lo : Option Addr} {lc : Nat} (h : EnsIs w v e bo bc no nc lo lc) (hb : Below w.heap.size w W) (s : List UInt8) : EnsIs W (ensV (modE e s) none 0 no nc lo lc) (modE e s) none 0 no nc lo lc :=
  ⟨rfl, .inl rfl, h.nodes.below (B := 0) hb, h.leaves.below (B := 0) hb, Nat.zero_le _, h.nl, h.ll, fun b hb => (by cases hb), h.nv, h.lv⟩
theorem togE_small {agg : List UInt8} {qs : List Rat} {m K : Nat} (hx : ∀ q ∈ qs, DY K q) (hK : K ≤ 2000) (hl : qs.length ≤ 2000) (hm1 : 1 ≤ m) (hm : m ≤ 1000000) : QB (togE agg qs m) 72 := by
  have hp : ∀ way, QB (pkL way qs).1 72 := fun way => by
    have h := List.prefix_refl qs
    rcases Decidable.em (way = 0) with h0 | h0
    · subst h0
      suffices h : ∀ l : List Rat, (∀ q ∈ l, DY K q) → QB (pkL 0 l).1 72 from h qs hx
      intro l
      induction l using snocRec with
      | nil => intro _; exact QB.zero _ (by decide)
      | snoc l x ih =>
        intro hq
        rw [pkL_snoc]
        unfold pkStep
        split
        · exact ((hq x (by simp)).qb (by omega)).mono (by decide)
        · exact ih fun q h => hq q (by simp [h])
    · rcases pkL_spec way h0 qs with ⟨_, h1⟩ | ⟨_, h1⟩
      · rw [h1]; exact QB.zero _ (by decide)
      · exact ((hx _ h1).qb (by omega)).mono (by decide)
  have hs : QB (qsumL qs) 67 := (DY.sum qs hx).qb (by
    have := Nat.mul_le_mul hl hK
    omega)
  unfold togE
  split
  · exact hp _
  · split
    · exact hp _
    · split
      · refine (hs.div (int_qb m hm) ?_).mono (by decide)
        intro h0
        have h1 : ((m : Int) : Rat).num = (0 : Rat).num := by rw [h0]
        rw [Rat.num_intCast] at h1
        have h2 : (0 : Rat).num = 0 := rfl
        rw [h2] at h1
        omega
      · exact hs.mono (by decide)
theorem score_small (e : EE) (row : List Nat) (k : Nat) (hb : e.base = []) (hl : e.leaves.length ≤ 2000) (ht1 : 1 ≤ (treesE e.nodes).length) (ht : (treesE e.nodes).length ≤ 2000) : QB (scoreQ e row k) 72 := by
  unfold scoreQ
  rw [if_pos hb]
  refine togE_small (K := e.leaves.length) giveL_dy hl ?_ ht1 (by omega)
  have := giveL_len e.leaves ((treesE e.nodes).map (lfE e.nodes row)) (k : Int)
  rw [List.length_map] at this
  omega
theorem QB.digits {q : Rat} {k : Nat} (h : QB q k) (hk : k ≤ 100) : (dec q.num.natAbs).length ≤ 1200 ∧ (dec q.den).length ≤ 1200 := by
  have key : ∀ n, (limbs n).length ≤ k → (dec n).length ≤ 1200 := fun n hn => by
    have h1 : n < 4294967296 ^ 100 := by
      refine Classical.byContradiction fun h9 => ?_
      have := lt_limbs_length (k := 100) (Nat.not_lt.1 h9)
      omega
    refine dec_le (Nat.lt_trans h1 (by decide +kernel)) (by decide)
  exact ⟨key _ h.1, key _ h.2⟩
theorem score_text (e : EE) (row : List Nat) (k : Nat) (hb : e.base = []) (hl : e.leaves.length ≤ 2000) (ht1 : 1 ≤ (treesE e.nodes).length) (ht : (treesE e.nodes).length ≤ 2000) : qcode (qtext (scoreQ e row k)) = 0 ∧ qval (qtext (scoreQ e row k)) = scoreQ e row k := by
  have h := (score_small e row k hb hl ht1 ht).digits (by decide)
  exact qparse_text _ h.1 h.2
theorem qtext_len {q : Rat} (h1 : (dec q.num.natAbs).length ≤ 1200) (h2 : (dec q.den).length ≤ 1200) : (qtext q).length ≤ 100000000 := by
  unfold qtext
  split <;> split <;> simp [str] <;> omega
set_option maxRecDepth 100000 in
set_option maxHeartbeats 2000000 in
/-- Score refuses an ensemble that can't be. -/
theorem score_bad (v : Value) (e : EE) (bo : Option Addr) (bc : Nat) (no : Option Addr) (nc : Nat) (lo : Option Addr) (lc : Nat) (ro : Option Addr) (n rc c : Nat) (w : World) (h : EnsIs w v e bo bc no nc lo lc) (hc : Hid (checkE e = c)) (hc0 : c ≠ 0) (hn2 : e.nodes.length ≤ 100000) :
    Calls Tryz.prog 13 #[v, .slice ro n rc] w fun e9 w' => e9 = .returned (.tuple #[.slice none 0 0, .int .i64 1]) ∧ Below w.heap.size w w' := by
  obtain ⟨rfl, h1, h2, h4, h5, h3, h6, h7, h8, h9⟩ := h
  obtain ⟨w0, hw0⟩ : ∃ w0, w0 = (w.alloc (.cells #[.int .i64 e.feats, .int .i64 e.tgts, .string ⟨e.agg.toArray⟩, .string ⟨e.post.toArray⟩, .slice bo e.base.length bc, .slice no e.nodes.length nc, .slice lo e.leaves.length lc] 33)) := ⟨_, rfl⟩
  have hbf : Below w.heap.size w w0 := by rw [hw0]; exact ((Below.refl _ w).alloc (Nat.le_refl _) _)
  obtain ⟨pe, hpe⟩ : ∃ p, p = w.heap.size := ⟨_, rfl⟩
  have hbe : BoxL w0 pe [.int .i64 e.feats, .int .i64 e.tgts, .string ⟨e.agg.toArray⟩, .string ⟨e.post.toArray⟩, .slice bo e.base.length bc, .slice no e.nodes.length nc, .slice lo e.leaves.length lc] := by rw [hw0, hpe]; exact BoxL.of7 (by go_simp) (by go_simp) (by go_simp) (by go_simp) (by go_simp) (by go_simp) (by go_simp) (by go_simp) (by go_simp) (by go_simp) (by go_simp) (by go_simp) (by go_simp) (by go_simp)
  have HP : Hid (w.heap.size ≤ pe) := Lib.hid (by omega)
  have HW := Lib.hid hw0; clear hw0
  go_enter Tryz.func13, Tryz.ntmps13
  go_upto_region 1 with fail
  rw [← HW.out, ← hpe]
  clear hpe HW
  have hE : EnsIs w0 (ensV e bo bc no nc lo lc) e bo bc no nc lo lc := EnsIs.below ⟨rfl, h1, h2, h4, h5, h3, h6, h7, h8, h9⟩ hbf
  have hC := check_any _ e _ _ _ _ _ _ w0 hE hn2 c hc
  rw [decide_eq_false hc0] at hC
  have ee0 := hbe.cell 0 _ rfl
  have ee1 := hbe.cell 1 _ rfl
  have ee2 := hbe.cell 2 _ rfl
  have ee3 := hbe.cell 3 _ rfl
  have ee4 := hbe.cell 4 _ rfl
  have ee5 := hbe.cell 5 _ rfl
  have ee6 := hbe.cell 6 _ rfl
  go_wp2_with (go_at_call 39; refine hC.mono ?_; rintro e9 w1 ⟨rfl, hb⟩)
  go_ret2
  exact ⟨rfl, hbf.trans (hb.mono hbf.size)⟩
/-- What the law's array holds. -/
structure RBs (e : EE) (row : List Nat) (W : World) (a0 a1 a2 b0 b1 b2 c0 c1 c2 : Value) (i : Nat) : Prop where
  ok : 0 < i → checkE (minE e) = 0 ∧ (row.length : Int) = e.feats ∧ 1 ≤ e.nodes.length ∧ e.leaves.length ≤ 2000 ∧ 1 ≤ (treesE e.nodes).length ∧ (treesE e.nodes).length ≤ 2000
  a : 0 < i → RQIs W (.agg #[a0, a1, a2]) (scoreQ (minE e) row 0)
  b : 1 < i → RQIs W (.agg #[b0, b1, b2]) (scoreQ (avgE e) row 0)
  c : 2 < i → RQIs W (.agg #[c0, c1, c2]) (scoreQ (maxE e) row 0)
  ni : ∀ x ∈ [a0, a1, a2, b0, b1, b2, c0, c1, c2], ∀ n, x ≠ .int .i64 n
theorem RBs.below {e : EE} {row : List Nat} {W W' : World} {a0 a1 a2 b0 b1 b2 c0 c1 c2 : Value} {i : Nat} (h : RBs e row W a0 a1 a2 b0 b1 b2 c0 c1 c2 i) (hb : Below W.heap.size W W') : RBs e row W' a0 a1 a2 b0 b1 b2 c0 c1 c2 i :=
  ⟨h.ok, fun x => (h.a x).below hb, fun x => (h.b x).below hb, fun x => (h.c x).below hb, h.ni⟩
theorem RBs.setNI {e : EE} {row : List Nat} {W : World} {a0 a1 a2 b0 b1 b2 c0 c1 c2 : Value} {i : Nat} (h : RBs e row W a0 a1 a2 b0 b1 b2 c0 c1 c2 i) (p : Addr) (u : Value) (hp : ∀ n, W.cell? p ≠ some (.int .i64 n)) : RBs e row (W.setCell p u) a0 a1 a2 b0 b1 b2 c0 c1 c2 i :=
  ⟨h.ok, fun x => (h.a x).setNI p u hp, fun x => (h.b x).setNI p u hp, fun x => (h.c x).setNI p u hp, h.ni⟩
theorem mod_facts {e : EE} {s : List UInt8} (h : checkE (modE e s) = 0) : 1 ≤ e.nodes.length ∧ e.nodes.length ≤ 2000 ∧ e.leaves.length ≤ 2000 ∧ 1 ≤ (treesE e.nodes).length ∧ (treesE e.nodes).length ≤ 2000 := by
  have h1 : sizeE (modE e s) = true := (check_ok h).size
  unfold sizeE at h1
  simp only [Bool.and_eq_true, decide_eq_true_eq] at h1
  obtain ⟨_, _, _, _, h5, h6, h7, h8⟩ := h1
  have h5 : 1 ≤ e.nodes.length := h5
  have h8 : (treesE e.nodes).length ≤ 100 := h8
  refine ⟨h5, h6, h7, ?_, by omega⟩
  have h9 := tree_mem (ns := e.nodes) (k := 0) (by omega)
  exact List.length_pos_of_mem h9
theorem ni_set {xs : List Value} (h : ∀ x ∈ xs, ∀ n, x ≠ .int .i64 n) (i : Nat) {u : Value} (hu : ∀ n, u ≠ .int .i64 n) : ∀ x ∈ xs.set i u, ∀ n, x ≠ .int .i64 n := by
  intro x hx
  rcases List.mem_or_eq_of_mem_set hx with h1 | rfl
  · exact h x h1
  · exact hu
theorem ni_b (b : Bool) : ∀ n, Value.bool b ≠ .int .i64 n := fun n h => by cases h
theorem ni_s (o : Option Addr) (l c : Nat) : ∀ n, Value.slice o l c ≠ .int .i64 n := fun n h => by cases h
theorem oneText {B : Nat} {W : World} {r : Value} {e : EE} {row : List Nat} (h : Owns B 9 W r (stv (scoreT e row 1))) : ∃ g cap, r = .slice (some ⟨g, 0, none⟩) 1 cap ∧ W.cell? ⟨g, 0, none⟩ = some (.string ⟨(qtext (scoreQ e row 0)).toArray⟩) := by
  rcases OwnsK.shape (K := 1) h with ⟨_, h0⟩ | ⟨b, cap, rfl, k1, k2, k3, k4, k5, k6⟩
  · rw [stv_len, scoreT_len] at h0
    cases h0
  · exact ⟨b, cap, rfl, by rw [k5 0 (by rw [stv_len, scoreT_len]; decide)]; rfl⟩
set_option maxRecDepth 100000 in
set_option maxHeartbeats 16000000 in
theorem bounds_e (v : Value) (e : EE) (bo : Option Addr) (bc : Nat) (no : Option Addr) (nc : Nat) (lo : Option Addr) (lc : Nat) (ro : Option Addr) (rc : Nat) (row : List Nat) (w : World) (h : EnsIs w v e bo bc no nc lo lc) (hrl : row.length ≤ rc) (hrx : rc ≤ maxLen) (hrow : Cells .u64 w ro row) (hrm : ∀ x ∈ row, x < 18446744073709551616) :
    Calls Tryz.prog 6 #[v, .slice ro row.length rc] w fun e' w' => e' = .returned (.bool true) ∧ Below w.heap.size w w' := by
  have H0 := Lib.hid h
  obtain ⟨b9, hb9⟩ : ∃ b, ensB e = b := ⟨_, rfl⟩
  have HB9 := Lib.hid hb9
  clear hb9
  have hrx2 := hrx
  unfold maxLen at hrx2
  have hAl := fun W => alive24_any W
  obtain ⟨rfl, h1, h2, h4, h5, h3, h6, h7, h8, h9⟩ := h
  obtain ⟨w0, hw0⟩ : ∃ w0, w0 = (w.alloc (.cells #[.int .i64 e.feats, .int .i64 e.tgts, .string ⟨e.agg.toArray⟩, .string ⟨e.post.toArray⟩, .slice bo e.base.length bc, .slice no e.nodes.length nc, .slice lo e.leaves.length lc] 33)) := ⟨_, rfl⟩
  have hbf : Below w.heap.size w w0 := by rw [hw0]; exact ((Below.refl _ w).alloc (Nat.le_refl _) _)
  obtain ⟨pe, hpe⟩ : ∃ p, p = w.heap.size := ⟨_, rfl⟩
  have hbe : BoxL w0 pe [.int .i64 e.feats, .int .i64 e.tgts, .string ⟨e.agg.toArray⟩, .string ⟨e.post.toArray⟩, .slice bo e.base.length bc, .slice no e.nodes.length nc, .slice lo e.leaves.length lc] := by rw [hw0, hpe]; exact BoxL.of7 (by go_simp) (by go_simp) (by go_simp) (by go_simp) (by go_simp) (by go_simp) (by go_simp) (by go_simp) (by go_simp) (by go_simp) (by go_simp) (by go_simp) (by go_simp) (by go_simp)
  have HP : Hid (w.heap.size ≤ pe) := Lib.hid (by omega)
  have HW := Lib.hid hw0; clear hw0
  go_enter Tryz.func6, Tryz.ntmps6
  go_upto_region 1 with fail
  rw [← HW.out, ← hpe]
  clear hpe HW
  have hE : EnsIs w0 (ensV e bo bc no nc lo lc) e bo bc no nc lo lc := EnsIs.below ⟨rfl, h1, h2, h4, h5, h3, h6, h7, h8, h9⟩ hbf
  have ee0 := hbe.cell 0 _ rfl
  have ee1 := hbe.cell 1 _ rfl
  have ee2 := hbe.cell 2 _ rfl
  have ee3 := hbe.cell 3 _ rfl
  have ee4 := hbe.cell 4 _ rfl
  have ee5 := hbe.cell 5 _ rfl
  have ee6 := hbe.cell 6 _ rfl
  cases b9
  case false =>
    go_wp2_with (first | (go_at_call 11; refine (ens_any _ e _ _ _ _ _ _ w0 hE _ HB9.out).mono ?_; rintro e9 w1 ⟨rfl, hb1⟩) | (go_at_call 8; refine (hAl _).mono ?_; rintro e9 w2 ⟨rfl, hb2⟩))
    go_ret
    exact ⟨rfl, hbf.trans ((hb1.trans (hb2.mono hb1.size)).mono hbf.size)⟩
  have hrz : (0 : Int) ≤ (row.length : Int) := by omega
  rcases Decidable.em ((row.length : Int) > 50) with q50 | q50
  · skip
    go_wp2_with (first | (go_at_call 11; refine (ens_any _ e _ _ _ _ _ _ w0 hE _ HB9.out).mono ?_; rintro e9 w1 ⟨rfl, hb1⟩) | (go_at_call 8; refine (hAl _).mono ?_; rintro e9 w2 ⟨rfl, hb2⟩))
    go_ret
    exact ⟨rfl, hbf.trans ((hb1.trans (hb2.mono hb1.size)).mono hbf.size)⟩
  obtain ⟨hn60, hl60, hb30⟩ := ensB_out HB9.out
  go_upto_region 3 with (first | (go_at_call 11; refine (ens_any _ e _ _ _ _ _ _ w0 hE _ HB9.out).mono ?_; rintro e9 w1 ⟨rfl, hb1⟩) | (go_at_call 8; refine (hAl _).mono ?_; rintro e9 w2 ⟨rfl, hb2⟩))
  replace hb2 := hb1.trans (hb2.mono hb1.size)
  replace hbf := hbf.trans (hb2.mono hbf.size)
  replace hbe := hbe.kept hb2
  clear hb1 hb2 HB9 hE hAl
  clear ee0 ee1 ee2 ee3 ee4 ee5 ee6
  have ee1 := hbe.cell 1 _ rfl
  have ee4 := hbe.cell 4 _ rfl
  have fe1 := hbe.free 1 (by simp)
  have fe4 := hbe.free 4 (by simp)
  obtain ⟨w3, hwE⟩ : ∃ X, X = (w2.setCell ⟨pe, 4, none⟩ (.slice none 0 0)).setCell ⟨pe, 1, none⟩ (.int .i64 1) := ⟨_, rfl⟩
  have HW := Lib.hid hwE
  go_upto_region 4 with fail
  rw [← HW.out]
  have hbe3 : BoxL w3 pe [.int .i64 e.feats, .int .i64 1, .string ⟨e.agg.toArray⟩, .string ⟨e.post.toArray⟩, .slice none 0 0, .slice no e.nodes.length nc, .slice lo e.leaves.length lc] := by rw [hwE]; exact (hbe.set 4 _ (by simp)).set 1 _ (by simp)
  have hbf3 : Below w.heap.size w w3 := by rw [hwE]; exact (hbf.setCell (p := ⟨pe, 4, none⟩) HP.out _).setCell (p := ⟨pe, 1, none⟩) HP.out _
  clear hbe hbf ee1 ee4 fe1 fe4 HW hwE
  obtain ⟨w4, hwE⟩ : ∃ X, X = w3.alloc (.cells #[.bool false, .slice none 0 0, .slice none 0 0, .bool false, .slice none 0 0, .slice none 0 0, .bool false, .slice none 0 0, .slice none 0 0] 53) := ⟨_, rfl⟩
  obtain ⟨pr, hpr⟩ : ∃ p, p = w3.heap.size := ⟨_, rfl⟩
  have hbr4 : BoxL w4 pr [.bool false, .slice none 0 0, .slice none 0 0, .bool false, .slice none 0 0, .slice none 0 0, .bool false, .slice none 0 0, .slice none 0 0] := by rw [hwE, hpr]; exact BoxL.new w3 _ _
  have hb4 : Below w3.heap.size w3 w4 := by rw [hwE]; exact (Below.refl _ _).alloc (Nat.le_refl _) _
  have HW := Lib.hid hwE; clear hwE
  go_upto_region 5 with fail
  rw [← HW.out, ← hpr]
  have Hpr : Hid (pe ≠ pr ∧ w.heap.size ≤ pr) := Lib.hid ⟨by have := hbe3.lt; omega, by have := hbf3.size; omega⟩
  clear HW hpr
  have hbe4 := hbe3.kept hb4
  have hbf4 := hbf3.trans (hb4.mono hbf3.size)
  clear hbe3 hbf3 hb4
  obtain ⟨w5, hwE⟩ : ∃ X, X = w4.alloc (.cells #[.string ⟨#[77, 73, 78]⟩, .string ⟨#[65, 86, 69, 82, 65, 71, 69]⟩, .string ⟨#[77, 65, 88]⟩] 9) := ⟨_, rfl⟩
  obtain ⟨ps, hps⟩ : ∃ p, p = w4.heap.size := ⟨_, rfl⟩
  have hbs : BoxL w5 ps [.string ⟨#[77, 73, 78]⟩, .string ⟨#[65, 86, 69, 82, 65, 71, 69]⟩, .string ⟨#[77, 65, 88]⟩] := by rw [hwE, hps]; exact BoxL.new w4 _ _
  have hb5 : Below w4.heap.size w4 w5 := by rw [hwE]; exact (Below.refl _ _).alloc (Nat.le_refl _) _
  have HW := Lib.hid hwE; clear hwE
  go_upto_region 6 with fail
  rw [← HW.out, ← hps]
  have Hps : Hid (ps ≠ pe ∧ ps ≠ pr ∧ w.heap.size ≤ ps) := Lib.hid ⟨by have := hbe4.lt; omega, by have := hbr4.lt; omega, by have := hbf4.size; omega⟩
  clear HW hps
  have hbe := hbe4.kept hb5
  have hbr := hbr4.kept hb5
  have hbf := hbf4.trans (hb5.mono hbf4.size)
  clear hbe4 hbr4 hbf4 hb5
  go_loopg [30] 3 (fun gg iv wr => ∃ (i : Nat) (ag : ByteArray) (a0 a1 a2 b0 b1 b2 c0 c1 c2 : Value), i + gg = 3 ∧ iv = .int .i64 (i : Int) ∧ BoxL wr pe [.int .i64 e.feats, .int .i64 1, .string ag, .string ⟨e.post.toArray⟩, .slice none 0 0, .slice no e.nodes.length nc, .slice lo e.leaves.length lc] ∧ BoxL wr pr [a0, a1, a2, b0, b1, b2, c0, c1, c2] ∧ BoxL wr ps [.string ⟨#[77, 73, 78]⟩, .string ⟨#[65, 86, 69, 82, 65, 71, 69]⟩, .string ⟨#[77, 65, 88]⟩] ∧ Hid (RBs e row wr a0 a1 a2 b0 b1 b2 c0 c1 c2 i) ∧ Below w.heap.size w wr)
  case atStart => exact ⟨0, _, _, _, _, _, _, _, _, _, _, by omega, rfl, hbe, hbr, hbs, Lib.hid ⟨fun h => absurd h (by decide), fun h => absurd h (by decide), fun h => absurd h (by decide), fun h => absurd h (by decide), by simp⟩, hbf⟩
  case round =>
    clear hbe hbr hbs hbf
    obtain ⟨i, ag, a0, a1, a2, b0, b1, b2, c0, c1, c2, hi, rfl, hbe, hbr, hbs, HB, hbf⟩ := hrel
    have hi4 : i = 0 ∨ i = 1 ∨ i = 2 ∨ i = 3 := by omega
    rcases hi4 with rfl | rfl | rfl | rfl
    · skip
      have es := hbs.cell 0 _ rfl
      have ee2 := hbe.cell 2 _ rfl
      have fe2 := hbe.free 2 (by simp)
      obtain ⟨v3, hwE⟩ : ∃ X, X = wr.setCell ⟨pe, 2, none⟩ (.string ⟨#[77, 73, 78]⟩) := ⟨_, rfl⟩
      have HW := Lib.hid hwE
      go_upto_region 9 with fail
      rw [← HW.out]
      have hbe3 : BoxL v3 pe [.int .i64 e.feats, .int .i64 1, .string ⟨#[77, 73, 78]⟩, .string ⟨e.post.toArray⟩, .slice none 0 0, .slice no e.nodes.length nc, .slice lo e.leaves.length lc] := by rw [hwE]; exact hbe.set 2 _ (by simp)
      have hbr3 : BoxL v3 pr [a0, a1, a2, b0, b1, b2, c0, c1, c2] := by rw [hwE]; exact hbr.setOther (Ne.symm Hpr.out.1) 2 _
      have hbs3 : BoxL v3 ps [.string ⟨#[77, 73, 78]⟩, .string ⟨#[65, 86, 69, 82, 65, 71, 69]⟩, .string ⟨#[77, 65, 88]⟩] := by rw [hwE]; exact hbs.setOther Hps.out.1 2 _
      have hbf3 : Below w.heap.size w v3 := by rw [hwE]; exact hbf.setCell (p := ⟨pe, 2, none⟩) HP.out _
      have HB3 : Hid (RBs e row v3 a0 a1 a2 b0 b1 b2 c0 c1 c2 0) := Lib.hid (by rw [hwE]; exact HB.out.setNI _ _ (fun n hn => by rw [ee2] at hn; cases hn))
      clear hbe hbr hbs hbf HB es ee2 fe2 HW hwE
      have hE : EnsIs v3 (ensV (minE e) none 0 no nc lo lc) (minE e) none 0 no nc lo lc := mod_ens H0.out hbf3 [77, 73, 78]
      have hrow3 := hrow.below hbf3
      have ee0 := hbe3.cell 0 _ rfl
      have ee1 := hbe3.cell 1 _ rfl
      have ee2 := hbe3.cell 2 _ rfl
      have ee3 := hbe3.cell 3 _ rfl
      have ee4 := hbe3.cell 4 _ rfl
      have ee5 := hbe3.cell 5 _ rfl
      have ee6 := hbe3.cell 6 _ rfl
      obtain ⟨c, hc⟩ : ∃ c, checkE (minE e) = c := ⟨_, rfl⟩
      rcases Decidable.em (c = 0) with q0 | q0
      · subst q0
        obtain ⟨hn1, hn2, hl2, ht1, ht2⟩ := mod_facts (e := e) (s := [77, 73, 78]) hc
        have HC := Lib.hid hc
        clear hc
        rcases Decidable.em ((row.length : Int) = e.feats) with q1 | q1
        · have hAg : Hid ([77, 73, 78] ∈ aggW) := Lib.hid (by decide)
          have hS := score_ok _ (minE e) none 0 no nc lo lc ro rc row v3 hE hrl hrx hrow3 hrm HC (Lib.hid q1) (Lib.hid (Int.le_of_eq q1.symm)) hn1 hn2 hl2 1 (Lib.hid rfl) (by decide) ht2 ht1 hAg (Lib.hid rfl)
          change Calls _ _ #[.agg #[.int .i64 e.feats, .int .i64 1, .string ⟨#[77, 73, 78]⟩, .string ⟨e.post.toArray⟩, .slice none 0 0, .slice no e.nodes.length nc, .slice lo e.leaves.length lc], .slice ro row.length rc] v3 _ at hS
          have H1 := Lib.hid q1
          clear q1 hAg
          obtain ⟨hcd, hvl⟩ := score_text (minE e) row 0 rfl hl2 ht1 ht2
          have hqb := score_small (minE e) row 0 rfl hl2 ht1 ht2
          have hlen := qtext_len (hqb.digits (by decide)).1 (hqb.digits (by decide)).2
          go_upto_region 10 with (go_at_call 13; (with_reducible refine (hS).mono ?_); rintro e9 v4 ⟨r9, rfl, hO9, hb⟩; obtain ⟨g9, cap9, rfl, et⟩ := oneText hO9; clear hO9)
          clear ee0 ee1 ee2 ee3 ee4 ee5 ee6
          clear hS
          obtain ⟨q, hq⟩ : ∃ q, scoreQ (minE e) row 0 = q := ⟨_, rfl⟩
          rw [hq] at hcd hvl hlen et
          have HQ := Lib.hid hq
          clear hq hqb
          have hR := fun W => rqparse_main (qtext q) W q 0 (Lib.hid hvl.symm) (Lib.hid hcd.symm) hlen
          clear hcd hvl hlen
          have hbe4 := hbe3.kept hb
          have hbr4 := hbr3.kept hb
          have hbs4 := hbs3.kept hb
          have HB4 := Lib.hid (HB3.out.below hb)
          have hbf4 := hbf3.trans (hb.mono hbf3.size)
          clear hbe3 hbr3 hbs3 HB3 hbf3 hb hE hrow3
          go_upto_region 15 with (go_at_call 14; (with_reducible refine (hR _).mono ?_); rintro e9 v5 hq9; obtain ⟨xB, xxO, xxL, xxC, xyO, xyL, xyC, rfl, hS9, hxx, hxy, hx, hb⟩ := hq9.out; clear hS9 hxx hxy hq9; obtain ⟨v6, hwE⟩ : ∃ X, X = v5.alloc (.cells #[.bool xB, .slice xxO xxL xxC, .slice xyO xyL xyC] 44) := ⟨_, rfl⟩; obtain ⟨px, hpx⟩ : ∃ p, p = v5.heap.size := ⟨_, rfl⟩; have hb6 : Below v5.heap.size v5 v6 := (by rw [hwE]; exact (Below.refl _ _).alloc (Nat.le_refl _) _); have hbx : BoxL v6 px [.bool xB, .slice xxO xxL xxC, .slice xyO xyL xyC] := (by rw [hwE, hpx]; exact BoxL.new v5 _ _); have HW := Lib.hid hwE; clear hwE)
          rw [← HW.out, ← hpx]
          clear HW hpx et hR
          replace hx := hx.below hb6
          have hb2 := hb.trans (hb6.mono hb.size)
          clear hb hb6
          have hbe := hbe4.kept hb2
          have hbr := hbr4.kept hb2
          have hbs := hbs4.kept hb2
          have HB := Lib.hid (HB4.out.below hb2)
          have hbf := hbf4.trans (hb2.mono hbf4.size)
          clear hbe4 hbr4 hbs4 HB4 hbf4 hb2
          have ex0 := hbx.cell 0 _ rfl
          have ex1 := hbx.cell 1 _ rfl
          have ex2 := hbx.cell 2 _ rfl
          have er0 := hbr.cell 0 _ rfl
          have fr0 := hbr.free 0 (by simp)
          have er1 := hbr.cell 1 _ rfl
          have fr1 := hbr.free 1 (by simp)
          have er2 := hbr.cell 2 _ rfl
          have fr2 := hbr.free 2 (by simp)
          obtain ⟨v7, hwE⟩ : ∃ X, X = ((v6.setCell ⟨pr, 0, none⟩ (.bool xB)).setCell ⟨pr, 1, none⟩ (.slice xxO xxL xxC)).setCell ⟨pr, 2, none⟩ (.slice xyO xyL xyC) := ⟨_, rfl⟩
          have HW := Lib.hid hwE
          go_upto_region 18 with fail
          rw [← HW.out]
          have hni := HB.out.ni
          have n0 := hbr.noI hni (i := 0) (by simp)
          have r1 := hbr.set 0 (.bool xB) (by simp)
          have n1 := r1.noI (ni_set hni 0 (ni_b _)) (i := 1) (by simp)
          have r2 := r1.set 1 (.slice xxO xxL xxC) (by simp)
          have n2 := r2.noI (ni_set (ni_set hni 0 (ni_b _)) 1 (ni_s _ _ _)) (i := 2) (by simp)
          have r3 := r2.set 2 (.slice xyO xyL xyC) (by simp)
          have hbr7 : BoxL v7 pr [.bool xB, .slice xxO xxL xxC, .slice xyO xyL xyC, b0, b1, b2, c0, c1, c2] := by rw [hwE]; exact r3
          have hbe7 : BoxL v7 pe [.int .i64 e.feats, .int .i64 1, .string ⟨#[77, 73, 78]⟩, .string ⟨e.post.toArray⟩, .slice none 0 0, .slice no e.nodes.length nc, .slice lo e.leaves.length lc] := by rw [hwE]; exact ((hbe.setOther Hpr.out.1 0 _).setOther Hpr.out.1 1 _).setOther Hpr.out.1 2 _
          have hbs7 : BoxL v7 ps [.string ⟨#[77, 73, 78]⟩, .string ⟨#[65, 86, 69, 82, 65, 71, 69]⟩, .string ⟨#[77, 65, 88]⟩] := by rw [hwE]; exact ((hbs.setOther Hps.out.2.1 0 _).setOther Hps.out.2.1 1 _).setOther Hps.out.2.1 2 _
          have hbf7 : Below w.heap.size w v7 := by rw [hwE]; exact ((hbf.setCell (p := ⟨pr, 0, none⟩) Hpr.out.2 _).setCell (p := ⟨pr, 1, none⟩) Hpr.out.2 _).setCell (p := ⟨pr, 2, none⟩) Hpr.out.2 _
          have HB7 := ((HB.out.setNI ⟨pr, 0, none⟩ (.bool xB) n0).setNI ⟨pr, 1, none⟩ (.slice xxO xxL xxC) n1).setNI ⟨pr, 2, none⟩ (.slice xyO xyL xyC) n2
          rw [← hwE] at HB7
          have hx7 := ((hx.setNI ⟨pr, 0, none⟩ (.bool xB) n0).setNI ⟨pr, 1, none⟩ (.slice xxO xxL xxC) n1).setNI ⟨pr, 2, none⟩ (.slice xyO xyL xyC) n2
          rw [← hwE] at hx7
          have HB8 : Hid (RBs e row v7 (.bool xB) (.slice xxO xxL xxC) (.slice xyO xyL xyC) b0 b1 b2 c0 c1 c2 1) := Lib.hid ⟨fun _ => ⟨HC.out, H1.out, hn1, hl2, ht1, ht2⟩, fun h9 => (by rw [HQ.out]; exact hx7), fun h9 => absurd h9 (by decide), fun h9 => absurd h9 (by decide), ni_set (ni_set (ni_set hni 0 (ni_b _)) 1 (ni_s _ _ _)) 2 (ni_s _ _ _)⟩
          clear hbe hbr hbs HB hbf HB7 hx7 hx r1 r2 r3 n0 n1 n2 hni HW hwE ex0 ex1 ex2 er0 er1 er2 fr0 fr1 fr2 hbx HQ
          go_wp2_with fail
          go_roundg (gk - 1)
          case measure => omega
          case rel => exact ⟨1, _, _, _, _, _, _, _, _, _, _, by omega, by first | rfl | go_num, hbe7, hbr7, hbs7, HB8, hbf7⟩
        · have hS := score_arity _ (minE e) none 0 no nc lo lc ro row.length rc v3 hE HC (Lib.hid q1) hn2
          clear q1
          change Calls _ _ #[.agg #[.int .i64 e.feats, .int .i64 1, .string ⟨#[77, 73, 78]⟩, .string ⟨e.post.toArray⟩, .slice none 0 0, .slice no e.nodes.length nc, .slice lo e.leaves.length lc], .slice ro row.length rc] v3 _ at hS
          go_wp2_with (go_at_call 13; (with_reducible refine (hS).mono ?_); rintro e9 v4 ⟨rfl, hb⟩)
          go_ret
          exact ⟨rfl, hbf3.trans (hb.mono hbf3.size)⟩
      · have hS := score_bad _ (minE e) none 0 no nc lo lc ro row.length rc c v3 hE (Lib.hid hc) q0 (show (minE e).nodes.length ≤ 100000 by show e.nodes.length ≤ 100000; omega)
        clear q0 hc
        change Calls _ _ #[.agg #[.int .i64 e.feats, .int .i64 1, .string ⟨#[77, 73, 78]⟩, .string ⟨e.post.toArray⟩, .slice none 0 0, .slice no e.nodes.length nc, .slice lo e.leaves.length lc], .slice ro row.length rc] v3 _ at hS
        go_wp2_with (go_at_call 13; (with_reducible refine (hS).mono ?_); rintro e9 v4 ⟨rfl, hb⟩)
        go_ret
        exact ⟨rfl, hbf3.trans (hb.mono hbf3.size)⟩
    · skip
      have es := hbs.cell 1 _ rfl
      have ee2 := hbe.cell 2 _ rfl
      have fe2 := hbe.free 2 (by simp)
      obtain ⟨v3, hwE⟩ : ∃ X, X = wr.setCell ⟨pe, 2, none⟩ (.string ⟨#[65, 86, 69, 82, 65, 71, 69]⟩) := ⟨_, rfl⟩
      have HW := Lib.hid hwE
      go_upto_region 9 with fail
      rw [← HW.out]
      have hbe3 : BoxL v3 pe [.int .i64 e.feats, .int .i64 1, .string ⟨#[65, 86, 69, 82, 65, 71, 69]⟩, .string ⟨e.post.toArray⟩, .slice none 0 0, .slice no e.nodes.length nc, .slice lo e.leaves.length lc] := by rw [hwE]; exact hbe.set 2 _ (by simp)
      have hbr3 : BoxL v3 pr [a0, a1, a2, b0, b1, b2, c0, c1, c2] := by rw [hwE]; exact hbr.setOther (Ne.symm Hpr.out.1) 2 _
      have hbs3 : BoxL v3 ps [.string ⟨#[77, 73, 78]⟩, .string ⟨#[65, 86, 69, 82, 65, 71, 69]⟩, .string ⟨#[77, 65, 88]⟩] := by rw [hwE]; exact hbs.setOther Hps.out.1 2 _
      have hbf3 : Below w.heap.size w v3 := by rw [hwE]; exact hbf.setCell (p := ⟨pe, 2, none⟩) HP.out _
      have HB3 : Hid (RBs e row v3 a0 a1 a2 b0 b1 b2 c0 c1 c2 1) := Lib.hid (by rw [hwE]; exact HB.out.setNI _ _ (fun n hn => by rw [ee2] at hn; cases hn))
      clear hbe hbr hbs hbf HB es ee2 fe2 HW hwE
      have hE : EnsIs v3 (ensV (avgE e) none 0 no nc lo lc) (avgE e) none 0 no nc lo lc := mod_ens H0.out hbf3 [65, 86, 69, 82, 65, 71, 69]
      have hrow3 := hrow.below hbf3
      have ee0 := hbe3.cell 0 _ rfl
      have ee1 := hbe3.cell 1 _ rfl
      have ee2 := hbe3.cell 2 _ rfl
      have ee3 := hbe3.cell 3 _ rfl
      have ee4 := hbe3.cell 4 _ rfl
      have ee5 := hbe3.cell 5 _ rfl
      have ee6 := hbe3.cell 6 _ rfl
      obtain ⟨c, hc⟩ : ∃ c, checkE (avgE e) = c := ⟨_, rfl⟩
      rcases Decidable.em (c = 0) with q0 | q0
      · subst q0
        obtain ⟨hn1, hn2, hl2, ht1, ht2⟩ := mod_facts (e := e) (s := [65, 86, 69, 82, 65, 71, 69]) hc
        have HC := Lib.hid hc
        clear hc
        rcases Decidable.em ((row.length : Int) = e.feats) with q1 | q1
        · have hAg : Hid ([65, 86, 69, 82, 65, 71, 69] ∈ aggW) := Lib.hid (by decide)
          have hS := score_ok _ (avgE e) none 0 no nc lo lc ro rc row v3 hE hrl hrx hrow3 hrm HC (Lib.hid q1) (Lib.hid (Int.le_of_eq q1.symm)) hn1 hn2 hl2 1 (Lib.hid rfl) (by decide) ht2 ht1 hAg (Lib.hid rfl)
          change Calls _ _ #[.agg #[.int .i64 e.feats, .int .i64 1, .string ⟨#[65, 86, 69, 82, 65, 71, 69]⟩, .string ⟨e.post.toArray⟩, .slice none 0 0, .slice no e.nodes.length nc, .slice lo e.leaves.length lc], .slice ro row.length rc] v3 _ at hS
          have H1 := Lib.hid q1
          clear q1 hAg
          obtain ⟨hcd, hvl⟩ := score_text (avgE e) row 0 rfl hl2 ht1 ht2
          have hqb := score_small (avgE e) row 0 rfl hl2 ht1 ht2
          have hlen := qtext_len (hqb.digits (by decide)).1 (hqb.digits (by decide)).2
          go_upto_region 10 with (go_at_call 13; (with_reducible refine (hS).mono ?_); rintro e9 v4 ⟨r9, rfl, hO9, hb⟩; obtain ⟨g9, cap9, rfl, et⟩ := oneText hO9; clear hO9)
          clear ee0 ee1 ee2 ee3 ee4 ee5 ee6
          clear hS
          obtain ⟨q, hq⟩ : ∃ q, scoreQ (avgE e) row 0 = q := ⟨_, rfl⟩
          rw [hq] at hcd hvl hlen et
          have HQ := Lib.hid hq
          clear hq hqb
          have hR := fun W => rqparse_main (qtext q) W q 0 (Lib.hid hvl.symm) (Lib.hid hcd.symm) hlen
          clear hcd hvl hlen
          have hbe4 := hbe3.kept hb
          have hbr4 := hbr3.kept hb
          have hbs4 := hbs3.kept hb
          have HB4 := Lib.hid (HB3.out.below hb)
          have hbf4 := hbf3.trans (hb.mono hbf3.size)
          clear hbe3 hbr3 hbs3 HB3 hbf3 hb hE hrow3
          go_upto_region 15 with (go_at_call 14; (with_reducible refine (hR _).mono ?_); rintro e9 v5 hq9; obtain ⟨xB, xxO, xxL, xxC, xyO, xyL, xyC, rfl, hS9, hxx, hxy, hx, hb⟩ := hq9.out; clear hS9 hxx hxy hq9; obtain ⟨v6, hwE⟩ : ∃ X, X = v5.alloc (.cells #[.bool xB, .slice xxO xxL xxC, .slice xyO xyL xyC] 44) := ⟨_, rfl⟩; obtain ⟨px, hpx⟩ : ∃ p, p = v5.heap.size := ⟨_, rfl⟩; have hb6 : Below v5.heap.size v5 v6 := (by rw [hwE]; exact (Below.refl _ _).alloc (Nat.le_refl _) _); have hbx : BoxL v6 px [.bool xB, .slice xxO xxL xxC, .slice xyO xyL xyC] := (by rw [hwE, hpx]; exact BoxL.new v5 _ _); have HW := Lib.hid hwE; clear hwE)
          rw [← HW.out, ← hpx]
          clear HW hpx et hR
          replace hx := hx.below hb6
          have hb2 := hb.trans (hb6.mono hb.size)
          clear hb hb6
          have hbe := hbe4.kept hb2
          have hbr := hbr4.kept hb2
          have hbs := hbs4.kept hb2
          have HB := Lib.hid (HB4.out.below hb2)
          have hbf := hbf4.trans (hb2.mono hbf4.size)
          clear hbe4 hbr4 hbs4 HB4 hbf4 hb2
          have ex0 := hbx.cell 0 _ rfl
          have ex1 := hbx.cell 1 _ rfl
          have ex2 := hbx.cell 2 _ rfl
          have er0 := hbr.cell 3 _ rfl
          have fr0 := hbr.free 3 (by simp)
          have er1 := hbr.cell 4 _ rfl
          have fr1 := hbr.free 4 (by simp)
          have er2 := hbr.cell 5 _ rfl
          have fr2 := hbr.free 5 (by simp)
          obtain ⟨v7, hwE⟩ : ∃ X, X = ((v6.setCell ⟨pr, 3, none⟩ (.bool xB)).setCell ⟨pr, 4, none⟩ (.slice xxO xxL xxC)).setCell ⟨pr, 5, none⟩ (.slice xyO xyL xyC) := ⟨_, rfl⟩
          have HW := Lib.hid hwE
          go_upto_region 18 with fail
          rw [← HW.out]
          have hni := HB.out.ni
          have n0 := hbr.noI hni (i := 3) (by simp)
          have r1 := hbr.set 3 (.bool xB) (by simp)
          have n1 := r1.noI (ni_set hni 3 (ni_b _)) (i := 4) (by simp)
          have r2 := r1.set 4 (.slice xxO xxL xxC) (by simp)
          have n2 := r2.noI (ni_set (ni_set hni 3 (ni_b _)) 4 (ni_s _ _ _)) (i := 5) (by simp)
          have r3 := r2.set 5 (.slice xyO xyL xyC) (by simp)
          have hbr7 : BoxL v7 pr [a0, a1, a2, .bool xB, .slice xxO xxL xxC, .slice xyO xyL xyC, c0, c1, c2] := by rw [hwE]; exact r3
          have hbe7 : BoxL v7 pe [.int .i64 e.feats, .int .i64 1, .string ⟨#[65, 86, 69, 82, 65, 71, 69]⟩, .string ⟨e.post.toArray⟩, .slice none 0 0, .slice no e.nodes.length nc, .slice lo e.leaves.length lc] := by rw [hwE]; exact ((hbe.setOther Hpr.out.1 3 _).setOther Hpr.out.1 4 _).setOther Hpr.out.1 5 _
          have hbs7 : BoxL v7 ps [.string ⟨#[77, 73, 78]⟩, .string ⟨#[65, 86, 69, 82, 65, 71, 69]⟩, .string ⟨#[77, 65, 88]⟩] := by rw [hwE]; exact ((hbs.setOther Hps.out.2.1 3 _).setOther Hps.out.2.1 4 _).setOther Hps.out.2.1 5 _
          have hbf7 : Below w.heap.size w v7 := by rw [hwE]; exact ((hbf.setCell (p := ⟨pr, 3, none⟩) Hpr.out.2 _).setCell (p := ⟨pr, 4, none⟩) Hpr.out.2 _).setCell (p := ⟨pr, 5, none⟩) Hpr.out.2 _
          have HB7 := ((HB.out.setNI ⟨pr, 3, none⟩ (.bool xB) n0).setNI ⟨pr, 4, none⟩ (.slice xxO xxL xxC) n1).setNI ⟨pr, 5, none⟩ (.slice xyO xyL xyC) n2
          rw [← hwE] at HB7
          have hx7 := ((hx.setNI ⟨pr, 3, none⟩ (.bool xB) n0).setNI ⟨pr, 4, none⟩ (.slice xxO xxL xxC) n1).setNI ⟨pr, 5, none⟩ (.slice xyO xyL xyC) n2
          rw [← hwE] at hx7
          have HB8 : Hid (RBs e row v7 a0 a1 a2 (.bool xB) (.slice xxO xxL xxC) (.slice xyO xyL xyC) c0 c1 c2 2) := Lib.hid ⟨fun _ => HB7.ok (by decide), fun h9 => HB7.a (by decide), fun h9 => (by rw [HQ.out]; exact hx7), fun h9 => absurd h9 (by decide), ni_set (ni_set (ni_set hni 3 (ni_b _)) 4 (ni_s _ _ _)) 5 (ni_s _ _ _)⟩
          clear hbe hbr hbs HB hbf HB7 hx7 hx r1 r2 r3 n0 n1 n2 hni HW hwE ex0 ex1 ex2 er0 er1 er2 fr0 fr1 fr2 hbx HQ
          go_wp2_with fail
          go_roundg (gk - 1)
          case measure => omega
          case rel => exact ⟨2, _, _, _, _, _, _, _, _, _, _, by omega, by first | rfl | go_num, hbe7, hbr7, hbs7, HB8, hbf7⟩
        · have hS := score_arity _ (avgE e) none 0 no nc lo lc ro row.length rc v3 hE HC (Lib.hid q1) hn2
          clear q1
          change Calls _ _ #[.agg #[.int .i64 e.feats, .int .i64 1, .string ⟨#[65, 86, 69, 82, 65, 71, 69]⟩, .string ⟨e.post.toArray⟩, .slice none 0 0, .slice no e.nodes.length nc, .slice lo e.leaves.length lc], .slice ro row.length rc] v3 _ at hS
          go_wp2_with (go_at_call 13; (with_reducible refine (hS).mono ?_); rintro e9 v4 ⟨rfl, hb⟩)
          go_ret
          exact ⟨rfl, hbf3.trans (hb.mono hbf3.size)⟩
      · have hS := score_bad _ (avgE e) none 0 no nc lo lc ro row.length rc c v3 hE (Lib.hid hc) q0 (show (avgE e).nodes.length ≤ 100000 by show e.nodes.length ≤ 100000; omega)
        clear q0 hc
        change Calls _ _ #[.agg #[.int .i64 e.feats, .int .i64 1, .string ⟨#[65, 86, 69, 82, 65, 71, 69]⟩, .string ⟨e.post.toArray⟩, .slice none 0 0, .slice no e.nodes.length nc, .slice lo e.leaves.length lc], .slice ro row.length rc] v3 _ at hS
        go_wp2_with (go_at_call 13; (with_reducible refine (hS).mono ?_); rintro e9 v4 ⟨rfl, hb⟩)
        go_ret
        exact ⟨rfl, hbf3.trans (hb.mono hbf3.size)⟩
    · skip
      have es := hbs.cell 2 _ rfl
      have ee2 := hbe.cell 2 _ rfl
      have fe2 := hbe.free 2 (by simp)
      obtain ⟨v3, hwE⟩ : ∃ X, X = wr.setCell ⟨pe, 2, none⟩ (.string ⟨#[77, 65, 88]⟩) := ⟨_, rfl⟩
      have HW := Lib.hid hwE
      go_upto_region 9 with fail
      rw [← HW.out]
      have hbe3 : BoxL v3 pe [.int .i64 e.feats, .int .i64 1, .string ⟨#[77, 65, 88]⟩, .string ⟨e.post.toArray⟩, .slice none 0 0, .slice no e.nodes.length nc, .slice lo e.leaves.length lc] := by rw [hwE]; exact hbe.set 2 _ (by simp)
      have hbr3 : BoxL v3 pr [a0, a1, a2, b0, b1, b2, c0, c1, c2] := by rw [hwE]; exact hbr.setOther (Ne.symm Hpr.out.1) 2 _
      have hbs3 : BoxL v3 ps [.string ⟨#[77, 73, 78]⟩, .string ⟨#[65, 86, 69, 82, 65, 71, 69]⟩, .string ⟨#[77, 65, 88]⟩] := by rw [hwE]; exact hbs.setOther Hps.out.1 2 _
      have hbf3 : Below w.heap.size w v3 := by rw [hwE]; exact hbf.setCell (p := ⟨pe, 2, none⟩) HP.out _
      have HB3 : Hid (RBs e row v3 a0 a1 a2 b0 b1 b2 c0 c1 c2 2) := Lib.hid (by rw [hwE]; exact HB.out.setNI _ _ (fun n hn => by rw [ee2] at hn; cases hn))
      clear hbe hbr hbs hbf HB es ee2 fe2 HW hwE
      have hE : EnsIs v3 (ensV (maxE e) none 0 no nc lo lc) (maxE e) none 0 no nc lo lc := mod_ens H0.out hbf3 [77, 65, 88]
      have hrow3 := hrow.below hbf3
      have ee0 := hbe3.cell 0 _ rfl
      have ee1 := hbe3.cell 1 _ rfl
      have ee2 := hbe3.cell 2 _ rfl
      have ee3 := hbe3.cell 3 _ rfl
      have ee4 := hbe3.cell 4 _ rfl
      have ee5 := hbe3.cell 5 _ rfl
      have ee6 := hbe3.cell 6 _ rfl
      obtain ⟨c, hc⟩ : ∃ c, checkE (maxE e) = c := ⟨_, rfl⟩
      rcases Decidable.em (c = 0) with q0 | q0
      · subst q0
        obtain ⟨hn1, hn2, hl2, ht1, ht2⟩ := mod_facts (e := e) (s := [77, 65, 88]) hc
        have HC := Lib.hid hc
        clear hc
        rcases Decidable.em ((row.length : Int) = e.feats) with q1 | q1
        · have hAg : Hid ([77, 65, 88] ∈ aggW) := Lib.hid (by decide)
          have hS := score_ok _ (maxE e) none 0 no nc lo lc ro rc row v3 hE hrl hrx hrow3 hrm HC (Lib.hid q1) (Lib.hid (Int.le_of_eq q1.symm)) hn1 hn2 hl2 1 (Lib.hid rfl) (by decide) ht2 ht1 hAg (Lib.hid rfl)
          change Calls _ _ #[.agg #[.int .i64 e.feats, .int .i64 1, .string ⟨#[77, 65, 88]⟩, .string ⟨e.post.toArray⟩, .slice none 0 0, .slice no e.nodes.length nc, .slice lo e.leaves.length lc], .slice ro row.length rc] v3 _ at hS
          have H1 := Lib.hid q1
          clear q1 hAg
          obtain ⟨hcd, hvl⟩ := score_text (maxE e) row 0 rfl hl2 ht1 ht2
          have hqb := score_small (maxE e) row 0 rfl hl2 ht1 ht2
          have hlen := qtext_len (hqb.digits (by decide)).1 (hqb.digits (by decide)).2
          go_upto_region 10 with (go_at_call 13; (with_reducible refine (hS).mono ?_); rintro e9 v4 ⟨r9, rfl, hO9, hb⟩; obtain ⟨g9, cap9, rfl, et⟩ := oneText hO9; clear hO9)
          clear ee0 ee1 ee2 ee3 ee4 ee5 ee6
          clear hS
          obtain ⟨q, hq⟩ : ∃ q, scoreQ (maxE e) row 0 = q := ⟨_, rfl⟩
          rw [hq] at hcd hvl hlen et
          have HQ := Lib.hid hq
          clear hq hqb
          have hR := fun W => rqparse_main (qtext q) W q 0 (Lib.hid hvl.symm) (Lib.hid hcd.symm) hlen
          clear hcd hvl hlen
          have hbe4 := hbe3.kept hb
          have hbr4 := hbr3.kept hb
          have hbs4 := hbs3.kept hb
          have HB4 := Lib.hid (HB3.out.below hb)
          have hbf4 := hbf3.trans (hb.mono hbf3.size)
          clear hbe3 hbr3 hbs3 HB3 hbf3 hb hE hrow3
          go_upto_region 15 with (go_at_call 14; (with_reducible refine (hR _).mono ?_); rintro e9 v5 hq9; obtain ⟨xB, xxO, xxL, xxC, xyO, xyL, xyC, rfl, hS9, hxx, hxy, hx, hb⟩ := hq9.out; clear hS9 hxx hxy hq9; obtain ⟨v6, hwE⟩ : ∃ X, X = v5.alloc (.cells #[.bool xB, .slice xxO xxL xxC, .slice xyO xyL xyC] 44) := ⟨_, rfl⟩; obtain ⟨px, hpx⟩ : ∃ p, p = v5.heap.size := ⟨_, rfl⟩; have hb6 : Below v5.heap.size v5 v6 := (by rw [hwE]; exact (Below.refl _ _).alloc (Nat.le_refl _) _); have hbx : BoxL v6 px [.bool xB, .slice xxO xxL xxC, .slice xyO xyL xyC] := (by rw [hwE, hpx]; exact BoxL.new v5 _ _); have HW := Lib.hid hwE; clear hwE)
          rw [← HW.out, ← hpx]
          clear HW hpx et hR
          replace hx := hx.below hb6
          have hb2 := hb.trans (hb6.mono hb.size)
          clear hb hb6
          have hbe := hbe4.kept hb2
          have hbr := hbr4.kept hb2
          have hbs := hbs4.kept hb2
          have HB := Lib.hid (HB4.out.below hb2)
          have hbf := hbf4.trans (hb2.mono hbf4.size)
          clear hbe4 hbr4 hbs4 HB4 hbf4 hb2
          have ex0 := hbx.cell 0 _ rfl
          have ex1 := hbx.cell 1 _ rfl
          have ex2 := hbx.cell 2 _ rfl
          have er0 := hbr.cell 6 _ rfl
          have fr0 := hbr.free 6 (by simp)
          have er1 := hbr.cell 7 _ rfl
          have fr1 := hbr.free 7 (by simp)
          have er2 := hbr.cell 8 _ rfl
          have fr2 := hbr.free 8 (by simp)
          obtain ⟨v7, hwE⟩ : ∃ X, X = ((v6.setCell ⟨pr, 6, none⟩ (.bool xB)).setCell ⟨pr, 7, none⟩ (.slice xxO xxL xxC)).setCell ⟨pr, 8, none⟩ (.slice xyO xyL xyC) := ⟨_, rfl⟩
          have HW := Lib.hid hwE
          go_upto_region 18 with fail
          rw [← HW.out]
          have hni := HB.out.ni
          have n0 := hbr.noI hni (i := 6) (by simp)
          have r1 := hbr.set 6 (.bool xB) (by simp)
          have n1 := r1.noI (ni_set hni 6 (ni_b _)) (i := 7) (by simp)
          have r2 := r1.set 7 (.slice xxO xxL xxC) (by simp)
          have n2 := r2.noI (ni_set (ni_set hni 6 (ni_b _)) 7 (ni_s _ _ _)) (i := 8) (by simp)
          have r3 := r2.set 8 (.slice xyO xyL xyC) (by simp)
          have hbr7 : BoxL v7 pr [a0, a1, a2, b0, b1, b2, .bool xB, .slice xxO xxL xxC, .slice xyO xyL xyC] := by rw [hwE]; exact r3
          have hbe7 : BoxL v7 pe [.int .i64 e.feats, .int .i64 1, .string ⟨#[77, 65, 88]⟩, .string ⟨e.post.toArray⟩, .slice none 0 0, .slice no e.nodes.length nc, .slice lo e.leaves.length lc] := by rw [hwE]; exact ((hbe.setOther Hpr.out.1 6 _).setOther Hpr.out.1 7 _).setOther Hpr.out.1 8 _
          have hbs7 : BoxL v7 ps [.string ⟨#[77, 73, 78]⟩, .string ⟨#[65, 86, 69, 82, 65, 71, 69]⟩, .string ⟨#[77, 65, 88]⟩] := by rw [hwE]; exact ((hbs.setOther Hps.out.2.1 6 _).setOther Hps.out.2.1 7 _).setOther Hps.out.2.1 8 _
          have hbf7 : Below w.heap.size w v7 := by rw [hwE]; exact ((hbf.setCell (p := ⟨pr, 6, none⟩) Hpr.out.2 _).setCell (p := ⟨pr, 7, none⟩) Hpr.out.2 _).setCell (p := ⟨pr, 8, none⟩) Hpr.out.2 _
          have HB7 := ((HB.out.setNI ⟨pr, 6, none⟩ (.bool xB) n0).setNI ⟨pr, 7, none⟩ (.slice xxO xxL xxC) n1).setNI ⟨pr, 8, none⟩ (.slice xyO xyL xyC) n2
          rw [← hwE] at HB7
          have hx7 := ((hx.setNI ⟨pr, 6, none⟩ (.bool xB) n0).setNI ⟨pr, 7, none⟩ (.slice xxO xxL xxC) n1).setNI ⟨pr, 8, none⟩ (.slice xyO xyL xyC) n2
          rw [← hwE] at hx7
          have HB8 : Hid (RBs e row v7 a0 a1 a2 b0 b1 b2 (.bool xB) (.slice xxO xxL xxC) (.slice xyO xyL xyC) 3) := Lib.hid ⟨fun _ => HB7.ok (by decide), fun h9 => HB7.a (by decide), fun h9 => HB7.b (by decide), fun h9 => (by rw [HQ.out]; exact hx7), ni_set (ni_set (ni_set hni 6 (ni_b _)) 7 (ni_s _ _ _)) 8 (ni_s _ _ _)⟩
          clear hbe hbr hbs HB hbf HB7 hx7 hx r1 r2 r3 n0 n1 n2 hni HW hwE ex0 ex1 ex2 er0 er1 er2 fr0 fr1 fr2 hbx HQ
          go_wp2_with fail
          go_roundg (gk - 1)
          case measure => omega
          case rel => exact ⟨3, _, _, _, _, _, _, _, _, _, _, by omega, by first | rfl | go_num, hbe7, hbr7, hbs7, HB8, hbf7⟩
        · have hS := score_arity _ (maxE e) none 0 no nc lo lc ro row.length rc v3 hE HC (Lib.hid q1) hn2
          clear q1
          change Calls _ _ #[.agg #[.int .i64 e.feats, .int .i64 1, .string ⟨#[77, 65, 88]⟩, .string ⟨e.post.toArray⟩, .slice none 0 0, .slice no e.nodes.length nc, .slice lo e.leaves.length lc], .slice ro row.length rc] v3 _ at hS
          go_wp2_with (go_at_call 13; (with_reducible refine (hS).mono ?_); rintro e9 v4 ⟨rfl, hb⟩)
          go_ret
          exact ⟨rfl, hbf3.trans (hb.mono hbf3.size)⟩
      · have hS := score_bad _ (maxE e) none 0 no nc lo lc ro row.length rc c v3 hE (Lib.hid hc) q0 (show (maxE e).nodes.length ≤ 100000 by show e.nodes.length ≤ 100000; omega)
        clear q0 hc
        change Calls _ _ #[.agg #[.int .i64 e.feats, .int .i64 1, .string ⟨#[77, 65, 88]⟩, .string ⟨e.post.toArray⟩, .slice none 0 0, .slice no e.nodes.length nc, .slice lo e.leaves.length lc], .slice ro row.length rc] v3 _ at hS
        go_wp2_with (go_at_call 13; (with_reducible refine (hS).mono ?_); rintro e9 v4 ⟨rfl, hb⟩)
        go_ret
        exact ⟨rfl, hbf3.trans (hb.mono hbf3.size)⟩
    · skip
      obtain ⟨hck, hfe, hn1, hl2, ht1, ht2⟩ := HB.out.ok (by decide)
      clear hfe
      have ha := HB.out.a (by decide)
      have hb := HB.out.b (by decide)
      have hcc := HB.out.c (by decide)
      have qa := score_small (minE e) row 0 rfl hl2 ht1 ht2
      have qb := score_small (avgE e) row 0 rfl hl2 ht1 ht2
      have qc := score_small (maxE e) row 0 rfl hl2 ht1 ht2
      have hba := bounds_a e row
      have HBB := Lib.hid (bounds_b e row hck hn1 ht1)
      obtain ⟨qA, hqA⟩ : ∃ q, scoreQ (minE e) row 0 = q := ⟨_, rfl⟩
      obtain ⟨qB, hqB⟩ : ∃ q, scoreQ (avgE e) row 0 = q := ⟨_, rfl⟩
      obtain ⟨qC, hqC⟩ : ∃ q, scoreQ (maxE e) row 0 = q := ⟨_, rfl⟩
      rw [hqA] at ha qa hba
      rw [hqB] at hb qb
      rw [hqC] at hcc qc hba
      have HBB2 : Hid ((∀ y ∈ e.nodes, y.mode = 7 → weightsE e.leaves y.tree y.node 0 ≠ []) → qcmp qA qB ≤ 0 ∧ qcmp qB qC ≤ 0) := Lib.hid (fun h => by have := HBB.out h; rwa [hqA, hqB, hqC] at this)
      clear hqA hqB hqC HBB HB hbs hck
      have HBA := Lib.hid hba
      clear hba
      have HA := Lib.hid ha
      have HBq := Lib.hid hb
      have HCq := Lib.hid hcc
      clear ha hb hcc
      obtain ⟨w6, hwN⟩ : ∃ x, x = wr := ⟨_, rfl⟩
      subst hwN
      have ee5 := hbe.cell 5 _ rfl
      go_wp2_with fail
      go_loopg [12] e.nodes.length (fun gg iv wr => ∃ (i : Nat), i + gg = e.nodes.length ∧ iv = .int .i64 (i : Int) ∧ Hid (∀ k, k < i → e.nodes[k]!.mode = 7 → weightsE e.leaves e.nodes[k]!.tree e.nodes[k]!.node 0 ≠ []) ∧ Below w6.heap.size w6 wr)
      case atStart => exact ⟨0, by omega, rfl, Lib.hid (fun k hk => absurd hk (Nat.not_lt_zero _)), Below.refl _ _⟩
      case round =>
        clear ee5
        obtain ⟨i, hi, rfl, hA, hb6⟩ := hrel
        replace hbe := hbe.kept hb6
        replace hbr := hbr.kept hb6
        replace hbf := hbf.trans (hb6.mono hbf.size)
        have hE : EnsIs wr (ensV (modE e ag.data.toList) none 0 no nc lo lc) (modE e ag.data.toList) none 0 no nc lo lc := mod_ens H0.out hbf ag.data.toList
        by_cases hil : i < e.nodes.length
        · have hz : (i : Int) < (e.nodes.length : Int) := by omega
          have hz0 : (0 : Int) ≤ (i : Int) := by omega
          obtain ⟨nb, noff, rfl⟩ := h2.addr hil
          obtain ⟨y, hy⟩ : ∃ y, e.nodes[i] = y := ⟨_, rfl⟩
          have hNd := NdAt.of hE.nodes hil hy
          have HY : Hid (e.nodes[i]! = y) := Lib.hid (by rw [getElem!_pos e.nodes i hil, hy])
          clear hy
          obtain ⟨ws, hws⟩ : ∃ l, weightsE e.leaves y.tree y.node 0 = l := ⟨_, rfl⟩
          have hag : (⟨ag.data.toList.toArray⟩ : ByteArray) = ag := by cases ag; simp
          have hW := fun W (h : EnsIs W (ensV (modE e ag.data.toList) none 0 (some ⟨nb, noff, none⟩) nc lo lc) (modE e ag.data.toList) none 0 (some ⟨nb, noff, none⟩) nc lo lc) => rweights_any _ (modE e ag.data.toList) _ _ _ _ _ _ y.tree y.node 0 ws W h (show e.leaves.length ≤ 100000 by omega) (Lib.hid hws)
          change ∀ W, EnsIs W (.agg #[.int .i64 e.feats, .int .i64 1, .string ⟨ag.data.toList.toArray⟩, .string ⟨e.post.toArray⟩, .slice none 0 0, .slice (some ⟨nb, noff, none⟩) e.nodes.length nc, .slice lo e.leaves.length lc]) (modE e ag.data.toList) none 0 (some ⟨nb, noff, none⟩) nc lo lc → Calls _ _ #[.agg #[.int .i64 e.feats, .int .i64 1, .string ⟨ag.data.toList.toArray⟩, .string ⟨e.post.toArray⟩, .slice none 0 0, .slice (some ⟨nb, noff, none⟩) e.nodes.length nc, .slice lo e.leaves.length lc], _, _, _] W _ at hW
          rw [hag] at hW
          change EnsIs wr (.agg #[.int .i64 e.feats, .int .i64 1, .string ⟨ag.data.toList.toArray⟩, .string ⟨e.post.toArray⟩, .slice none 0 0, .slice (some ⟨nb, noff, none⟩) e.nodes.length nc, .slice lo e.leaves.length lc]) (modE e ag.data.toList) none 0 (some ⟨nb, noff, none⟩) nc lo lc at hE
          rw [hag] at hE
          clear hag
          have ee5 := hbe.cell 5 _ rfl
          go_upto_region 22 with fail
          clear ee5
          rcases Decidable.em (y.mode = 7) with q1 | q1
          · have f1 : (y.mode == 7) = true := by simp [q1]
            rcases Decidable.em (ws.length = 0) with q2 | q2
            · have f2 : ((ws.length : Int) == 0) = true := by simp [q2]
              clear hws q1 q2
              refine wp_region_seq (S := fun w' => BoxL w' pe [.int .i64 e.feats, .int .i64 1, .string ag, .string ⟨e.post.toArray⟩, .slice none 0 0, .slice (some ⟨nb, noff, none⟩) e.nodes.length nc, .slice lo e.leaves.length lc] ∧ NdAt w' nb noff i y) [(true, 0), (true, 1), (true, 2), (true, 3), (true, 4), (true, 5), (true, 6), (true, 7), (true, 8), (true, 9), (true, 10), (true, 11), (true, 12), (true, 13), (true, 14), (true, 15), (true, 16), (true, 17), (true, 18), (true, 19), (true, 20), (false, 21), (true, 22), (true, 23), (true, 24)] (by kernel_rfl) (by kernel_rfl) (by kernel_rfl) (by kernel_rfl) (by kernel_rfl) (fun d _ _ _ _ h => by cases d <;> exact h) ⟨hbe.drew, hNd.drew⟩ (fun _ => ?_)
              simp only [pickOps, List.append_eq, List.cons_append, List.nil_append, List.getElem?_toArray, List.getElem?_cons_succ, List.getElem?_cons_zero]
              have hb : Below wr.heap.size wr wr.drew := (Below.refl _ _).drew
              generalize wr.drew = wd at hb ⊢
              replace hbe := hbe.kept hb
              replace hbr := hbr.kept hb
              replace hE := hE.below hb
              replace hNd := hNd.below hb
              replace hb6 := hb6.trans (hb.mono hb6.size)
              replace hbf := hbf.trans (hb.mono hbf.size)
              clear hb
              repeat (first | (refine seq_take (v := ?_) (by rfl) ?_ ?_; rotate_left; (· intro w hSw; (try dsimp only at hSw); obtain ⟨hL0, hN0⟩ := hSw; have ee0 := hL0.cell 0 _ rfl; have ee1 := hL0.cell 1 _ rfl; have ee2 := hL0.cell 2 _ rfl; have ee3 := hL0.cell 3 _ rfl; have ee4 := hL0.cell 4 _ rfl; have ee5 := hL0.cell 5 _ rfl; have ee6 := hL0.cell 6 _ rfl; clear hL0; obtain ⟨c0, c1, c2, c3, c4, c5, c6, c7⟩ := hN0.c8; clear hN0; go_simp; all_goals with_reducible rfl); (try simp only [Act.put, List.setIfInBounds_toArray, List.set_cons_zero, List.set_cons_succ])) | (refine seq_leave (by rfl) ?_; (try simp only [Act.put, List.setIfInBounds_toArray, List.set_cons_zero, List.set_cons_succ])))
              refine seq_step (by rfl) (fun K hK => ?_)
              go_simp
              go_at_call 19
              (with_reducible refine (hW _ hE).mono ?_)
              rintro e9 w7 ⟨r9, rfl, hO9, hb⟩
              obtain ⟨wo9, wc9, rfl, hwl1, hwl2, -⟩ := OwnsK.slice (K := 1) hO9
              rw [patV_len] at *
              clear hO9 hwl1 hwl2
              replace hbe := hbe.kept hb
              replace hbr := hbr.kept hb
              replace hE := hE.below hb
              replace hNd := hNd.below hb
              replace hb6 := hb6.trans (hb.mono hb6.size)
              replace hbf := hbf.trans (hb.mono hbf.size)
              clear hb
              first | refine hK.out _ _ ⟨hbe, hNd⟩ (fun _ => ?_) | (go_wp2_with fail; refine hK.out _ _ ⟨hbe, hNd⟩ (fun _ => ?_))
              clear hK K
              (try simp only [Act.put, List.setIfInBounds_toArray, List.set_cons_zero, List.set_cons_succ])
              repeat (first | (refine seq_take (v := ?_) (by rfl) ?_ ?_; rotate_left; (· intro w hSw; (try dsimp only at hSw); obtain ⟨hL0, hN0⟩ := hSw; have ee0 := hL0.cell 0 _ rfl; have ee1 := hL0.cell 1 _ rfl; have ee2 := hL0.cell 2 _ rfl; have ee3 := hL0.cell 3 _ rfl; have ee4 := hL0.cell 4 _ rfl; have ee5 := hL0.cell 5 _ rfl; have ee6 := hL0.cell 6 _ rfl; clear hL0; obtain ⟨c0, c1, c2, c3, c4, c5, c6, c7⟩ := hN0.c8; clear hN0; go_simp; all_goals with_reducible rfl); (try simp only [Act.put, List.setIfInBounds_toArray, List.set_cons_zero, List.set_cons_succ])) | (refine seq_leave (by rfl) ?_; (try simp only [Act.put, List.setIfInBounds_toArray, List.set_cons_zero, List.set_cons_succ])))
              refine seq_end ?_
              have er0 := hbr.cell 0 _ rfl
              have er1 := hbr.cell 1 _ rfl
              have er2 := hbr.cell 2 _ rfl
              have er6 := hbr.cell 6 _ rfl
              have er7 := hbr.cell 7 _ rfl
              have er8 := hbr.cell 8 _ rfl
              have hcA := (HA.out.below hb6)
              have hcC := (HCq.out.below hb6)
              have hCm := fun W h1 h2 => rqcmp_any (.agg #[a0, a1, a2]) (.agg #[c0, c1, c2]) qA qC 72 72 W h1 h2 qa qc (by decide)
              have hle := HBA.out
              obtain ⟨z9, hz9⟩ : ∃ z, qcmp qA qC = z := ⟨_, rfl⟩
              rw [hz9] at hCm hle
              clear hz9
              go_wp2_with (go_at_call 20; refine (hCm _ hcA hcC).mono ?_; rintro e9 w8 ⟨rfl, hb⟩)
              go_ret
              exact ⟨rfl, hbf.trans (hb.mono hbf.size)⟩
            · have f2 : ((ws.length : Int) == 0) = false := by rw [beq_eq_false_iff_ne]; omega
              have hA2 : Hid (∀ k, k < i + 1 → e.nodes[k]!.mode = 7 → weightsE e.leaves e.nodes[k]!.tree e.nodes[k]!.node 0 ≠ []) := Lib.hid (fun k hk hm => by
                by_cases e9 : k = i
                · rw [e9, HY.out] at hm ⊢; rw [hws]; intro h0; rw [h0] at q2; exact q2 rfl
                · exact hA.out k (by omega) hm)
              clear hws q1 q2 hA
              refine wp_region_seq (S := fun w' => BoxL w' pe [.int .i64 e.feats, .int .i64 1, .string ag, .string ⟨e.post.toArray⟩, .slice none 0 0, .slice (some ⟨nb, noff, none⟩) e.nodes.length nc, .slice lo e.leaves.length lc] ∧ NdAt w' nb noff i y) [(true, 0), (true, 1), (true, 2), (true, 3), (true, 4), (true, 5), (true, 6), (true, 7), (true, 8), (true, 9), (true, 10), (true, 11), (true, 12), (true, 13), (true, 14), (true, 15), (true, 16), (true, 17), (true, 18), (true, 19), (true, 20), (false, 21), (true, 22), (true, 23), (true, 24)] (by kernel_rfl) (by kernel_rfl) (by kernel_rfl) (by kernel_rfl) (by kernel_rfl) (fun d _ _ _ _ h => by cases d <;> exact h) ⟨hbe.drew, hNd.drew⟩ (fun _ => ?_)
              simp only [pickOps, List.append_eq, List.cons_append, List.nil_append, List.getElem?_toArray, List.getElem?_cons_succ, List.getElem?_cons_zero]
              have hb : Below wr.heap.size wr wr.drew := (Below.refl _ _).drew
              generalize wr.drew = wd at hb ⊢
              replace hbe := hbe.kept hb
              replace hbr := hbr.kept hb
              replace hE := hE.below hb
              replace hNd := hNd.below hb
              replace hb6 := hb6.trans (hb.mono hb6.size)
              replace hbf := hbf.trans (hb.mono hbf.size)
              clear hb
              repeat (first | (refine seq_take (v := ?_) (by rfl) ?_ ?_; rotate_left; (· intro w hSw; (try dsimp only at hSw); obtain ⟨hL0, hN0⟩ := hSw; have ee0 := hL0.cell 0 _ rfl; have ee1 := hL0.cell 1 _ rfl; have ee2 := hL0.cell 2 _ rfl; have ee3 := hL0.cell 3 _ rfl; have ee4 := hL0.cell 4 _ rfl; have ee5 := hL0.cell 5 _ rfl; have ee6 := hL0.cell 6 _ rfl; clear hL0; obtain ⟨c0, c1, c2, c3, c4, c5, c6, c7⟩ := hN0.c8; clear hN0; go_simp; all_goals with_reducible rfl); (try simp only [Act.put, List.setIfInBounds_toArray, List.set_cons_zero, List.set_cons_succ])) | (refine seq_leave (by rfl) ?_; (try simp only [Act.put, List.setIfInBounds_toArray, List.set_cons_zero, List.set_cons_succ])))
              refine seq_step (by rfl) (fun K hK => ?_)
              go_simp
              go_at_call 19
              (with_reducible refine (hW _ hE).mono ?_)
              rintro e9 w7 ⟨r9, rfl, hO9, hb⟩
              obtain ⟨wo9, wc9, rfl, hwl1, hwl2, -⟩ := OwnsK.slice (K := 1) hO9
              rw [patV_len] at *
              clear hO9 hwl1 hwl2
              replace hbe := hbe.kept hb
              replace hbr := hbr.kept hb
              replace hE := hE.below hb
              replace hNd := hNd.below hb
              replace hb6 := hb6.trans (hb.mono hb6.size)
              replace hbf := hbf.trans (hb.mono hbf.size)
              clear hb
              first | refine hK.out _ _ ⟨hbe, hNd⟩ (fun _ => ?_) | (go_wp2_with fail; refine hK.out _ _ ⟨hbe, hNd⟩ (fun _ => ?_))
              clear hK K
              (try simp only [Act.put, List.setIfInBounds_toArray, List.set_cons_zero, List.set_cons_succ])
              repeat (first | (refine seq_take (v := ?_) (by rfl) ?_ ?_; rotate_left; (· intro w hSw; (try dsimp only at hSw); obtain ⟨hL0, hN0⟩ := hSw; have ee0 := hL0.cell 0 _ rfl; have ee1 := hL0.cell 1 _ rfl; have ee2 := hL0.cell 2 _ rfl; have ee3 := hL0.cell 3 _ rfl; have ee4 := hL0.cell 4 _ rfl; have ee5 := hL0.cell 5 _ rfl; have ee6 := hL0.cell 6 _ rfl; clear hL0; obtain ⟨c0, c1, c2, c3, c4, c5, c6, c7⟩ := hN0.c8; clear hN0; go_simp; all_goals with_reducible rfl); (try simp only [Act.put, List.setIfInBounds_toArray, List.set_cons_zero, List.set_cons_succ])) | (refine seq_leave (by rfl) ?_; (try simp only [Act.put, List.setIfInBounds_toArray, List.set_cons_zero, List.set_cons_succ])))
              refine seq_end ?_
              go_wp2_with fail
              go_roundg (gk - 1)
              case measure => omega
              case rel => exact ⟨i + 1, by omega, by go_num, hA2, hb6⟩
          · have f1 : (y.mode == 7) = false := by simp [q1]
            have hA2 : Hid (∀ k, k < i + 1 → e.nodes[k]!.mode = 7 → weightsE e.leaves e.nodes[k]!.tree e.nodes[k]!.node 0 ≠ []) := Lib.hid (fun k hk hm => by
              by_cases e9 : k = i
              · rw [e9, HY.out] at hm ⊢; exact absurd hm q1
              · exact hA.out k (by omega) hm)
            clear hws q1 hA
            refine wp_region_seq (S := fun w' => BoxL w' pe [.int .i64 e.feats, .int .i64 1, .string ag, .string ⟨e.post.toArray⟩, .slice none 0 0, .slice (some ⟨nb, noff, none⟩) e.nodes.length nc, .slice lo e.leaves.length lc] ∧ NdAt w' nb noff i y) [(true, 0), (true, 1), (true, 2), (true, 3), (true, 4), (true, 5), (true, 6), (true, 7), (true, 8), (true, 9), (true, 10), (true, 11), (true, 12), (true, 13), (true, 14), (true, 15), (true, 16), (true, 17), (true, 18), (true, 19), (true, 20), (false, 21), (true, 22), (true, 23), (true, 24)] (by kernel_rfl) (by kernel_rfl) (by kernel_rfl) (by kernel_rfl) (by kernel_rfl) (fun d _ _ _ _ h => by cases d <;> exact h) ⟨hbe.drew, hNd.drew⟩ (fun _ => ?_)
            simp only [pickOps, List.append_eq, List.cons_append, List.nil_append, List.getElem?_toArray, List.getElem?_cons_succ, List.getElem?_cons_zero]
            have hb : Below wr.heap.size wr wr.drew := (Below.refl _ _).drew
            generalize wr.drew = wd at hb ⊢
            replace hbe := hbe.kept hb
            replace hbr := hbr.kept hb
            replace hE := hE.below hb
            replace hNd := hNd.below hb
            replace hb6 := hb6.trans (hb.mono hb6.size)
            replace hbf := hbf.trans (hb.mono hbf.size)
            clear hb
            repeat (first | (refine seq_take (v := ?_) (by rfl) ?_ ?_; rotate_left; (· intro w hSw; (try dsimp only at hSw); obtain ⟨hL0, hN0⟩ := hSw; have ee0 := hL0.cell 0 _ rfl; have ee1 := hL0.cell 1 _ rfl; have ee2 := hL0.cell 2 _ rfl; have ee3 := hL0.cell 3 _ rfl; have ee4 := hL0.cell 4 _ rfl; have ee5 := hL0.cell 5 _ rfl; have ee6 := hL0.cell 6 _ rfl; clear hL0; obtain ⟨c0, c1, c2, c3, c4, c5, c6, c7⟩ := hN0.c8; clear hN0; go_simp; all_goals with_reducible rfl); (try simp only [Act.put, List.setIfInBounds_toArray, List.set_cons_zero, List.set_cons_succ])) | (refine seq_leave (by rfl) ?_; (try simp only [Act.put, List.setIfInBounds_toArray, List.set_cons_zero, List.set_cons_succ])))
            refine seq_pass (by rfl) ⟨hbe, hNd⟩ ?_
            repeat (first | (refine seq_take (v := ?_) (by rfl) ?_ ?_; rotate_left; (· intro w hSw; (try dsimp only at hSw); obtain ⟨hL0, hN0⟩ := hSw; have ee0 := hL0.cell 0 _ rfl; have ee1 := hL0.cell 1 _ rfl; have ee2 := hL0.cell 2 _ rfl; have ee3 := hL0.cell 3 _ rfl; have ee4 := hL0.cell 4 _ rfl; have ee5 := hL0.cell 5 _ rfl; have ee6 := hL0.cell 6 _ rfl; clear hL0; obtain ⟨c0, c1, c2, c3, c4, c5, c6, c7⟩ := hN0.c8; clear hN0; go_simp; all_goals with_reducible rfl); (try simp only [Act.put, List.setIfInBounds_toArray, List.set_cons_zero, List.set_cons_succ])) | (refine seq_leave (by rfl) ?_; (try simp only [Act.put, List.setIfInBounds_toArray, List.set_cons_zero, List.set_cons_succ])))
            refine seq_end ?_
            go_wp2_with fail
            go_roundg (gk - 1)
            case measure => omega
            case rel => exact ⟨i + 1, by omega, by go_num, hA2, hb6⟩
        · have hz : ¬ (i : Int) < (e.nodes.length : Int) := by omega
          obtain ⟨hle1, hle2⟩ := HBB2.out (by
            intro y hy
            obtain ⟨k, hk, rfl⟩ := List.mem_iff_getElem.1 hy
            have := hA.out k (by omega)
            rwa [getElem!_pos e.nodes k hk] at this)
          clear hA HBB2
          have ee5 := hbe.cell 5 _ rfl
          have er0 := hbr.cell 0 _ rfl
          have er1 := hbr.cell 1 _ rfl
          have er2 := hbr.cell 2 _ rfl
          have er3 := hbr.cell 3 _ rfl
          have er4 := hbr.cell 4 _ rfl
          have er5 := hbr.cell 5 _ rfl
          have er6 := hbr.cell 6 _ rfl
          have er7 := hbr.cell 7 _ rfl
          have er8 := hbr.cell 8 _ rfl
          have hcA := (HA.out.below hb6)
          have hcB := (HBq.out.below hb6)
          have hcC := (HCq.out.below hb6)
          have hprl := hbr.lt
          have hCm := fun W h1 h2 => rqcmp_any (.agg #[a0, a1, a2]) (.agg #[b0, b1, b2]) qA qB 72 72 W h1 h2 qa qb (by decide)
          obtain ⟨z9, hz9⟩ : ∃ z, qcmp qA qB = z := ⟨_, rfl⟩
          rw [hz9] at hCm hle1
          clear hz9
          have hCn := fun W h1 h2 => rqcmp_any (.agg #[b0, b1, b2]) (.agg #[c0, c1, c2]) qB qC 72 72 W h1 h2 qb qc (by decide)
          obtain ⟨y9, hy9⟩ : ∃ z, qcmp qB qC = z := ⟨_, rfl⟩
          rw [hy9] at hCn hle2
          clear hy9
          go_wp2_with (first | (go_at_call 20; (with_reducible refine (hCm _ hcA hcB).mono ?_); rintro e9 w8 ⟨rfl, hb⟩; replace er3 := (hb.cell (p := ⟨pr, 3, none⟩) hprl).trans er3; replace er4 := (hb.cell (p := ⟨pr, 4, none⟩) hprl).trans er4; replace er5 := (hb.cell (p := ⟨pr, 5, none⟩) hprl).trans er5; replace er6 := (hb.cell (p := ⟨pr, 6, none⟩) hprl).trans er6; replace er7 := (hb.cell (p := ⟨pr, 7, none⟩) hprl).trans er7; replace er8 := (hb.cell (p := ⟨pr, 8, none⟩) hprl).trans er8; replace hcB := hcB.below hb; replace hcC := hcC.below hb; replace hbf := hbf.trans (hb.mono hbf.size); clear hb hcA) | (go_at_call 20; (with_reducible refine (hCn _ hcB hcC).mono ?_); rintro e9 w9 ⟨rfl, hb⟩))
          go_ret
          exact ⟨rfl, hbf.trans (hb.mono hbf.size)⟩
theorem u64_ofB {n : Int} (h : (Lit.int .u64 n).wf = true) : ∃ m : Nat, n = (m : Int) ∧ m < 18446744073709551616 := by
  simp [Lit.wf] at h
  have h1 : IntKind.u64.min = 0 := rfl
  have h2 : IntKind.u64.max = 18446744073709551615 := rfl
  rw [h1, h2] at h
  exact ⟨n.toNat, by omega, by omega⟩
/-- A row that came in. -/
theorem row_of {w : World} {v : Value} {ls : List Int} (h : IntsN .u64 w v ls) (hm : ∀ n ∈ ls, (Lit.int .u64 n).wf = true) : ∃ (ro : Option Addr) (rc : Nat) (row : List Nat), v = .slice ro row.length rc ∧ row.length ≤ rc ∧ rc ≤ maxLen ∧ Cells .u64 w ro row ∧ (∀ x ∈ row, x < 18446744073709551616) ∧ (ro = none → rc = 0) ∧ ls = row.map (fun n : Nat => (n : Int)) := by
  obtain ⟨⟨ao, cap, rfl, h1, h2, h3⟩, h4⟩ := h
  have key : ls = (ls.map Int.toNat).map (fun n : Nat => (n : Int)) := by
    rw [List.map_map]
    conv => lhs; rw [← List.map_id ls]
    refine List.map_congr_left fun n hn => ?_
    obtain ⟨m, rfl, _⟩ := u64_ofB (hm n hn)
    simp
  refine ⟨ao, cap, ls.map Int.toNat, by rw [List.length_map], by rw [List.length_map]; exact h1, h2, ?_, ?_, fun h0 => h4 _ _ (by rw [h0]), key⟩
  · rcases h3 with rfl | ⟨b, off, e1, e2, e3⟩
    · exact .inl rfl
    · refine .inr ⟨b, off, e1, e2, fun i hi => ?_⟩
      rw [List.length_map] at hi
      rw [e3 i hi, List.getElem?_map, List.getElem?_eq_getElem hi]
      obtain ⟨m, hm9, _⟩ := u64_ofB (hm ls[i] (List.getElem_mem hi))
      simp [hm9]
  · intro x hx
    obtain ⟨n, hn, rfl⟩ := List.mem_map.1 hx
    obtain ⟨m, rfl, h9⟩ := u64_ofB (hm n hn)
    simpa using h9
theorem runBounds_walk (v : Value) (u : Value) (ls : List Int) (w : World) (h : EnsIn w v) (hs : IntsN .u64 w u ls) (hm : ∀ n ∈ ls, (Lit.int .u64 n).wf = true) :
    Calls Tryz.prog 6 #[v, u] w fun e' w' => e' = .returned (.bool true) ∧ Below w.heap.size w w' := by
  obtain ⟨e, bo, bc, no, nc, lo, lc, hE, _⟩ := h
  obtain ⟨ro, rc, row, rfl, h1, h2, h3, h4, _, _⟩ := row_of hs hm
  exact bounds_e v e bo bc no nc lo lc ro rc row w hE h1 h2 h3 h4
end Go.Proofs.YtieffhkfefimeaaGreatDoor
