/-
  pmsg: walks (5): Parse.
-/
import Derived.Test.YtjcldnkgidfifaaPmD
import Derived.Test.YtjcldnkgidfifaaPbF
import Derived.Deep.LoopGhost
import Derived.WalkKit
import Derived.OwnWalk
import Derived.WalkMore
import Derived.Deep.DeepCutAuto
namespace Go.Proofs.Ytjcldnkgidfifaa
open Go.RowKit
set_option linter.unusedVariables false
set_option linter.unusedSimpArgs false

theorem frow_get (l : List Fld) (i t : Nat) (h : i < l.length) (ht : t < 5) : (frow l)[i * 5 + t]? = (fcells (l[i]'h))[t]? := by
  induction l generalizing i with
  | nil => simp at h
  | cons x r ih =>
    have hl : (fcells x).length = 5 := rfl
    simp only [frow, List.flatMap_cons] at ih ⊢
    cases i with
    | zero => rw [List.getElem?_append_left (by rw [hl]; omega)]; simp
    | succ i =>
      rw [List.getElem?_append_right (by rw [hl]; omega), hl, show (i + 1) * 5 + t - 5 = i * 5 + t by omega, ih i (by simpa using h)]
      rfl
theorem OwnsK.fcell {B : Nat} {w : World} {cap : Nat} {l : List Fld} {ao : Option Addr} (h : OwnsK 5 B 77 w (.slice ao l.length cap) l.length (frow l)) {i : Nat} (hi : i < l.length) :
    ∃ g, ao = some ⟨g, 0, none⟩ ∧ B ≤ g ∧ g < w.heap.size ∧ ∀ t u, (fcells (l[i]'hi))[t]? = some u → w.cell? ⟨g, i * 5 + t, none⟩ = some u := by
  rcases h.shape with ⟨e, h0⟩ | ⟨g, cap', e, h2, h3, h4, h5, h6, h7⟩
  · rw [h0] at hi; omega
  · cases e
    refine ⟨g, rfl, h2, h3, fun t u hu => ?_⟩
    have ht : t < 5 := (List.getElem?_eq_some_iff.1 hu).1
    rw [h6 (i * 5 + t) (by omega), frow_get l i t hi ht, hu]
/-- Where the field behind the i-th one begins. -/
def endAt (n : Nat) (fs : List Fld) (i : Nat) : Nat := match fs[i + 1]? with
  | some g => g.place
  | none => n
def dp1 (n : Nat) (fs : List Fld) (i : Nat) : Fld × Int := (fs[i]?.getD zeroF, (endAt n fs i : Int) - ((fs[i]?.getD zeroF).data.length : Int))
def dpsN (n : Nat) (fs : List Fld) (i : Nat) : List (Fld × Int) := (List.range i).map (dp1 n fs)
theorem dpsN_succ (n : Nat) (fs : List Fld) (i : Nat) : dpsN n fs (i + 1) = dpsN n fs i ++ [dp1 n fs i] := by unfold dpsN; rw [List.range_succ, List.map_append]; rfl
theorem dpsN_len (n : Nat) (fs : List Fld) (i : Nat) : (dpsN n fs i).length = i := by simp [dpsN]
theorem itemsW_ok (b : List UInt8) : ∀ (n p : Nat), b.length - p ≤ n → ∀ x ∈ itemsW b p, x.f.place ≤ b.length ∧ x.f.data.length ≤ b.length ∧ x.f.val < 18446744073709551616 := by
  intro n
  induction n with
  | zero => intro p hp x hx; rw [itemsW_end (by omega)] at hx; cases hx
  | succ n ih =>
    intro p hp x hx
    by_cases h : b.length ≤ p
    · rw [itemsW_end h] at hx; cases hx
    · obtain ⟨o, ho⟩ : ∃ o, o = oneF (b.drop p) 0 := ⟨_, rfl⟩
      cases o with
      | none => rw [itemsW_bad (by omega) ho] at hx; simp at hx; subst hx; exact ⟨Nat.zero_le _, Nat.zero_le _, by show 0 < _; decide⟩
      | some fk =>
        obtain ⟨f, k⟩ := fk
        rw [itemsW_good (by omega) ho] at hx
        have hl := oneF_lim ho.symm
        obtain ⟨h1, h2, h3, h4, h5, h6, _⟩ := hl
        rw [List.length_drop] at h2 h6
        rcases List.mem_cons.1 hx with rfl | hx
        · exact ⟨by simp only; omega, by simp only; omega, h3⟩
        · exact ih (p + k) (by omega) x hx
theorem itemsF_ok (b : List UInt8) : ∀ x ∈ itemsF b, x.f.place ≤ b.length ∧ x.f.data.length ≤ b.length ∧ x.f.val < 18446744073709551616 := by
  intro x hx
  unfold itemsF at hx
  split at hx
  · simp at hx; subst hx; exact ⟨Nat.zero_le _, Nat.zero_le _, by show 0 < _; decide⟩
  · exact itemsW_ok b b.length 0 (by omega) x hx
theorem itemsW_len (b : List UInt8) : ∀ (n p : Nat), b.length - p ≤ n → (itemsW b p).length ≤ n := by
  intro n
  induction n with
  | zero => intro p hp; rw [itemsW_end (by omega)]; simp
  | succ n ih =>
    intro p hp
    by_cases h : b.length ≤ p
    · rw [itemsW_end h]; simp
    · obtain ⟨o, ho⟩ : ∃ o, o = oneF (b.drop p) 0 := ⟨_, rfl⟩
      cases o with
      | none => rw [itemsW_bad (by omega) ho]; simp
      | some fk =>
        obtain ⟨f, k⟩ := fk
        have hl := (oneF_lim ho.symm).1
        rw [itemsW_good (by omega) ho, List.length_cons]
        have := ih (p + k) (by omega)
        omega
theorem itemsF_len (b : List UInt8) : (itemsF b).length ≤ 60000 := by
  unfold itemsF
  split
  · simp
  · exact Nat.le_trans (itemsW_len b b.length 0 (by omega)) (by omega)
/-- The message that bytes are. -/
def msgL (b : List UInt8) : List (Fld × Int) := dpsN b.length ((itemsF b).map (·.f)) (itemsF b).length
def ParsePost (w : World) (b : List UInt8) (e : Ending) (w' : World) : Prop :=
  ((badI (itemsF b) = none ∧ ∃ p v, e = .returned (.tuple #[.pointer (some ⟨p, 0, none⟩), diagV 0 0 []]) ∧ MsgAt w.heap.size w' p v (msgL b) 0) ∨
  (∃ x, badI (itemsF b) = some x ∧ x.code ≠ 0 ∧ e = .returned (.tuple #[.pointer none, diagV x.code x.place x.what]))) ∧ Below w.heap.size w w'
theorem MsgAt.mono {B B' p : Nat} {w : World} {v : Value} {l : List (Fld × Int)} {e : Int} (h : MsgAt B w p v l e) (hb : B' ≤ B) : MsgAt B' w p v l e := ⟨h.box, h.row.mono hb, h.ne, Nat.le_trans hb h.low⟩

set_option maxRecDepth 100000 in
set_option maxHeartbeats 4000000 in
/-- Parse. -/
theorem parse_any (b : List UInt8) (w : World) (hbl : b.length ≤ 1000000000000) : Calls Try.prog 24 #[.string ⟨b.toArray⟩] w (ParsePost w b) := by
  obtain ⟨fs, hfs⟩ : ∃ fs, fs = (itemsF b).map (·.f) := ⟨_, rfl⟩
  have HFS := Lib.hid hfs
  have HOKF : Hid (∀ x ∈ fs, x.place ≤ b.length ∧ x.data.length ≤ b.length) := Lib.hid (by rw [hfs]; intro x hx; obtain ⟨y, hy, rfl⟩ := List.mem_map.1 hx; exact ⟨(itemsF_ok b y hy).1, (itemsF_ok b y hy).2.1⟩)
  have hil := itemsF_len b
  have hfl : fs.length = (itemsF b).length := by rw [hfs]; simp
  have HFL := Lib.hid hfl
  rw [← hfl] at hil
  clear hfs hfl
  obtain ⟨w0, hw0⟩ : ∃ w0, w0 = (w.alloc (.cells #[.int .i64 0, .int .i64 0, .string ⟨#[]⟩] 54)) := ⟨_, rfl⟩
  have hbf : Below w.heap.size w w0 := by rw [hw0]; exact ((Below.refl _ w).alloc (Nat.le_refl _) _)
  obtain ⟨pr, hpr⟩ : ∃ p, p = w.heap.size := ⟨_, rfl⟩
  have hbr : BoxL w0 pr [.int .i64 0, .int .i64 0, .string ⟨#[]⟩] := by rw [hw0, hpr]; exact BoxL.of3 (by go_simp) (by go_simp) (by go_simp) (by go_simp) (by go_simp) (by go_simp)
  have HP : Hid (w.heap.size ≤ pr) := Lib.hid (by omega)
  have HW := Lib.hid hw0; clear hw0
  go_enter Try.func24, Try.ntmps24
  go_upto_region 1 with fail
  rw [← HW.out, ← hpr]
  clear hpr HW
  go_wp2_with fail
  refine (fields_any b _ hbl (by have := itemsF_len b; omega)).mono ?_
  rintro e w1 ⟨hpost, hb⟩
  have hszF := hbf.size
  replace hbr := hbr.kept hb
  replace hbf := hbf.trans (hb.mono hbf.size)
  clear hb
  rcases hpost with ⟨hbad, v, rfl, hrow⟩ | ⟨x, hbad, hx0, rfl⟩
  · skip
    rw [← HFS.out, ← HFL.out] at hrow
    obtain ⟨ao, cap, rfl, hc1, hc2, hnil⟩ := hrow.slice
    unfold maxLen at hc2
    obtain ⟨w2, hwE⟩ : ∃ W, W = (w1.alloc (.cells #[.int .i64 0, .int .i64 0, .string ⟨#[]⟩] 54)) := ⟨_, rfl⟩
    have hb : Below w1.heap.size w1 w2 := by rw [hwE]; exact ((Below.refl _ w1).alloc (Nat.le_refl _) _)
    obtain ⟨py, hpy⟩ : ∃ p, p = w1.heap.size := ⟨_, rfl⟩
    have hby : BoxL w2 py [.int .i64 0, .int .i64 0, .string ⟨#[]⟩] := by rw [hwE, hpy]; exact BoxL.of3 (by go_simp) (by go_simp) (by go_simp) (by go_simp) (by go_simp) (by go_simp)
    replace HP : Hid (w.heap.size ≤ pr ∧ pr < py) := Lib.hid (by have h1 := HP.out; have h9 := hbf.size; have h2r := hbr.lt; omega)
    have HW := Lib.hid hwE; clear hwE
    go_upto_region 2 with fail
    rw [← HW.out, ← hpy]
    clear hpy HW
    replace hbr := hbr.kept hb
    replace hrow := hrow.kept hb
    replace hbf := hbf.trans (hb.mono hbf.size)
    clear hb
    have HBAD := Lib.hid hbad
    clear hbad
    have ey0 := hby.cell 0 _ rfl
    have ey1 := hby.cell 1 _ rfl
    have ey2 := hby.cell 2 _ rfl
    go_wp2_with fail
    clear ey0 ey1 ey2
    refine (new_any _).mono ?_
    rintro e w3 ⟨pm, rfl, hm, hb⟩
    obtain ⟨B, hB⟩ : ∃ B, B = w2.heap.size := ⟨_, rfl⟩
    rw [← hB] at hm
    have hBy : py < B := by rw [hB]; exact hby.lt
    have hBr : pr < B := by rw [hB]; exact hbr.lt
    have hBw : w.heap.size ≤ B := by rw [hB]; exact hbf.size
    have hBrow : ∀ g, (Value.slice ao fs.length cap).ownBlock = some g → g < B := fun g hg => by rw [hB]; exact (hrow.lt g hg).2
    have hBc : B ≤ w3.heap.size := by rw [hB]; exact hb.size
    have HBROW := Lib.hid hBrow
    replace hbr := hbr.kept hb
    replace hby := hby.kept hb
    replace hrow := hrow.kept hb
    replace hbf := hbf.trans (hb.mono hbf.size)
    clear hb hB hBrow
    go_wp2_with fail
    go_loopg [22] fs.length (fun gg iv wr => ∃ (i : Nat) (v1 : Value), i + gg = fs.length ∧ iv = .int .i64 (i : Int) ∧ MsgAt B wr pm v1 (dpsN b.length fs i) 0 ∧ Below B w3 wr)
    case atStart => exact ⟨0, .slice none 0 0, by omega, rfl, by simpa [dpsN] using hm, Below.refl _ _⟩
    clear hm
    case round =>
      obtain ⟨i, v1, hi, rfl, hm, hbB⟩ := hrel
      by_cases hil2 : i < fs.length
      case pos =>
        obtain ⟨g, rfl, hgB, hgw, hcell⟩ := hrow.fcell hil2
        have hgB2 := HBROW.out g rfl
        have hsucc := dpsN_succ b.length fs i
        have HSUCC := Lib.hid hsucc
        clear hsucc
        obtain ⟨fl, hfl9⟩ : ∃ x, x = fs[i]'hil2 := ⟨_, rfl⟩
        rw [← hfl9] at hcell
        have hdp : dp1 b.length fs i = (fl, (endAt b.length fs i : Int) - (fl.data.length : Int)) := by unfold dp1; rw [List.getElem?_eq_getElem hil2, ← hfl9]; rfl
        rw [hdp] at HSUCC
        have hfok := HOKF.out fl (by rw [hfl9]; exact List.getElem_mem hil2)
        obtain ⟨hfo1, hfo2⟩ := hfok
        obtain ⟨E9, hE9⟩ : ∃ x, x = endAt b.length fs i := ⟨_, rfl⟩
        rw [← hE9] at HSUCC
        have HE9 := Lib.hid hE9
        clear hdp hE9 hfl9
        have e0 := (hbB.cell (p := ⟨g, i * 5, none⟩) hgB2).trans (hcell 0 _ rfl)
        have e1 := (hbB.cell (p := ⟨g, i * 5 + 1, none⟩) hgB2).trans (hcell 1 _ rfl)
        have e2 := (hbB.cell (p := ⟨g, i * 5 + 2, none⟩) hgB2).trans (hcell 2 _ rfl)
        have e3 := (hbB.cell (p := ⟨g, i * 5 + 3, none⟩) hgB2).trans (hcell 3 _ rfl)
        have e4 := (hbB.cell (p := ⟨g, i * 5 + 4, none⟩) hgB2).trans (hcell 4 _ rfl)
        have q1 : (i : Int) < (fs.length : Int) := by omega
        have q2 : (0 : Int) ≤ (i : Int) := by omega
        have hle9 : E9 ≤ b.length := by
          rw [HE9.out]; unfold endAt
          cases h9 : fs[i + 1]? with
          | none => exact Nat.le_refl _
          | some g9 => exact (HOKF.out g9 (List.mem_of_getElem? h9)).1
        replace hbf := hbf.trans (hbB.mono hBw)
        replace hbr := hbr.below hbB hBr
        replace hby := hby.below hbB hBy
        have hszB := Nat.le_trans hBc hbB.size
        obtain ⟨ao1, cap1, rfl, hc3, hc4, hnil3⟩ := hm.row.slice
        have hbm := hm.box
        have hrowm := hm.row
        have hne := Lib.hid hm.ne
        have hlow := Lib.hid hm.low
        have hpm := hm.box.lt
        rw [dpsN_len] at hbm hrowm hne hc3
        clear hm
        replace HP : Hid (w.heap.size ≤ pr ∧ pr < py ∧ py < pm) := Lib.hid (by have := HP.out; have := hlow.out; omega)
        have HRB : Hid (∀ k, (Value.slice ao1 i cap1).ownBlock = some k → k < wr.heap.size) := Lib.hid fun k hk => (hrowm.lt k hk).2
        obtain ⟨w4, hwE⟩ : ∃ W, W = (wr.alloc (.cells #[.int .i64 (fl.num : Int), .int .i64 (fl.kind : Int), .int .i64 (fl.place : Int), .int .u64 (fl.val : Int), .string ⟨fl.data.toArray⟩] 77)) := ⟨_, rfl⟩
        have hb : Below wr.heap.size wr w4 := by rw [hwE]; exact ((Below.refl _ wr).alloc (Nat.le_refl _) _)
        obtain ⟨px, hpx⟩ : ∃ p, p = wr.heap.size := ⟨_, rfl⟩
        have hbx : BoxL w4 px [.int .i64 (fl.num : Int), .int .i64 (fl.kind : Int), .int .i64 (fl.place : Int), .int .u64 (fl.val : Int), .string ⟨fl.data.toArray⟩] := by rw [hwE, hpx]; exact BoxL.of5 (by go_simp) (by go_simp) (by go_simp) (by go_simp) (by go_simp) (by go_simp) (by go_simp) (by go_simp) (by go_simp) (by go_simp)
        replace HP : Hid (w.heap.size ≤ pr ∧ pr < py ∧ py < pm ∧ pm < px) := Lib.hid (by have h1 := HP.out; have h9 := hbf.size; have h2m := hbm.lt; omega)
        have HPX : Hid (wr.heap.size ≤ px) := Lib.hid (by omega)
        have HW := Lib.hid hwE; clear hwE
        go_upto_region 8 with fail
        rw [← HW.out, ← hpx]
        clear hpx HW
        replace hbr := hbr.kept hb
        replace hby := hby.kept hb
        replace hbm := hbm.kept hb
        replace hrowm := hrowm.kept hb
        replace hbB := hbB.trans ((hb).mono hszB)
        replace hszB := Nat.le_trans hszB (hb).size
        replace hbf := hbf.trans (hb.mono hbf.size)
        clear hb
        clear e0 e1 e2 e3 e4
        by_cases hnx : i + 1 < fs.length
        case pos =>
          obtain ⟨g2, h92, _, _, hcell2⟩ := hrow.fcell hnx
          cases h92
          have hpl : E9 = (fs[i + 1]'hnx).place := by rw [HE9.out]; unfold endAt; rw [List.getElem?_eq_getElem hnx]
          have e9 := (hbB.cell (p := ⟨g, (i + 1) * 5 + 2, none⟩) hgB2).trans (hcell2 2 _ rfl)
          rw [← hpl] at e9
          have q3 : (i : Int) + 1 < (fs.length : Int) := by omega
          clear hpl hcell2
          clear hcell
          have ex0 := hbx.cell 0 _ rfl
          have ex1 := hbx.cell 1 _ rfl
          have ex2 := hbx.cell 2 _ rfl
          have ex3 := hbx.cell 3 _ rfl
          have ex4 := hbx.cell 4 _ rfl
          have em0 := hbm.cell 0 _ rfl
          have em1 := hbm.cell 1 _ rfl
          go_upto_region 11 with fail
          clear ex0 ex1 ex2 ex3 ex4 em0 em1
          clear e9
          refine wp_region_seqT (S := fun w' => BoxL w' px [.int .i64 (fl.num : Int), .int .i64 (fl.kind : Int), .int .i64 (fl.place : Int), .int .u64 (fl.val : Int), .string ⟨fl.data.toArray⟩] ∧ BoxL w' pm [.slice ao1 i cap1, .int .i64 0]) [(true, 0), (true, 1), (true, 2), (true, 3), (true, 4), (true, 5), (true, 6), (true, 7), (true, 8), (true, 9), (true, 10), (true, 11), (false, 12), (false, 13), (true, 14), (true, 15)] (by kernel_rfl) (by kernel_rfl) (by kernel_rfl) (by kernel_rfl) (by kernel_rfl) (by kernel_rfl) (fun d _ _ _ _ h => by cases d <;> exact h) ⟨hbx.drew, hbm.drew⟩ (fun _ => ?_)
          simp only [pickOps, List.append_eq, List.cons_append, List.nil_append, List.getElem?_toArray, List.getElem?_cons_succ, List.getElem?_cons_zero]
          have hb : Below w4.heap.size w4 w4.drew := (Below.refl _ _).drew
          generalize w4.drew = w5 at hb ⊢
          replace hbr := hbr.kept hb
          replace hby := hby.kept hb
          replace hbm := hbm.kept hb
          replace hbx := hbx.kept hb
          replace hrowm := hrowm.kept hb
          replace hbB := hbB.trans ((hb).mono hszB)
          replace hszB := Nat.le_trans hszB (hb).size
          replace hbf := hbf.trans (hb.mono hbf.size)
          clear hb
          repeat (first | (refine seq_take (v := ?_) (by rfl) ?_ ?_; rotate_left; (· intro w hSw; (try dsimp only at hSw); obtain ⟨hLx, hLm⟩ := hSw; have ex0 := hLx.cell 0 _ rfl; have ex1 := hLx.cell 1 _ rfl; have ex2 := hLx.cell 2 _ rfl; have ex3 := hLx.cell 3 _ rfl; have ex4 := hLx.cell 4 _ rfl; clear hLx; have em0 := hLm.cell 0 _ rfl; have em1 := hLm.cell 1 _ rfl; clear hLm; go_simp; all_goals with_reducible rfl); (try simp only [Act.put, List.setIfInBounds_toArray, List.set_cons_zero, List.set_cons_succ])) | (refine seq_leave (by rfl) ?_; (try simp only [Act.put, List.setIfInBounds_toArray, List.set_cons_zero, List.set_cons_succ])))
          refine seq_step (by rfl) (fun K hK => ?_)
          go_simp
          rw [show IntKind.i64.wrap ((E9 : Int) - (fl.data.length : Int)) = (E9 : Int) - (fl.data.length : Int) from IntWalk.i64_in _ (by omega)]
          obtain ⟨w6, hwE⟩ : ∃ W, W = w5.alloc (.cells #[.int .i64 (fl.num : Int), .int .i64 (fl.kind : Int), .int .i64 (fl.place : Int), .int .u64 (fl.val : Int), .string ⟨fl.data.toArray⟩, .int .i64 ((E9 : Int) - (fl.data.length : Int))] 81) := ⟨_, rfl⟩
          have hb : Below w5.heap.size w5 w6 := by rw [hwE]; exact (Below.refl _ _).alloc (Nat.le_refl _) _
          have hcs : ∀ j u, (mcells (fl, (E9 : Int) - (fl.data.length : Int)))[j]? = some u → w6.cell? ((⟨w5.heap.size, 0, none⟩ : Addr).add j) = some u := by
            intro j u hj
            rw [Addr.add_lit, Nat.zero_add, hwE]
            exact (BoxL.new w5 (mcells (fl, (E9 : Int) - (fl.data.length : Int))) 81).cell j u hj
          rw [← hwE]
          clear hwE
          replace hbr := hbr.kept hb
          replace hby := hby.kept hb
          replace hbm := hbm.kept hb
          replace hbx := hbx.kept hb
          replace hrowm := hrowm.kept hb
          replace hbB := hbB.trans ((hb).mono hszB)
          replace hszB := Nat.le_trans hszB (hb).size
          replace hbf := hbf.trans (hb.mono hbf.size)
          clear hb
          first | refine hK.out _ _ ⟨hbx, hbm⟩ (fun _ => ?_) | (go_wp2_with fail; refine hK.out _ _ ⟨hbx, hbm⟩ (fun _ => ?_))
          clear hK K
          (try simp only [Act.put, List.setIfInBounds_toArray, List.set_cons_zero, List.set_cons_succ])
          refine seq_step (by rfl) (fun K hK => ?_)
          refine step_appendK E6 hrowm rfl rfl rfl rfl hcs (oneCell_mcells _) (by omega) (by unfold maxLen; omega) (by omega) ?_
          intro v9 w7 ho9 hg9 hn9
          rw [show mrow (dpsN b.length fs i) ++ mcells (fl, (E9 : Int) - (fl.data.length : Int)) = mrow (dpsN b.length fs (i + 1)) by rw [HSUCC.out, mrow_snoc]] at ho9
          obtain ⟨ao2, cap2, rfl, _, _, _⟩ := ho9.slice
          have hbB9 : Below B w6 w7 := ⟨hg9.os, hg9.tape, hg9.output, hg9.size, fun k hk => hg9.block k (by omega) (fun e9 => by have := (hrowm.lt k e9.symm).1; omega)⟩
          have hpx := hbx.lt
          replace hbx := hbx.grown hg9 (fun e9 => by have := HRB.out px e9; have := HPX.out; omega)
          replace hbm := hbm.grown hg9 hne.out
          have hne2 : (Value.slice ao2 (i + 1) cap2).ownBlock ≠ some pm := fun e9 => by rcases hn9 pm e9 with h4 | h4; exact hne.out h4; have := hbm.lt; have := HP.out; omega
          replace hbf := hbf.trans (hbB9.mono hBw)
          replace hbB := hbB.trans hbB9
          replace hszB := Nat.le_trans hszB hbB9.size
          clear hrowm hg9 hcs hn9 hbB9 hpx
          have HO := Lib.hid ho9
          have HN2 := Lib.hid hne2
          clear ho9 hne2
          first | refine hK.out _ _ ⟨hbx, hbm⟩ (fun _ => ?_) | (go_wp2_with fail; refine hK.out _ _ ⟨hbx, hbm⟩ (fun _ => ?_))
          clear hK K
          (try simp only [Act.put, List.setIfInBounds_toArray, List.set_cons_zero, List.set_cons_succ])
          repeat (first | (refine seq_take (v := ?_) (by rfl) ?_ ?_; rotate_left; (· intro w hSw; (try dsimp only at hSw); obtain ⟨hLx, hLm⟩ := hSw; have ex0 := hLx.cell 0 _ rfl; have ex1 := hLx.cell 1 _ rfl; have ex2 := hLx.cell 2 _ rfl; have ex3 := hLx.cell 3 _ rfl; have ex4 := hLx.cell 4 _ rfl; clear hLx; have em0 := hLm.cell 0 _ rfl; have em1 := hLm.cell 1 _ rfl; clear hLm; go_simp; all_goals with_reducible rfl); (try simp only [Act.put, List.setIfInBounds_toArray, List.set_cons_zero, List.set_cons_succ])) | (refine seq_leave (by rfl) ?_; (try simp only [Act.put, List.setIfInBounds_toArray, List.set_cons_zero, List.set_cons_succ])))
          refine seq_end ?_
          refine tail_end rfl rfl ?_
          have em0 := hbm.cell 0 _ rfl
          have fm0 := hbm.free 0 (by simp)
          have em1 := hbm.cell 1 _ rfl
          have fm1 := hbm.free 1 (by simp)
          go_simp
          clear em0 fm0 em1 fm1
          (try go_wp2_with fail)
          go_roundg (gk - 1)
          case measure => omega
          case rel => exact ⟨i + 1, .slice ao2 (i + 1) cap2, by omega, by go_num, ⟨hbm.set 0 _ (by simp), (by rw [dpsN_len]; exact HO.out.grown (grownBy_set (grownBy_refl _ (some pm)) 0 _) (fun k hk e9 => HN2.out (by rw [hk, ← e9]))), HN2.out, hlow.out⟩, hbB.setCell (p := ⟨pm, 0, none⟩) hlow.out _⟩
        case neg =>
          have hpl : E9 = b.length := by rw [HE9.out]; unfold endAt; rw [List.getElem?_eq_none (by omega)]
          subst hpl
          have q3 : ¬ (i : Int) + 1 < (fs.length : Int) := by omega
          clear hcell
          have ex0 := hbx.cell 0 _ rfl
          have ex1 := hbx.cell 1 _ rfl
          have ex2 := hbx.cell 2 _ rfl
          have ex3 := hbx.cell 3 _ rfl
          have ex4 := hbx.cell 4 _ rfl
          have em0 := hbm.cell 0 _ rfl
          have em1 := hbm.cell 1 _ rfl
          go_upto_region 11 with fail
          clear ex0 ex1 ex2 ex3 ex4 em0 em1
          refine wp_region_seqT (S := fun w' => BoxL w' px [.int .i64 (fl.num : Int), .int .i64 (fl.kind : Int), .int .i64 (fl.place : Int), .int .u64 (fl.val : Int), .string ⟨fl.data.toArray⟩] ∧ BoxL w' pm [.slice ao1 i cap1, .int .i64 0]) [(true, 0), (true, 1), (true, 2), (true, 3), (true, 4), (true, 5), (true, 6), (true, 7), (true, 8), (true, 9), (true, 10), (true, 11), (false, 12), (false, 13), (true, 14), (true, 15)] (by kernel_rfl) (by kernel_rfl) (by kernel_rfl) (by kernel_rfl) (by kernel_rfl) (by kernel_rfl) (fun d _ _ _ _ h => by cases d <;> exact h) ⟨hbx.drew, hbm.drew⟩ (fun _ => ?_)
          simp only [pickOps, List.append_eq, List.cons_append, List.nil_append, List.getElem?_toArray, List.getElem?_cons_succ, List.getElem?_cons_zero]
          have hb : Below w4.heap.size w4 w4.drew := (Below.refl _ _).drew
          generalize w4.drew = w5 at hb ⊢
          replace hbr := hbr.kept hb
          replace hby := hby.kept hb
          replace hbm := hbm.kept hb
          replace hbx := hbx.kept hb
          replace hrowm := hrowm.kept hb
          replace hbB := hbB.trans ((hb).mono hszB)
          replace hszB := Nat.le_trans hszB (hb).size
          replace hbf := hbf.trans (hb.mono hbf.size)
          clear hb
          repeat (first | (refine seq_take (v := ?_) (by rfl) ?_ ?_; rotate_left; (· intro w hSw; (try dsimp only at hSw); obtain ⟨hLx, hLm⟩ := hSw; have ex0 := hLx.cell 0 _ rfl; have ex1 := hLx.cell 1 _ rfl; have ex2 := hLx.cell 2 _ rfl; have ex3 := hLx.cell 3 _ rfl; have ex4 := hLx.cell 4 _ rfl; clear hLx; have em0 := hLm.cell 0 _ rfl; have em1 := hLm.cell 1 _ rfl; clear hLm; go_simp; all_goals with_reducible rfl); (try simp only [Act.put, List.setIfInBounds_toArray, List.set_cons_zero, List.set_cons_succ])) | (refine seq_leave (by rfl) ?_; (try simp only [Act.put, List.setIfInBounds_toArray, List.set_cons_zero, List.set_cons_succ])))
          refine seq_step (by rfl) (fun K hK => ?_)
          go_simp
          rw [show IntKind.i64.wrap ((b.length : Int) - (fl.data.length : Int)) = (b.length : Int) - (fl.data.length : Int) from IntWalk.i64_in _ (by omega)]
          obtain ⟨w6, hwE⟩ : ∃ W, W = w5.alloc (.cells #[.int .i64 (fl.num : Int), .int .i64 (fl.kind : Int), .int .i64 (fl.place : Int), .int .u64 (fl.val : Int), .string ⟨fl.data.toArray⟩, .int .i64 ((b.length : Int) - (fl.data.length : Int))] 81) := ⟨_, rfl⟩
          have hb : Below w5.heap.size w5 w6 := by rw [hwE]; exact (Below.refl _ _).alloc (Nat.le_refl _) _
          have hcs : ∀ j u, (mcells (fl, (b.length : Int) - (fl.data.length : Int)))[j]? = some u → w6.cell? ((⟨w5.heap.size, 0, none⟩ : Addr).add j) = some u := by
            intro j u hj
            rw [Addr.add_lit, Nat.zero_add, hwE]
            exact (BoxL.new w5 (mcells (fl, (b.length : Int) - (fl.data.length : Int))) 81).cell j u hj
          rw [← hwE]
          clear hwE
          replace hbr := hbr.kept hb
          replace hby := hby.kept hb
          replace hbm := hbm.kept hb
          replace hbx := hbx.kept hb
          replace hrowm := hrowm.kept hb
          replace hbB := hbB.trans ((hb).mono hszB)
          replace hszB := Nat.le_trans hszB (hb).size
          replace hbf := hbf.trans (hb.mono hbf.size)
          clear hb
          first | refine hK.out _ _ ⟨hbx, hbm⟩ (fun _ => ?_) | (go_wp2_with fail; refine hK.out _ _ ⟨hbx, hbm⟩ (fun _ => ?_))
          clear hK K
          (try simp only [Act.put, List.setIfInBounds_toArray, List.set_cons_zero, List.set_cons_succ])
          refine seq_step (by rfl) (fun K hK => ?_)
          refine step_appendK E6 hrowm rfl rfl rfl rfl hcs (oneCell_mcells _) (by omega) (by unfold maxLen; omega) (by omega) ?_
          intro v9 w7 ho9 hg9 hn9
          rw [show mrow (dpsN b.length fs i) ++ mcells (fl, (b.length : Int) - (fl.data.length : Int)) = mrow (dpsN b.length fs (i + 1)) by rw [HSUCC.out, mrow_snoc]] at ho9
          obtain ⟨ao2, cap2, rfl, _, _, _⟩ := ho9.slice
          have hbB9 : Below B w6 w7 := ⟨hg9.os, hg9.tape, hg9.output, hg9.size, fun k hk => hg9.block k (by omega) (fun e9 => by have := (hrowm.lt k e9.symm).1; omega)⟩
          have hpx := hbx.lt
          replace hbx := hbx.grown hg9 (fun e9 => by have := HRB.out px e9; have := HPX.out; omega)
          replace hbm := hbm.grown hg9 hne.out
          have hne2 : (Value.slice ao2 (i + 1) cap2).ownBlock ≠ some pm := fun e9 => by rcases hn9 pm e9 with h4 | h4; exact hne.out h4; have := hbm.lt; have := HP.out; omega
          replace hbf := hbf.trans (hbB9.mono hBw)
          replace hbB := hbB.trans hbB9
          replace hszB := Nat.le_trans hszB hbB9.size
          clear hrowm hg9 hcs hn9 hbB9 hpx
          have HO := Lib.hid ho9
          have HN2 := Lib.hid hne2
          clear ho9 hne2
          first | refine hK.out _ _ ⟨hbx, hbm⟩ (fun _ => ?_) | (go_wp2_with fail; refine hK.out _ _ ⟨hbx, hbm⟩ (fun _ => ?_))
          clear hK K
          (try simp only [Act.put, List.setIfInBounds_toArray, List.set_cons_zero, List.set_cons_succ])
          repeat (first | (refine seq_take (v := ?_) (by rfl) ?_ ?_; rotate_left; (· intro w hSw; (try dsimp only at hSw); obtain ⟨hLx, hLm⟩ := hSw; have ex0 := hLx.cell 0 _ rfl; have ex1 := hLx.cell 1 _ rfl; have ex2 := hLx.cell 2 _ rfl; have ex3 := hLx.cell 3 _ rfl; have ex4 := hLx.cell 4 _ rfl; clear hLx; have em0 := hLm.cell 0 _ rfl; have em1 := hLm.cell 1 _ rfl; clear hLm; go_simp; all_goals with_reducible rfl); (try simp only [Act.put, List.setIfInBounds_toArray, List.set_cons_zero, List.set_cons_succ])) | (refine seq_leave (by rfl) ?_; (try simp only [Act.put, List.setIfInBounds_toArray, List.set_cons_zero, List.set_cons_succ])))
          refine seq_end ?_
          refine tail_end rfl rfl ?_
          have em0 := hbm.cell 0 _ rfl
          have fm0 := hbm.free 0 (by simp)
          have em1 := hbm.cell 1 _ rfl
          have fm1 := hbm.free 1 (by simp)
          go_simp
          clear em0 fm0 em1 fm1
          (try go_wp2_with fail)
          go_roundg (gk - 1)
          case measure => omega
          case rel => exact ⟨i + 1, .slice ao2 (i + 1) cap2, by omega, by go_num, ⟨hbm.set 0 _ (by simp), (by rw [dpsN_len]; exact HO.out.grown (grownBy_set (grownBy_refl _ (some pm)) 0 _) (fun k hk e9 => HN2.out (by rw [hk, ← e9]))), HN2.out, hlow.out⟩, hbB.setCell (p := ⟨pm, 0, none⟩) hlow.out _⟩
      case neg =>
        have q1 : ¬ (i : Int) < (fs.length : Int) := by omega
        have hie : i = fs.length := by omega
        subst hie
        replace hbf := hbf.trans (hbB.mono hBw)
        replace hbr := hbr.below hbB hBr
        have er0 := hbr.cell 0 _ rfl
        have fr0 := hbr.free 0 (by simp)
        have er1 := hbr.cell 1 _ rfl
        have fr1 := hbr.free 1 (by simp)
        have er2 := hbr.cell 2 _ rfl
        have fr2 := hbr.free 2 (by simp)
        go_wp2_with fail
        clear er0 fr0 er1 fr1 er2 fr2
        have hbr2 := ((hbr.set 0 (.int .i64 0) (by simp)).set 1 (.int .i64 0) (by simp)).set 2 (.string ⟨#[]⟩) (by simp)
        have hbf2 := ((hbf.setCell (p := ⟨pr, 0, none⟩) (show w.heap.size ≤ pr by have := HP.out; omega) (.int .i64 0)).setCell (p := ⟨pr, 1, none⟩) (show w.heap.size ≤ pr by have := HP.out; omega) (.int .i64 0)).setCell (p := ⟨pr, 2, none⟩) (show w.heap.size ≤ pr by have := HP.out; omega) (.string ⟨#[]⟩)
        have hkS := (((Keep.refl (fun k => k = pr) wr).set pr 0 (.int .i64 0) (.inl rfl)).set pr 1 (.int .i64 0) (.inl rfl)).set pr 2 (.string ⟨#[]⟩) (.inl rfl)
        have hm2 := (hm.keep hkS (fun k hk e9 => by have := (hm.ow k hk).1; omega)).mono hBw
        have hmL : dpsN b.length fs fs.length = msgL b := by unfold msgL; rw [← HFL.out, ← HFS.out]
        rw [hmL] at hm2
        have h0 := hbr2.cell 0 _ rfl
        have h1 := hbr2.cell 1 _ rfl
        have h2 := hbr2.cell 2 _ rfl
        exact bodyPost_ret (v := .tuple #[.pointer (some ⟨pm, 0, none⟩), diagV 0 0 []]) (by simp [results, Try.results24, go_sem, h0, h1, h2]) rfl ⟨.inl ⟨HBAD.out, pm, v1, rfl, hm2⟩, hbf2⟩
  · skip
    obtain ⟨w2, hwE⟩ : ∃ W, W = (w1.alloc (.cells #[.int .i64 (x.code : Int), .int .i64 (x.place : Int), .string ⟨x.what.toArray⟩] 54)) := ⟨_, rfl⟩
    have hb : Below w1.heap.size w1 w2 := by rw [hwE]; exact ((Below.refl _ w1).alloc (Nat.le_refl _) _)
    obtain ⟨py, hpy⟩ : ∃ p, p = w1.heap.size := ⟨_, rfl⟩
    have hby : BoxL w2 py [.int .i64 (x.code : Int), .int .i64 (x.place : Int), .string ⟨x.what.toArray⟩] := by rw [hwE, hpy]; exact BoxL.of3 (by go_simp) (by go_simp) (by go_simp) (by go_simp) (by go_simp) (by go_simp)
    replace HP : Hid (w.heap.size ≤ pr ∧ pr < py) := Lib.hid (by have h1 := HP.out; have h9 := hbf.size; have h2r := hbr.lt; omega)
    have HW := Lib.hid hwE; clear hwE
    go_upto_region 2 with fail
    rw [← HW.out, ← hpy]
    clear hpy HW
    replace hbr := hbr.kept hb
    replace hbf := hbf.trans (hb.mono hbf.size)
    clear hb
    have hc0 : (((x.code : Nat) : Int) == 0) = false := by rw [beq_eq_false_iff_ne]; omega
    have HBAD := Lib.hid hbad
    have HX0 := Lib.hid hx0
    clear hbad hx0
    have ey0 := hby.cell 0 _ rfl
    have ey1 := hby.cell 1 _ rfl
    have ey2 := hby.cell 2 _ rfl
    have er0 := hbr.cell 0 _ rfl
    have fr0 := hbr.free 0 (by simp)
    have er1 := hbr.cell 1 _ rfl
    have fr1 := hbr.free 1 (by simp)
    have er2 := hbr.cell 2 _ rfl
    have fr2 := hbr.free 2 (by simp)
    go_wp2_with fail
    go_region
    clear ey0 ey1 ey2 er0 fr0 er1 fr1 er2 fr2
    all_goals
      have hbr2 := ((hbr.set 0 (.int .i64 (x.code : Int)) (by simp)).set 1 (.int .i64 (x.place : Int)) (by simp)).set 2 (.string ⟨x.what.toArray⟩) (by simp)
      have hbf2 := ((hbf.setCell (p := ⟨pr, 0, none⟩) (show w.heap.size ≤ pr by have := HP.out; omega) (.int .i64 (x.code : Int))).setCell (p := ⟨pr, 1, none⟩) (show w.heap.size ≤ pr by have := HP.out; omega) (.int .i64 (x.place : Int))).setCell (p := ⟨pr, 2, none⟩) (show w.heap.size ≤ pr by have := HP.out; omega) (.string ⟨x.what.toArray⟩)
      have h0 := hbr2.drew.cell 0 _ rfl
      have h1 := hbr2.drew.cell 1 _ rfl
      have h2 := hbr2.drew.cell 2 _ rfl
      (try go_wp2_with fail)
      exact bodyPost_ret (v := .tuple #[.pointer none, diagV x.code x.place x.what]) (by simp [results, Try.results24, go_sem, h0, h1, h2]) rfl ⟨.inr ⟨x, HBAD.out, HX0.out, rfl⟩, hbf2.drew⟩

end Go.Proofs.Ytjcldnkgidfifaa
