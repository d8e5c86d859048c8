/-
  pmsg: walks (4): Bytes.
-/
import Derived.Test.YtjcldnkgidfifaaPmC
namespace Go.Proofs.Ytjcldnkgidfifaa
open Go.RowKit
set_option linter.unusedVariables false
set_option linter.unusedSimpArgs false

theorem mrow_get (l : List (Fld × Int)) (i t : Nat) (h : i < l.length) (ht : t < 6) : (mrow l)[i * 6 + t]? = (mcells (l[i]'h))[t]? := by
  induction l generalizing i with
  | nil => simp at h
  | cons x r ih =>
    have hl : (mcells x).length = 6 := rfl
    simp only [mrow, List.flatMap_cons] at ih ⊢
    cases i with
    | zero => rw [List.getElem?_append_left (by rw [hl]; omega)]; simp
    | succ i =>
      rw [List.getElem?_append_right (by rw [hl]; omega), hl, show (i + 1) * 6 + t - 6 = i * 6 + t by omega, ih i (by simpa using h)]
      rfl
theorem OwnsK.mcell {B : Nat} {w : World} {cap : Nat} {l : List (Fld × Int)} {ao : Option Addr} (h : OwnsK 6 B 81 w (.slice ao l.length cap) l.length (mrow l)) {i : Nat} (hi : i < l.length) :
    ∃ g, ao = some ⟨g, 0, none⟩ ∧ B ≤ g ∧ g < w.heap.size ∧ ∀ t u, (mcells (l[i]'hi))[t]? = some u → w.cell? ⟨g, i * 6 + t, none⟩ = some u := by
  rcases h.shape with ⟨e, h0⟩ | ⟨g, cap', e, h2, h3, h4, h5, h6, h7⟩
  · rw [h0] at hi; omega
  · cases e
    refine ⟨g, rfl, h2, h3, fun t u hu => ?_⟩
    have ht : t < 6 := by
      have := (List.getElem?_eq_some_iff.1 hu).1
      exact this
    rw [h6 (i * 6 + t) (by omega), mrow_get l i t hi ht, hu]
/-- The bytes of a field as it is laid. -/
def encM (x : Fld × Int) : List UInt8 := (putR (x.1.num : Int) (x.1.kind : Int) x.1.val x.1.data).1
def bytesD (l : List (Fld × Int)) : List UInt8 := l.flatMap encM
theorem bytesD_take {l : List (Fld × Int)} {i : Nat} (h : i < l.length) : bytesD (l.take (i + 1)) = bytesD (l.take i) ++ encM (l[i]'h) := by
  unfold bytesD
  rw [List.take_succ_eq_append_getElem h, List.flatMap_append]; simp
theorem bytesD_take_le (l : List (Fld × Int)) (i : Nat) : (bytesD (l.take i)).length ≤ (bytesD l).length := by
  conv => rhs; rw [← List.take_append_drop i l]
  unfold bytesD
  rw [List.flatMap_append, List.length_append]; omega
def bytesR (l : List (Fld × Int)) (e : Int) : List UInt8 × Int := if e ≠ 0 then ([], e) else if 60000 < (bytesD l).length then ([], 2) else (bytesD l, 0)
def okM (l : List (Fld × Int)) : Prop := ∀ x ∈ l, x.1.val < 18446744073709551616 ∧ x.1.data.length ≤ 1000000000000
theorem encM_len (x : Fld × Int) (hv : x.1.val < 18446744073709551616) : (encM x).length ≤ 70000 := by
  unfold encM putR
  split
  · rename_i hr
    obtain ⟨n, hn, hn1, hn2, hc⟩ := rightF_yes hr.symm
    have hk : x.1.kind ≤ 5 := by rcases hc with h | h | h | h <;> omega
    unfold encF
    simp only [List.length_append, Int.toNat_natCast]
    have h1 : (vbytes (x.1.num * 8 + x.1.kind)).length ≤ 10 := vbytes_ten (by omega)
    have h2 := vbytes_ten hv
    rcases hc with ⟨h, _⟩ | ⟨h, _⟩ | ⟨h, _, _⟩ | ⟨h, _, h9⟩
    · rw [if_pos (by omega)]; omega
    · rw [if_neg (by omega), if_pos (by omega), littleB_len]; omega
    · rw [if_neg (by omega), if_neg (by omega), if_pos (by omega), littleB_len]; omega
    · rw [if_neg (by omega), if_neg (by omega), if_neg (by omega), List.length_append]
      have h3 : (vbytes x.1.data.length).length ≤ 10 := vbytes_ten (by omega)
      omega
  · simp
def bcells (D : List UInt8) : List Value := ints .u8 (D.map (·.toNat))
theorem bcells_len (D : List UInt8) : (bcells D).length = D.length := by simp [bcells, ints]
theorem bcells_app (D E : List UInt8) : bcells (D ++ E) = bcells D ++ bcells E := by simp [bcells, ints]
theorem bcells_str (T : List UInt8) : Go.Lib.strCells ⟨T.toArray⟩ = bcells T := by simp [Go.Lib.strCells, bcells, ints]
set_option maxRecDepth 100000 in
theorem bytes_nil (w : World) : Calls Try.prog 23 #[.pointer none] w fun e' w' => e' = .returned (.tuple #[.string ⟨#[]⟩, .int .i64 1]) ∧ Below w.heap.size w w' := by
  go_enter Try.func23, Try.ntmps23
  go_wp2_with fail
  go_ret2
  exact ⟨rfl, Below.refl _ _⟩
set_option maxRecDepth 100000 in
set_option maxHeartbeats 2000000 in
theorem bytes_any (B pm : Nat) (v : Value) (l : List (Fld × Int)) (e c : Int) (T : List UInt8) (w : World) (h : MsgAt B w pm v l e) (hok : okM l) (hll : l.length ≤ 1000000) (HR : Hid ((T, c) = bytesR l e)) :
    Calls Try.prog 23 #[.pointer (some ⟨pm, 0, none⟩)] w fun e' w' => e' = .returned (.tuple #[.string ⟨T.toArray⟩, .int .i64 c]) ∧ Below w.heap.size w w' := by
  obtain ⟨ao, cap, rfl, hc1, hc2, hnil⟩ := h.row.slice
  have hbm := h.box
  have hrow := h.row
  clear h
  have em0 := hbm.cell 0 _ rfl
  have em1 := hbm.cell 1 _ rfl
  by_cases he : e = 0
  · subst he
    obtain ⟨i8, hi8, hz8, hs8, hb8⟩ := E8.info
    have HI8 := Lib.hid hi8
    have HZ8 := Lib.hid hz8
    have HS8 := Lib.hid hs8
    have HB8 := Lib.hid hb8
    have HOK := Lib.hid hok
    clear hi8 hz8 hs8 hb8 hok
    have HR2 : Hid ((T, c) = if 60000 < (bytesD l).length then ([], 2) else (bytesD l, 0)) := Lib.hid (by rw [HR.out]; unfold bytesR; rw [if_neg (by simp)])
    clear HR
    go_enter Try.func23, Try.ntmps23
    go_wp2_with fail
    go_loopg [4, 27] l.length (fun gg bv iv wr => ∃ (i : Nat), i + gg = l.length ∧ iv = .int .i64 (i : Int) ∧ Owns w.heap.size 5 wr bv (bcells (bytesD (l.take i))) ∧ (bytesD (l.take i)).length ≤ 60000 ∧ Below w.heap.size w wr)
    case atStart => exact ⟨0, by omega, rfl, Owns.nil _ _ _, by simp [bytesD], Below.refl _ _⟩
    clear em0 em1
    case round =>
      obtain ⟨i, hi, rfl, ho, hDl, hb⟩ := hrel
      by_cases hil : i < l.length
      · obtain ⟨g, rfl, hgB, hgw, hcell⟩ := hrow.mcell hil
        have HTK := Lib.hid (bytesD_take hil)
        have hle := bytesD_take_le l (i + 1)
        rw [HTK.out, List.length_append] at hle
        have hx := HOK.out _ (List.getElem_mem hil)
        obtain ⟨⟨f, dp⟩, hf⟩ : ∃ x, x = l[i]'hil := ⟨_, rfl⟩
        rw [← hf] at hcell HTK hle hx
        have hlen := encM_len (f, dp) hx.1
        obtain ⟨hx1, hx2⟩ := hx
        simp only at hx1 hx2
        have e0 := (hb.cell (p := ⟨g, i * 6, none⟩) hgw).trans (hcell 0 _ rfl)
        have e1 := (hb.cell (p := ⟨g, i * 6 + 1, none⟩) hgw).trans (hcell 1 _ rfl)
        have e2 := (hb.cell (p := ⟨g, i * 6 + 2, none⟩) hgw).trans (hcell 2 _ rfl)
        have e3 := (hb.cell (p := ⟨g, i * 6 + 3, none⟩) hgw).trans (hcell 3 _ rfl)
        have e4 := (hb.cell (p := ⟨g, i * 6 + 4, none⟩) hgw).trans (hcell 4 _ rfl)
        have e5 := (hb.cell (p := ⟨g, i * 6 + 5, none⟩) hgw).trans (hcell 5 _ rfl)
        clear hf hcell
        have q1 : (i : Int) < (l.length : Int) := by omega
        have q2 : (0 : Int) ≤ (i : Int) := by omega
        obtain ⟨E, hE⟩ : ∃ E, E = encM (f, dp) := ⟨_, rfl⟩
        obtain ⟨c9, hc9⟩ : ∃ c9, c9 = (putR (f.num : Int) (f.kind : Int) f.val f.data).2 := ⟨_, rfl⟩
        have HP : Hid ((E, c9) = putR (f.num : Int) (f.kind : Int) f.val f.data) := Lib.hid (by rw [hE, hc9]; rfl)
        rw [← hE] at HTK hle hlen
        clear hE hc9
        generalize hD : bytesD (l.take i) = D at *
        have HD := Lib.hid hD
        clear hD
        have hlD := bcells_len D
        go_wp2_with fail
        refine (pput_any (f.num : Int) (f.kind : Int) (f.place : Int) f.val f.data E c9 _ HP hx1 (by omega)).mono ?_
        rintro e' w2 ⟨rfl, hb2⟩
        have hb3 : Below wr.heap.size wr w2 := ((Below.refl _ _).alloc (Nat.le_refl _) _).trans (hb2.mono (by simp))
        have hbf := hb.trans (hb3.mono hb.size)
        have ho2 := ho.kept hb3
        have hoK : w2.ownsRow w.heap.size 5 1 u4 D.length (bcells D) := by have h9 := ho2; unfold Owns at h9; rwa [hlD] at h9
        clear hb2 e0 e1 e2 e3 e4 e5 ho ho2 hb3 hb
        by_cases hbig : 60000 < D.length + E.length
        · have hbi : (60000 : Int) < ((D.length : Nat) : Int) + ((E.length : Nat) : Int) := by omega
          have h9 := HR2.out
          rw [if_pos (by omega)] at h9
          injection h9 with h8 h7
          subst h8; subst h7
          clear HR2
          go_wp2_with (at_builtin; refine Go.Lib.wpList_append_own_string _ rfl (.tmp 37) (.tmp 38) 78 9 rfl w.heap.size 5 i8 Try.underlying78 Try.underlying9 HI8.out HZ8.out HS8.out HB8.out u4 D.length (bcells D) rfl hoK ⟨E.toArray⟩ rfl (by show D.length + E.length ≤ _; unfold maxLen; omega) (by show D.length + E.length ≤ _; omega) hbf.size ?_; intro v' w5 ho5 hg5 hni5; have ho6 : w5.ownsRow w.heap.size 5 1 v' (D.length + E.length) (bcells (D ++ E)) := (by rw [bcells_app, ← bcells_str E]; exact ho5); clear ho5 hni5; obtain ⟨ao', cap', rfl, hcc1, hcc2, hcc3⟩ := OwnsK.slice (K := 1) ho6; have hb5 : Below w.heap.size w2 w5 := ⟨hg5.os, hg5.tape, hg5.output, hg5.size, fun k hk => hg5.block k (by have := hbf.size; omega) (fun e' => by have := World.ownsRow.lt hoK k e'.symm; omega)⟩)
          go_ret2
          exact ⟨rfl, hbf.trans (hb5.mono (Nat.le_refl _))⟩
        · have hbi : ¬ (60000 : Int) < ((D.length : Nat) : Int) + ((E.length : Nat) : Int) := by omega
          go_wp2_with (at_builtin; refine Go.Lib.wpList_append_own_string _ rfl (.tmp 37) (.tmp 38) 78 9 rfl w.heap.size 5 i8 Try.underlying78 Try.underlying9 HI8.out HZ8.out HS8.out HB8.out u4 D.length (bcells D) rfl hoK ⟨E.toArray⟩ rfl (by show D.length + E.length ≤ _; unfold maxLen; omega) (by show D.length + E.length ≤ _; omega) hbf.size ?_; intro v' w5 ho5 hg5 hni5; have ho6 : w5.ownsRow w.heap.size 5 1 v' (D.length + E.length) (bcells (D ++ E)) := (by rw [bcells_app, ← bcells_str E]; exact ho5); clear ho5 hni5; obtain ⟨ao', cap', rfl, hcc1, hcc2, hcc3⟩ := OwnsK.slice (K := 1) ho6; have hb5 : Below w.heap.size w2 w5 := ⟨hg5.os, hg5.tape, hg5.output, hg5.size, fun k hk => hg5.block k (by have := hbf.size; omega) (fun e' => by have := World.ownsRow.lt hoK k e'.symm; omega)⟩)
          go_roundg (gk - 1)
          case measure => omega
          case rel =>
            refine ⟨i + 1, by omega, by go_num, ?_, ?_, hbf.trans (hb5.mono (Nat.le_refl _))⟩
            · rw [HTK.out]; unfold Owns; rw [bcells_len, List.length_append]; exact ho6
            · rw [HTK.out, List.length_append]; omega
      · have q1 : ¬ (i : Int) < (l.length : Int) := by omega
        have htk : l.take i = l := List.take_of_length_le (by omega)
        rw [htk] at ho hDl
        have h9 := HR2.out
        rw [if_neg (by omega)] at h9
        injection h9 with h8 h7
        subst h8; subst h7
        clear HR2 htk
        have hlD := bcells_len (bytesD l)
        obtain ⟨ao3, cap3, rfl, hcap3, hcapm3, hnil3, hc3⟩ := (show Owns w.heap.size 5 wr _ (ints .u8 ((bytesD l).map (·.toNat))) from ho).toInts
        have hcv := conv_string (P := Try.prog) Try.underlying78 Try.underlying5 Try.underlying9 hc3 cap3
        rw [str_toNat] at hcv
        generalize hrl : ((bytesD l).map (·.toNat)).length = rl at *
        have HRL := Lib.hid hrl
        clear hrl
        go_wp2_with fail
        go_ret2
        exact ⟨rfl, hb⟩
  · have heb : (e == 0) = false := by rw [beq_eq_false_iff_ne]; exact he
    have h9 := HR.out
    unfold bytesR at h9
    rw [if_pos he] at h9
    injection h9 with h8 h7
    subst h8; subst h7
    clear HR
    go_enter Try.func23, Try.ntmps23
    go_wp2_with fail
    go_region
    go_wp2_with fail
    go_ret2
    exact ⟨rfl, (Below.refl _ _).drew⟩
end Go.Proofs.Ytjcldnkgidfifaa
