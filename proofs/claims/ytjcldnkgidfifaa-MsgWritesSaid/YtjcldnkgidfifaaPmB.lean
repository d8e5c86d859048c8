/-
  pmsg: walks (2): PutUint, PutText, PutInts.
-/
import Derived.Test.YtjcldnkgidfifaaPmA
import Derived.Deep.LoopGhost
import Derived.WalkKit
import Derived.OwnWalk
import Derived.WalkMore
import Derived.Deep.DeepCutAuto
import Derived.Lib.ConvBytes
import Derived.Lib.AppendStr
namespace Go.Proofs.Ytjcldnkgidfifaa
open Go.RowKit
set_option linter.unusedVariables false
set_option linter.unusedSimpArgs false

/-- A list in memory, in no block of S. -/
def RowV (S : Nat → Prop) (w : World) (sv : Value) (xs : List Value) : Prop :=
  ∃ ao cap, sv = .slice ao xs.length cap ∧ xs.length ≤ cap ∧ cap ≤ maxLen ∧ (xs = [] ∨ ∃ b off, ao = some ⟨b, off, none⟩ ∧ b < w.heap.size ∧ ¬ S b ∧ ∀ i x, xs[i]? = some x → w.cell? ⟨b, off + i, none⟩ = some x)
theorem RowV.step {p : Nat} {v v' sv : Value} {xs : List Value} {w w' : World} (h : RowV (Ow p v) w sv xs) (hk : Keep (Ow p v) w w') (hn : ∀ g, v'.ownBlock = some g → v.ownBlock = some g ∨ w.heap.size ≤ g) : RowV (Ow p v') w' sv xs := by
  obtain ⟨ao, cap, h1, h2, h3, h4⟩ := h
  refine ⟨ao, cap, h1, h2, h3, ?_⟩
  rcases h4 with h4 | ⟨b, off, h5, h6, h7, h8⟩
  · exact .inl h4
  · refine .inr ⟨b, off, h5, Nat.lt_of_lt_of_le h6 hk.size, fun hs => ?_, fun i x hi => (World.cell?_of_block (a := ⟨b, off + i, none⟩) (hk.same b h6 h7)).trans (h8 i x hi)⟩
    rcases hs with rfl | hs
    · exact h7 (.inl rfl)
    · rcases hn b hs with h9 | h9
      · exact h7 (.inr h9)
      · omega
theorem RowV.kept {S : Nat → Prop} {sv : Value} {xs : List Value} {w w' : World} (h : RowV S w sv xs) (hb : Below w.heap.size w w') : RowV S w' sv xs := by
  obtain ⟨ao, cap, h1, h2, h3, h4⟩ := h
  refine ⟨ao, cap, h1, h2, h3, ?_⟩
  rcases h4 with h4 | ⟨b, off, h5, h6, h7, h8⟩
  · exact .inl h4
  · exact .inr ⟨b, off, h5, Nat.lt_of_lt_of_le h6 hb.size, h7, fun i x hi => (hb.cell (p := ⟨b, off + i, none⟩) h6).trans (h8 i x hi)⟩
def svs (ls : List (List UInt8)) : List Value := ls.map fun l => .string ⟨l.toArray⟩
theorem svs_get {ls : List (List UInt8)} {i : Nat} (h : i < ls.length) : (svs ls)[i]? = some (.string ⟨(ls[i]?.getD []).toArray⟩) := by simp [svs, h]
theorem bytesWorld_below (w : World) (e : TypeId) (s : ByteArray) : Below w.heap.size w (Go.Lib.bytesWorld w e s) := by
  refine ⟨?_, ?_, ?_, ?_, fun k hk => Go.Lib.bytesWorld_at_old w e s k hk⟩
  · simp [Go.Lib.bytesWorld, World.freeze, World.alloc, World.drew, -World.alloc_eq, -World.drew_eq]
  · simp [Go.Lib.bytesWorld, World.freeze, World.alloc, World.drew, -World.alloc_eq, -World.drew_eq]
  · simp [Go.Lib.bytesWorld, World.freeze, World.alloc, World.drew, -World.alloc_eq, -World.drew_eq]
  · rw [Go.Lib.bytesWorld_size]; omega
theorem conv_there (l : List UInt8) (W : World) : (convert 9 78 (.string ⟨l.toArray⟩)).run Try.prog W = .ok (.slice (some ⟨W.heap.size, 0, none⟩) l.length (grownCap W l.length 0 5)) (Go.Lib.bytesWorld W 5 ⟨l.toArray⟩) :=
  Go.Lib.run_convert_string_bytes W 9 78 5 ⟨l.toArray⟩ Try.underlying9 Try.underlying78 Try.underlying5
theorem str_toNat (l : List UInt8) : str (l.map (·.toNat)) = l := by
  induction l with
  | nil => rfl
  | cons x l ih => simp only [str, List.map_cons] at ih ⊢; rw [ih]; simp
theorem conv_back (l : List UInt8) (W : World) (cap : Nat) : (convert 78 9 (.slice (some ⟨W.heap.size, 0, none⟩) l.length cap)).run Try.prog (Go.Lib.bytesWorld W 5 ⟨l.toArray⟩) = .ok (.string ⟨l.toArray⟩) (Go.Lib.bytesWorld W 5 ⟨l.toArray⟩) := by
  have hc : Cells .u8 (Go.Lib.bytesWorld W 5 ⟨l.toArray⟩) (some ⟨W.heap.size, 0, none⟩) (l.map (·.toNat)) := by
    refine .inr ⟨W.heap.size, 0, rfl, by rw [Go.Lib.bytesWorld_size]; omega, fun i hi => ?_⟩
    rw [Nat.zero_add, Go.Lib.bytesWorld_cell _ _ _ _ (by show i < l.length; simpa using hi)]
    simp at hi
    simp [hi]
  have h := conv_string (P := Try.prog) Try.underlying78 Try.underlying5 Try.underlying9 hc cap
  rwa [str_toNat, List.length_map] at h
theorem stepM_len (s : List (Fld × Int) × Int) (num kind : Int) (val : Nat) (data : List UInt8) : (stepM s num kind val data).1.length ≤ s.1.length + 1 := by
  unfold stepM; split
  · omega
  · split
    · simp
    · simp
set_option maxRecDepth 100000 in
set_option maxHeartbeats 1000000 in
theorem putUint_any (B pm : Nat) (v : Value) (l : List (Fld × Int)) (e num : Int) (val : Nat) (w : World) (h : MsgAt B w pm v l e) (hval : val < 18446744073709551616) (hll : l.length ≤ 1000000) :
    Calls Try.prog 10 #[.pointer (some ⟨pm, 0, none⟩), .int .i64 num, .int .u64 (val : Int)] w fun e' w' => e' = .returned (.pointer (some ⟨pm, 0, none⟩)) ∧ MsgStep B pm v w (stepM (l, e) num 0 val []).1 (stepM (l, e) num 0 val []).2 w' := by
  go_enter Try.func10, Try.ntmps10
  go_wp2_with fail
  refine (put_any B pm v l e num 0 val [] _ h hval (by decide) hll).mono ?_
  rintro e' w' ⟨⟨r, rfl⟩, hs⟩
  go_wp2_with fail
  go_ret
  exact ⟨rfl, hs⟩
/-- What putting texts makes of a message. -/
def textsM (s : List (Fld × Int) × Int) (num : Int) (ls : List (List UInt8)) : List (Fld × Int) × Int := ls.foldl (fun s x => stepM s num 2 0 x) s
theorem textsM_take (s : List (Fld × Int) × Int) (num : Int) (ls : List (List UInt8)) (i : Nat) (h : i < ls.length) : textsM s num (ls.take (i + 1)) = stepM (textsM s num (ls.take i)) num 2 0 (ls[i]?.getD []) := by
  unfold textsM
  rw [List.take_succ_eq_append_getElem h, List.foldl_append, List.getElem?_eq_getElem h]; rfl
set_option maxRecDepth 100000 in
set_option maxHeartbeats 1000000 in
theorem putText_any (B pm : Nat) (v sv : Value) (l : List (Fld × Int)) (e num : Int) (ls : List (List UInt8)) (w : World) (h : MsgAt B w pm v l e) (hs : RowV (Ow pm v) w sv (svs ls)) (hlen : ∀ x ∈ ls, x.length ≤ 1000000000) (hll : l.length + ls.length ≤ 1000000) :
    Calls Try.prog 12 #[.pointer (some ⟨pm, 0, none⟩), .int .i64 num, sv] w fun e' w' => e' = .returned (.pointer (some ⟨pm, 0, none⟩)) ∧ MsgStep B pm v w (textsM (l, e) num ls).1 (textsM (l, e) num ls).2 w' := by
  have hn : (svs ls).length = ls.length := by simp [svs]
  obtain ⟨ao, cap, rfl, hc1, hc2, hcells⟩ := hs
  rw [hn] at hc1 ⊢
  unfold maxLen at hc2
  go_enter Try.func12, Try.ntmps12
  go_wp2_with fail
  go_loopg [11] ls.length (fun gg iv wr => ∃ (i : Nat) (v1 : Value) (l1 : List (Fld × Int)) (e1 : Int), i + gg = ls.length ∧ iv = .int .i64 (i : Int) ∧ MsgAt B wr pm v1 l1 e1 ∧ Hid ((l1, e1) = textsM (l, e) num (ls.take i)) ∧ l1.length ≤ l.length + i ∧ Keep (Ow pm v) w wr ∧ (∀ g, v1.ownBlock = some g → v.ownBlock = some g ∨ w.heap.size ≤ g) ∧ RowV (Ow pm v1) wr (.slice ao ls.length cap) (svs ls))
  case atStart => exact ⟨0, v, l, e, by omega, rfl, h, Lib.hid rfl, by omega, Keep.refl _ _, fun g hg => .inl hg, ⟨ao, cap, by rw [hn], by rw [hn]; exact hc1, by unfold maxLen; exact hc2, hcells⟩⟩
  clear hcells h
  case round =>
    obtain ⟨i, v1, l1, e1, hi, rfl, hm, HT, hl1, hk, hown, hrow⟩ := hrel
    have HOWN := Lib.hid hown
    clear hown
    by_cases hil : i < ls.length
    · have HTK := Lib.hid (textsM_take (l, e) num ls i hil)
      obtain ⟨ao9, cap9, h91, h92, h93, h94⟩ := hrow
      rw [hn] at h91
      cases h91
      have hg9 := svs_get hil
      rcases h94 with h | ⟨gb, off, rfl, hgb, hns, hcb⟩
      · rw [h] at hg9; simp at hg9
      have es := hcb i _ hg9
      have hrow : RowV (Ow pm v1) wr (.slice (some ⟨gb, off, none⟩) ls.length cap) (svs ls) := ⟨some ⟨gb, off, none⟩, cap, by rw [hn], h92, h93, .inr ⟨gb, off, rfl, hgb, hns, hcb⟩⟩
      have hsl : (ls[i]?.getD []).length ≤ 1000000000 := by rw [List.getElem?_eq_getElem hil]; exact hlen _ (List.getElem_mem hil)
      generalize ls[i]?.getD [] = s at *
      have q1 : (i : Int) < (ls.length : Int) := by omega
      have q2 : (0 : Int) ≤ (i : Int) := by omega
      have hcv := conv_there s
      have hcb9 := conv_back s
      clear hcb hns h92 h93 hg9
      have HR := Lib.hid hrow
      have HM := Lib.hid hm
      clear hrow hm
      go_wp2_with fail
      have hbw := bytesWorld_below wr 5 ⟨s.toArray⟩
      have hm1 := HM.out.kept hbw
      have hrow1 := HR.out.kept hbw
      have hk1 := hk.then_below hbw
      refine (put_any B pm v1 l1 e1 num 2 0 s _ hm1 (by decide) (by omega) (by omega)).mono ?_
      rintro e' w2 ⟨⟨r, rfl⟩, v2, hm2, hk2, hn2⟩
      clear hcv hcb9 es
      go_wp2_with fail
      go_roundg (gk - 1)
      case measure => omega
      case rel =>
        refine ⟨i + 1, v2, (stepM (l1, e1) num 2 0 s).1, (stepM (l1, e1) num 2 0 s).2, by omega, by go_num, hm2, Lib.hid (by rw [HTK.out, ← HT.out]), ?_, ?_, ?_, hrow1.step hk2 hn2⟩
        · have := stepM_len (l1, e1) num 2 0 s; simp only at this; omega
        · exact hk1.trans hk2 (fun k hk9 hs9 => by
            rcases hs9 with rfl | hs9
            · exact .inl rfl
            · rcases HOWN.out k hs9 with h4 | h4
              · exact .inr h4
              · omega)
        · intro g hg
          rcases hn2 g hg with h4 | h4
          · exact HOWN.out g h4
          · exact .inr (Nat.le_trans hk1.size h4)
    · have q1 : ¬ (i : Int) < (ls.length : Int) := by omega
      have hfin : (l1, e1) = textsM (l, e) num ls := by rw [HT.out, List.take_of_length_le (by omega)]
      have HF := Lib.hid hfin
      clear hfin
      go_wp2_with fail
      go_ret
      refine ⟨rfl, ?_⟩
      rw [← HF.out]
      exact ⟨v1, hm, hk, HOWN.out⟩
end Go.Proofs.Ytjcldnkgidfifaa
