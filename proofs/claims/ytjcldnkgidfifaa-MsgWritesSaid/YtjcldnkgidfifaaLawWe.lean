/-
  MsgWrites: what its walk leans on.
-/
import Derived.Test.YtjcldnkgidfifaaRtC
import Derived.Test.YtjcldnkgidfifaaRfA
import Derived.Test.YtjcldnkgidfifaaOpenO
import Derived.Test.YtjcldnkgidfifaaLawBa
namespace Go.Proofs.Ytjcldnkgidfifaa
open Go.RowKit Go.Shelf
set_option linter.unusedVariables false
set_option linter.unusedSimpArgs false
attribute [local go_sem] Oper.semAt_some
def toO (o : OpV) : PutO := ⟨o.k, o.n, o.v.toNat, o.S, o.L, o.P.map Int.toNat⟩
def costV (o : OpV) : Nat := 20 + 10 * o.L.length + 4 * o.P.length + (o.S.map fun t => 20 + t.length).sum
def costS (os : List OpV) : Nat := (os.map costV).sum
theorem costS_take {os : List OpV} {i : Nat} (h : i < os.length) : costS (os.take (i + 1)) = costS (os.take i) + costV (os[i]'h) := by
  unfold costS
  rw [List.take_succ_eq_append_getElem h, List.map_append, List.sum_append]; simp
theorem costS_le (os : List OpV) (i : Nat) : costS (os.take i) ≤ costS os := by
  conv => rhs; rw [← List.take_append_drop i os]
  unfold costS
  rw [List.map_append, List.sum_append]; omega
theorem two_cells (w : World) (x y : Nat) : Cells .i64 (w.alloc (.cells #[.int .i64 (x : Int), .int .i64 (y : Int)] 3)) (some ⟨w.heap.size, 0, none⟩) [x, y] := by
  refine .inr ⟨w.heap.size, 0, rfl, by simp, fun i hi => ?_⟩
  match i, hi with
  | 0, _ => go_simp
  | 1, _ => go_simp
theorem roomL_two {r : Int} {a b c : Nat} (h : 0 ≤ r ∧ r + c = 30000) : roomL r [a, b] = -1 ∨ (0 ≤ roomL r [a, b] ∧ roomL r [a, b] + ((c + a + b : Nat) : Int) = 30000) := by
  simp only [roomL]
  split
  · exact .inl rfl
  · split
    · exact .inl rfl
    · right; omega
theorem roomL_one {r : Int} {a c : Nat} (h : 0 ≤ r ∧ r + c = 30000) : roomL r [a] = -1 ∨ (0 ≤ roomL r [a] ∧ roomL r [a] + ((c + a : Nat) : Int) = 30000) := by
  simp only [roomL]
  split
  · exact .inl rfl
  · right; omega
theorem one_cells2 (w : World) (x : Nat) : Cells .i64 (w.alloc (.cells #[.int .i64 (x : Int)] 3)) (some ⟨w.heap.size, 0, none⟩) [x] := one_cells w x
def sumS (ts : List (List UInt8)) : Nat := (ts.map fun t => 20 + t.length).sum
theorem sumS_take {ts : List (List UInt8)} {k : Nat} (h : k < ts.length) : sumS (ts.take (k + 1)) = sumS (ts.take k) + (20 + (ts[k]?.getD []).length) := by
  unfold sumS
  rw [List.take_succ_eq_append_getElem h, List.map_append, List.sum_append, List.getElem?_eq_getElem h]; simp
theorem E10 : ElemK Try.prog 34 37 (.agg #[.int .i64 0, .int .i64 0, .int .i64 0, .int .u64 0, .string ⟨#[]⟩]) 5 48 := elemK_of Try.underlying34 (by kernel_rfl) rfl (by decide)
def dcells (f : DocF) : List Value := [.int .i64 f.n, .int .i64 f.k, .int .i64 0, .int .u64 (f.v : Int), .string ⟨f.d.toArray⟩]
def drow (fs : List DocF) : List Value := fs.flatMap dcells
theorem drow_get (l : List DocF) (i t : Nat) (h : i < l.length) (ht : t < 5) : (drow l)[i * 5 + t]? = (dcells (l[i]'h))[t]? := by
  induction l generalizing i with
  | nil => simp at h
  | cons x r ih =>
    have hl : (dcells x).length = 5 := rfl
    simp only [drow, List.flatMap_cons] at ih ⊢
    cases i with
    | zero => rw [List.getElem?_append_left (by rw [hl]; omega)]; simp
    | succ i =>
      rw [List.getElem?_append_right (by rw [hl]; omega), hl, show (i + 1) * 5 + t - 5 = i * 5 + t by omega, ih i (by simpa using h)]
      rfl
theorem OwnsK.dcell {B : Nat} {w : World} {cap : Nat} {l : List DocF} {ao : Option Addr} (h : OwnsK 5 B 37 w (.slice ao l.length cap) l.length (drow l)) {i : Nat} (hi : i < l.length) :
    ∃ g, ao = some ⟨g, 0, none⟩ ∧ B ≤ g ∧ g < w.heap.size ∧ ∀ t u, (dcells (l[i]'hi))[t]? = some u → w.cell? ⟨g, i * 5 + t, none⟩ = some u := by
  rcases h.shape with ⟨e, h0⟩ | ⟨g, cap', e, h2, h3, h4, h5, h6, h7⟩
  · rw [h0] at hi; omega
  · cases e
    refine ⟨g, rfl, h2, h3, fun t u hu => ?_⟩
    have ht : t < 5 := by
      have := (List.getElem?_eq_some_iff.1 hu).1
      exact this
    rw [h6 (i * 5 + t) (by omega), drow_get l i t hi ht, hu]
def docOk (f : DocF) : Prop := (f.k = 0 ∧ f.d = []) ∨ (f.k = 2 ∧ f.v = 0)
theorem rput_any (f : DocF) (hf : docOk f) (w : World) (hv : f.v < 18446744073709551616) (hd : f.d.length ≤ 9223372036854775807) (T : List UInt8) (c : Int) (h : Hid ((T, c) = putR f.n f.k f.v f.d)) :
    Calls Try.prog 22 #[fldV f.n f.k 0 f.v f.d] w fun e w' => e = .returned (.tuple #[.string ⟨T.toArray⟩, .int .i64 c]) ∧ Below w.heap.size w w' := by
  obtain ⟨n, k, v, d⟩ := f
  rcases hf with ⟨h1, h2⟩ | ⟨h1, h2⟩
  · simp only at h1 h2; subst h1 h2; exact rput0_any n v T c w h hv
  · simp only at h1 h2; subst h1 h2; exact rput2_any n d T c w h hd
theorem putR_small {n k : Int} {v : Nat} {d : List UInt8} (hv : v < 18446744073709551616) : (putR n k v d).1.length ≤ 70000 ∧ ((putR n k v d).2 = 0 ∨ (putR n k v d).2 = 1) := by
  by_cases h : rightF n k v d = true
  · rw [putR_yes h.symm]
    have h1 := rightF_len hv h.symm
    have h2 : d.length ≤ 60000 := by
      obtain ⟨_, _, _, _, hc⟩ := rightF_yes h.symm
      rcases hc with ⟨_, rfl⟩ | ⟨_, rfl⟩ | ⟨_, rfl, _⟩ | ⟨_, _, h9⟩
      · exact Nat.zero_le _
      · exact Nat.zero_le _
      · exact Nat.zero_le _
      · exact h9
    exact ⟨by simp only; omega, .inl rfl⟩
  · rw [putR_no (by rw [Bool.not_eq_true] at h; exact h.symm)]
    exact ⟨Nat.zero_le _, .inr rfl⟩
theorem docStep_stop {r : List UInt8 × Int} (h : r.2 ≠ 0) : ∀ (fs : List DocF), fs.foldl docStep r = r := by
  intro fs
  induction fs with
  | nil => rfl
  | cons f fs ih => rw [List.foldl_cons, show docStep r f = r by unfold docStep; rw [if_pos h]]; exact ih
/-- The cells of one of them. -/
structure OpAt (w : World) (ao : Option Addr) (i : Nat) (o : OpV) : Prop where
  ok : OpOk w o
  at' : ∃ b off, ao = some ⟨b, off, none⟩ ∧ b < w.heap.size ∧ ∀ j c, (opCells o)[j]? = some c → w.cell? ⟨b, off + i * 6 + j, none⟩ = some c
theorem OpAt.of {w : World} {v : Value} {os : List OpV} (h : OpsIn w v os) : ∃ ao cap, v = .slice ao os.length cap ∧ os.length ≤ cap ∧ cap ≤ maxLen ∧ ∀ i (hi : i < os.length), OpAt w ao i (os[i]'hi) := by
  obtain ⟨ao, cap, h1, h2, h3, h4, h5⟩ := h
  refine ⟨ao, cap, h1, h2, h3, fun i hi => ⟨h4 _ (List.getElem_mem hi), ?_⟩⟩
  rcases h5 with h5 | ⟨b, off, h6, h7, h8⟩
  · subst h5; cases hi
  · exact ⟨b, off, h6, h7, fun j c hc => h8 i _ (List.getElem?_eq_getElem hi) j c hc⟩
theorem text_sum {ts : List (List UInt8)} {t : List UInt8} (h : t ∈ ts) : t.length ≤ (ts.map fun t => 20 + t.length).sum := by
  induction ts with
  | nil => cases h
  | cons x xs ih =>
    rw [List.map_cons, List.sum_cons]
    rcases List.mem_cons.1 h with rfl | h
    · omega
    · have := ih h; omega
theorem opOut {o : OpV} {w : World} (hok : OpOk w o) (hc : costV o ≤ 30000) : (toO o).v < 18446744073709551616 ∧ (∀ t ∈ (toO o).S, t.length ≤ 1000000000000) ∧ (toO o).L.length ≤ 1000000000 ∧ (toO o).P.length ≤ 1000000000 := by
  unfold costV at hc
  refine ⟨?_, fun t ht => ?_, ?_, ?_⟩
  · obtain ⟨l9, h1, h2⟩ := patsN (ls := [o.v]) (by intro n hn; simp at hn; subst hn; exact hok.v)
    cases l9 with
    | nil => simp at h1
    | cons a9 l8 =>
      simp at h1
      have h3 := h2 a9 (List.mem_cons_self ..)
      show o.v.toNat < _
      rw [h1.1]; exact h3
  · have h9 := text_sum (t := t) (ts := o.S) ht
    omega
  · show o.L.length ≤ _; omega
  · show (o.P.map Int.toNat).length ≤ _; rw [List.length_map]; omega
end Go.Proofs.Ytjcldnkgidfifaa
