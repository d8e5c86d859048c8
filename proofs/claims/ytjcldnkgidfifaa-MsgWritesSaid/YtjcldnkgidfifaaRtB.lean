/-
  pmsg: more of what was put and is read (patterns, texts, the last of a number).
-/
import Derived.Test.YtjcldnkgidfifaaPmM
import Derived.Test.YtjcldnkgidfifaaLawWi
import Derived.Test.YtjcldnkgidfifaaBookS
import Derived.Test.YtjcldnkgidfifaaBookU
namespace Go.Proofs.Ytjcldnkgidfifaa
open Go.RowKit Go.Shelf
set_option linter.unusedVariables false
set_option linter.unusedSimpArgs false
theorem floatsD_len (ps : List Nat) : (floatsD ps).length = 4 * ps.length := by
  induction ps with
  | nil => rfl
  | cons x ps ih =>
    have e : floatsD (x :: ps) = littleB 4 x ++ floatsD ps := by simp [floatsD]
    rw [e, List.length_append, littleB_len, List.length_cons]; omega
theorem floatsD_drop (ps : List Nat) : ∀ i, (floatsD ps).drop (4 * i) = floatsD (ps.drop i) := by
  induction ps with
  | nil => intro i; simp [floatsD]
  | cons x ps ih =>
    intro i
    have e : floatsD (x :: ps) = littleB 4 x ++ floatsD ps := by simp [floatsD]
    cases i with
    | zero => rfl
    | succ i =>
      have hl := littleB_len 4 x
      rw [e, List.drop_append, hl, show 4 * (i + 1) - 4 = 4 * i by omega, ih i, List.drop_of_length_le (by omega)]
      rfl
theorem flts_floatsD (ps : List Nat) (h : ∀ x ∈ ps, x < 4294967296) : flts (floatsD ps) = ps := by
  have hl := floatsD_len ps
  apply List.ext_getElem
  · rw [flts_len, hl]; omega
  · intro i h1 h2
    simp only [flts, List.getElem_map, List.getElem_range]
    rw [floatsD_drop, List.drop_eq_getElem_cons h2]
    have e : floatsD (ps[i] :: ps.drop (i + 1)) = littleB 4 ps[i] ++ floatsD (ps.drop (i + 1)) := by unfold floatsD; rw [List.flatMap_cons]
    rw [e, List.take_left' (littleB_len 4 _)]
    exact highB_little 4 _ (by simpa using h _ (List.getElem_mem h2))
def fltF (f : Fld) : List Nat := if f.kind = 5 then [f.val] else if f.kind = 2 then flts f.data else []
def textF (f : Fld) : List (List UInt8) := if f.kind = 2 then [f.data] else []
theorem fltsE_msg {l : List Fld} (num : Int) (h : ∀ f ∈ l, goodF f) (hl : (l.flatMap encF).length ≤ 60000) : fltsE (itemsE (msgL (l.flatMap encF)) num) = (l.filter (fun f => decide ((f.num : Int) = num))).flatMap fltF := by
  have e : ∀ m : List (Fld × Int), fltsE m = (m.map (·.1)).flatMap fltF := fun m => by unfold fltsE; rw [List.flatMap_map]; rfl
  rw [e, itemsE_fst, msgL_fst h hl, plc_filter num fltF (fun f p => rfl)]
theorem textsE_msg {l : List Fld} (num : Int) (h : ∀ f ∈ l, goodF f) (hl : (l.flatMap encF).length ≤ 60000) : textsE (itemsE (msgL (l.flatMap encF)) num) = (l.filter (fun f => decide ((f.num : Int) = num))).flatMap textF := by
  have e : ∀ m : List (Fld × Int), textsE m = (m.map (·.1)).flatMap textF := fun m => by unfold textsE; rw [List.flatMap_map]; rfl
  rw [e, itemsE_fst, msgL_fst h hl, plc_filter num textF (fun f p => rfl)]
/-- Floats of such a message. -/
theorem floats_good {B p : Nat} {v : Value} {l : List Fld} {w : World} (num : Int) (h : ∀ f ∈ l, goodF f) (hl : (l.flatMap encF).length ≤ 60000) (hd : ∀ f ∈ l, f.data.length ≤ 60000) (hm : MsgAt B w p v (msgL (l.flatMap encF)) 0)
    (hg : ∀ f ∈ l, (f.num : Int) = num → f.kind = 2 → f.data.length % 4 = 0) (ps : List Nat) (he : (l.filter (fun f => decide ((f.num : Int) = num))).flatMap fltF = ps) (hn : ps.length ≤ 1000000) :
    Calls Try.prog 29 #[.pointer (some ⟨p, 0, none⟩), .int .i64 num] w fun e' w' => (∃ v, e' = .returned (.tuple #[v, diagV 0 0 []]) ∧ Owns w.heap.size 25 w' v (pvs ps)) ∧ Below w.heap.size w w' := by
  have hI := (fltsE_msg num h hl).trans he
  have hll := msgL_len (l.flatMap encF)
  rw [← hI]
  refine floats_walk num (some ⟨p, 0, none⟩) (itemsE (msgL (l.flatMap encF)) num) (Ow p v) w (fun w0 hb bm bn B0 hcm hcn => meach1_iter B p v _ 0 num bm bn B0 w0 (hm.kept hb) hcm hcn hll) (fun k hk => (hm.ow k hk).2) (fun x hx hk => ?_) (by rw [hI]; exact hn) (fun x hx => ?_)
  · obtain ⟨g, hgl, h1, h2, h3, h4⟩ := msg_mem h hl hx
    rw [h4]; exact hg g hgl h1 (h2 ▸ hk)
  · obtain ⟨g, hgl, h1, h2, h3, h4⟩ := msg_mem h hl hx
    rw [h3, h4]
    exact ⟨(h g hgl).2.1, Nat.le_trans (hd g hgl) (by decide)⟩
/-- Texts of such a message. -/
theorem texts_good {B p : Nat} {v : Value} {l : List Fld} {w : World} (num : Int) (h : ∀ f ∈ l, goodF f) (hl : (l.flatMap encF).length ≤ 60000) (hm : MsgAt B w p v (msgL (l.flatMap encF)) 0)
    (ts : List (List UInt8)) (he : (l.filter (fun f => decide ((f.num : Int) = num))).flatMap textF = ts) (hn : ts.length ≤ 1000000) :
    Calls Try.prog 33 #[.pointer (some ⟨p, 0, none⟩), .int .i64 num] w fun e' w' => (∃ v, e' = .returned v ∧ Owns w.heap.size 9 w' v (svs ts)) ∧ Below w.heap.size w w' := by
  have hI := (textsE_msg num h hl).trans he
  have hll := msgL_len (l.flatMap encF)
  rw [← hI]
  exact texts_walk num (some ⟨p, 0, none⟩) (itemsE (msgL (l.flatMap encF)) num) (Ow p v) w (fun w0 hb bm bn B0 hcm hcn => meach1_iter B p v _ 0 num bm bn B0 w0 (hm.kept hb) hcm hcn hll) (fun k hk => (hm.ow k hk).2) (by rw [hI]; exact hn)
theorem plc_has {l : List Fld} : ∀ {p : Nat} {g : Fld}, g ∈ l → ∃ f ∈ plc p l, f.num = g.num ∧ f.kind = g.kind := by
  induction l with
  | nil => intro p g h; cases h
  | cons x l ih =>
    intro p g h
    unfold plc
    rcases List.mem_cons.1 h with rfl | h
    · exact ⟨_, List.mem_cons_self .., rfl, rfl⟩
    · obtain ⟨f, h1, h2⟩ := ih (p := p + (encF x).length) h
      exact ⟨f, List.mem_cons_of_mem _ h1, h2⟩
/-- Is there one of the number and the kind? -/
theorem last_some {l : List Fld} {num kind : Int} (h : ∀ f ∈ l, goodF f) (hl : (l.flatMap encF).length ≤ 60000) : (lastL (msgL (l.flatMap encF)) num kind).isSome = l.any (fun f => decide ((f.num : Int) = num) && decide ((f.kind : Int) = kind)) := by
  have hf := msgL_fst h hl
  rw [Bool.eq_iff_iff, List.any_eq_true]
  unfold lastL
  rw [List.find?_isSome]
  constructor
  · rintro ⟨x, hx, hh⟩
    have h1 : x.1 ∈ (msgL (l.flatMap encF)).map (·.1) := List.mem_map_of_mem (List.mem_reverse.1 hx)
    rw [hf] at h1
    obtain ⟨g, hg, e1, e2, _⟩ := plc_mem h1
    refine ⟨g, hg, ?_⟩
    unfold hitF at hh
    rw [e1, e2] at hh
    exact hh
  · rintro ⟨g, hg, hh⟩
    obtain ⟨f, hfm, e1, e2⟩ := plc_has (p := 0) hg
    rw [← hf] at hfm
    obtain ⟨x, hx, rfl⟩ := List.mem_map.1 hfm
    refine ⟨x, List.mem_reverse.2 hx, ?_⟩
    unfold hitF
    rw [e1, e2]
    exact hh
/-- What PutFloats, PutText put. -/
def fltsL (num : Nat) (ps : List Nat) : List Fld := if ps = [] then [] else [⟨num, 2, 0, 0, floatsD ps⟩]
def textL (num : Nat) (ts : List (List UInt8)) : List Fld := ts.map fun t => ⟨num, 2, 0, 0, t⟩
theorem floatsM_good {l : List Fld} {num : Nat} {ps : List Nat} (h1 : 1 ≤ num) (h2 : num ≤ 536870911) (hd : ps.length ≤ 6000) (hw : ∀ x ∈ ps, x < 4294967296) : floatsM (mk0 l, 0) (num : Int) ps = (mk0 (l ++ fltsL num ps), 0) := by
  have hl := floatsD_len ps
  have hwp : wideP ps = false := by
    unfold wideP; rw [List.any_eq_false]; intro y hy; have := hw y hy; simp; omega
  unfold floatsM fltsL
  rw [hwp, if_neg (by simp)]
  cases ps with
  | nil => simp
  | cons x xs =>
    rw [if_neg (by simp), if_neg (by simp)]
    have hd2 : (floatsD (x :: xs)).length ≤ 60000 := by omega
    exact step_good (f := ⟨num, 2, 0, 0, floatsD (x :: xs)⟩) (goodK2 h1 h2 hd2)
theorem textsM_good {num : Nat} (h1 : 1 ≤ num) (h2 : num ≤ 536870911) : ∀ (ts : List (List UInt8)) (l : List Fld), (∀ t ∈ ts, t.length ≤ 60000) → textsM (mk0 l, 0) (num : Int) ts = (mk0 (l ++ textL num ts), 0) := by
  intro ts
  induction ts with
  | nil => intro l _; simp [textsM, textL]
  | cons t ts ih =>
    intro l h
    have e : textsM (mk0 l, 0) (num : Int) (t :: ts) = textsM (stepM (mk0 l, 0) (num : Int) 2 0 t) (num : Int) ts := rfl
    have hs : stepM (mk0 l, 0) (num : Int) 2 0 t = (mk0 (l ++ [⟨num, 2, 0, 0, t⟩]), 0) := step_good (f := ⟨num, 2, 0, 0, t⟩) (goodK2 h1 h2 (h t (List.mem_cons_self ..)))
    rw [e, hs, ih _ (fun y hy => h y (List.mem_cons_of_mem _ hy))]
    simp [textL]
theorem fltsL_data {num : Nat} {ps : List Nat} : ∀ f ∈ fltsL num ps, f.data = floatsD ps ∧ f.kind = 2 ∧ f.num = num ∧ f.val = 0 := by
  intro f hf
  unfold fltsL at hf
  split at hf
  · cases hf
  · simp at hf; subst hf; exact ⟨rfl, rfl, rfl, rfl⟩
theorem fltsL_good {num : Nat} {ps : List Nat} (h1 : 1 ≤ num) (h2 : num ≤ 536870911) (hd : ps.length ≤ 6000) : ∀ f ∈ fltsL num ps, goodF f := by
  intro f hf
  have := floatsD_len ps
  unfold fltsL at hf
  split at hf
  · cases hf
  · simp at hf; subst hf; exact goodK2 h1 h2 (by omega)
theorem fltsL_len {num : Nat} {ps : List Nat} (h2 : num ≤ 536870911) (hd : ps.length ≤ 6000) : ((fltsL num ps).flatMap encF).length ≤ 4 * ps.length + 20 := by
  have := floatsD_len ps
  unfold fltsL
  split
  · simp
  · have := encK2_len (num := num) (data := floatsD ps) h2 (by omega)
    simp only [List.flatMap_cons, List.flatMap_nil, List.append_nil]
    omega
theorem fltsL_flts {num : Nat} {ps : List Nat} (hr : ∀ x ∈ ps, x < 4294967296) : (fltsL num ps).flatMap fltF = ps := by
  unfold fltsL
  split
  · rename_i h; rw [h]; rfl
  · simp [fltF, flts_floatsD ps hr]
theorem textL_texts {num : Nat} {ts : List (List UInt8)} : (textL num ts).flatMap textF = ts := by
  induction ts with
  | nil => rfl
  | cons t ts ih =>
    have e : textL num (t :: ts) = ⟨num, 2, 0, 0, t⟩ :: textL num ts := rfl
    rw [e, List.flatMap_cons, ih]; rfl
theorem textL_len {num : Nat} (h2 : num ≤ 536870911) : ∀ (ts : List (List UInt8)), (∀ t ∈ ts, t.length ≤ 60000) → ((textL num ts).flatMap encF).length ≤ total ts + 20 * ts.length := by
  intro ts
  induction ts with
  | nil => intro _; simp [textL]
  | cons t ts ih =>
    intro h
    have e : textL num (t :: ts) = ⟨num, 2, 0, 0, t⟩ :: textL num ts := rfl
    have h3 := ih (fun y hy => h y (List.mem_cons_of_mem _ hy))
    have h4 := encK2_len (num := num) (data := t) h2 (h t (List.mem_cons_self ..))
    have h5 : total (t :: ts) = t.length + total ts := by simp [total]
    rw [e, List.flatMap_cons, List.length_append, List.length_cons, h5]
    omega
end Go.Proofs.Ytjcldnkgidfifaa
