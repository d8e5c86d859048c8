/-
  Plain facts on ensembles: trees, places, roots, what may be.
-/
import Derived.Test.YtieffhkfefimeaaGreatDoorMathI
import Derived.Lib.RowBridge
import Derived.Lib.SlBy
namespace Go.Proofs.YtieffhkfefimeaaGreatDoor
open Go.RowKit
set_option linter.unusedVariables false
set_option linter.unusedSimpArgs false

/-- A node of an ensemble. -/
structure EN where
  tree : Int
  node : Int
  feat : Int
  mode : Int
  val : Nat
  tru : Int
  fls : Int
  trk : Bool
  deriving DecidableEq
/-- What a leaf gives. -/
structure EL where
  tree : Int
  node : Int
  tgt : Int
  wt : Nat
  deriving DecidableEq
/-- An ensemble. -/
structure EE where
  feats : Int
  tgts : Int
  agg : List UInt8
  post : List UInt8
  base : List Nat
  nodes : List EN
  leaves : List EL
  deriving DecidableEq
instance : Inhabited EN := ⟨⟨0, 0, 0, 0, 0, 0, 0, false⟩⟩
instance : Inhabited EL := ⟨⟨0, 0, 0, 0⟩⟩

/-- A number into a rising list. -/
def insT (x : Int) : List Int → List Int
  | [] => [x]
  | y :: r => if y < x then y :: insT x r else if y = x then y :: r else x :: y :: r
/-- The different numbers of a list, rising. -/
def setT (l : List Int) : List Int := l.foldl (fun a x => insT x a) []
def treesE (ns : List EN) : List Int := setT (ns.map (·.tree))

theorem insT_mem (x : Int) : ∀ (l : List Int) (y : Int), y ∈ insT x l ↔ y = x ∨ y ∈ l
  | [], y => by simp [insT]
  | z :: r, y => by
    unfold insT
    split
    · rw [List.mem_cons, insT_mem x r y, List.mem_cons]
      constructor
      · rintro (h | h | h) <;> simp [h]
      · rintro (h | h | h) <;> simp [h]
    · split
      · rename_i h1 h2
        subst h2
        simp only [List.mem_cons]
        constructor
        · rintro (h | h) <;> simp [h]
        · rintro (h | h | h) <;> simp [h]
      · simp only [List.mem_cons]
theorem insT_sorted (x : Int) : ∀ (l : List Int), l.Pairwise (· < ·) → (insT x l).Pairwise (· < ·)
  | [], _ => by simp [insT]
  | z :: r, h => by
    rw [List.pairwise_cons] at h
    unfold insT
    split
    · rename_i h1
      rw [List.pairwise_cons]
      refine ⟨fun a ha => ?_, insT_sorted x r h.2⟩
      rcases (insT_mem x r a).1 ha with rfl | ha
      · exact h1
      · exact h.1 a ha
    · split
      · rw [List.pairwise_cons]; exact h
      · rename_i h1 h2
        rw [List.pairwise_cons, List.pairwise_cons]
        refine ⟨fun a ha => ?_, h⟩
        rcases List.mem_cons.1 ha with rfl | ha
        · omega
        · have := h.1 a ha; omega
theorem setT_go : ∀ (l a : List Int), a.Pairwise (· < ·) → (l.foldl (fun a x => insT x a) a).Pairwise (· < ·) ∧ ∀ y, y ∈ l.foldl (fun a x => insT x a) a ↔ y ∈ l ∨ y ∈ a
  | [], a, h => ⟨h, fun y => by simp⟩
  | x :: r, a, h => by
    obtain ⟨h1, h2⟩ := setT_go r (insT x a) (insT_sorted x a h)
    refine ⟨h1, fun y => ?_⟩
    rw [List.foldl_cons, h2 y, insT_mem, List.mem_cons]
    constructor
    · rintro (h | h | h) <;> simp [h]
    · rintro ((h | h) | h) <;> simp [h]
theorem setT_sorted (l : List Int) : (setT l).Pairwise (· < ·) := (setT_go l [] List.Pairwise.nil).1
theorem setT_mem (l : List Int) (y : Int) : y ∈ setT l ↔ y ∈ l := by
  have := (setT_go l [] List.Pairwise.nil).2 y
  simpa [setT] using this
/-- Two rising lists of the same numbers are one. -/
theorem rising_eq : ∀ (a b : List Int), a.Pairwise (· < ·) → b.Pairwise (· < ·) → (∀ y, y ∈ a ↔ y ∈ b) → a = b
  | [], [], _, _, _ => rfl
  | [], y :: b, _, _, h => absurd ((h y).2 (by simp)) (by simp)
  | x :: a, [], _, _, h => absurd ((h x).1 (by simp)) (by simp)
  | x :: a, y :: b, ha, hb, h => by
    rw [List.pairwise_cons] at ha hb
    have e : x = y := by
      rcases List.mem_cons.1 ((h x).1 (by simp)) with h1 | h1
      · exact h1
      · rcases List.mem_cons.1 ((h y).2 (by simp)) with h2 | h2
        · exact h2.symm
        · have := hb.1 x h1; have := ha.1 y h2; omega
    subst e
    rw [rising_eq a b ha.2 hb.2 (fun z => ?_)]
    constructor
    · intro hz
      rcases List.mem_cons.1 ((h z).1 (List.mem_cons_of_mem _ hz)) with rfl | h1
      · exact absurd (ha.1 z hz) (by omega)
      · exact h1
    · intro hz
      rcases List.mem_cons.1 ((h z).2 (List.mem_cons_of_mem _ hz)) with rfl | h1
      · exact absurd (hb.1 z hz) (by omega)
      · exact h1
theorem compact_go (d : Array Int) (hs : ∀ i j, i ≤ j → j < d.size → d[i]! ≤ d[j]!) : ∀ m, m ≤ d.size →
    (Go.Lib.compactUpTo d m).Pairwise (· < ·) ∧ (∀ y, y ∈ Go.Lib.compactUpTo d m ↔ ∃ i, i < m ∧ d[i]! = y)
  | 0, _ => by
    have : Go.Lib.compactUpTo d 0 = [] := by simp [Go.Lib.compactUpTo]
    rw [this]
    exact ⟨List.Pairwise.nil, fun y => by simp⟩
  | m + 1, hm => by
    obtain ⟨h1, h2⟩ := compact_go d hs m (by omega)
    rw [Go.Lib.compactUpTo_succ]
    by_cases hk : Go.Lib.keeps d m = true
    · rw [if_pos hk]
      have hk' : m = 0 ∨ d[m]! ≠ d[m - 1]! := by simpa [Go.Lib.keeps] using hk
      refine ⟨List.pairwise_append.2 ⟨h1, by simp, fun a ha b hb => ?_⟩, fun y => ?_⟩
      · obtain ⟨i, hi, rfl⟩ := (h2 a).1 ha
        simp only [List.mem_singleton] at hb
        subst hb
        rcases hk' with h0 | h0
        · omega
        · have := hs i (m - 1) (by omega) (by omega)
          have := hs (m - 1) m (by omega) (by omega)
          omega
      · rw [List.mem_append, h2 y, List.mem_singleton]
        constructor
        · rintro (⟨i, hi, h⟩ | rfl)
          · exact ⟨i, by omega, h⟩
          · exact ⟨m, by omega, rfl⟩
        · rintro ⟨i, hi, h⟩
          by_cases e : i = m
          · subst e; exact .inr h.symm
          · exact .inl ⟨i, by omega, h⟩
    · rw [if_neg hk, List.append_nil]
      have hk' : m ≠ 0 ∧ d[m]! = d[m - 1]! := by simpa [Go.Lib.keeps] using hk
      refine ⟨h1, fun y => ?_⟩
      rw [h2 y]
      constructor
      · rintro ⟨i, hi, h⟩; exact ⟨i, by omega, h⟩
      · rintro ⟨i, hi, h⟩
        by_cases e : i = m
        · subst e; exact ⟨i - 1, by omega, by rw [← h, hk'.2]⟩
        · exact ⟨i, by omega, h⟩
/-- Sorted, each once: the different numbers, rising. -/
theorem sort_compact (l : List Int) : Go.Lib.compact (l.mergeSort fun x y => decide (x ≤ y)) = setT l := by
  have hp := List.pairwise_mergeSort (le := fun (x y : Int) => decide (x ≤ y)) (by simp; omega) (by simp; omega) l
  have hm : ∀ y, y ∈ l.mergeSort (fun x y => decide (x ≤ y)) ↔ y ∈ l := fun y => List.mem_mergeSort
  generalize l.mergeSort (fun x y => decide (x ≤ y)) = s at hp hm
  have hs : ∀ i j, i ≤ j → j < s.toArray.size → s.toArray[i]! ≤ s.toArray[j]! := by
    intro i j hij hj
    simp only [List.size_toArray] at hj
    by_cases e : i = j
    · subst e; exact Int.le_refl _
    · have := List.pairwise_iff_getElem.1 hp i j (by omega) hj (by omega)
      simpa [getElem!_pos, hj, show i < s.length by omega] using this
  obtain ⟨h1, h2⟩ := compact_go s.toArray hs s.length (by simp)
  refine rising_eq _ _ h1 (setT_sorted l) (fun y => ?_)
  unfold Go.Lib.compact
  rw [h2 y, setT_mem, ← hm y]
  constructor
  · rintro ⟨i, hi, rfl⟩
    simp [getElem!_pos, hi]
  · intro hy
    obtain ⟨i, hi, rfl⟩ := List.mem_iff_getElem.1 hy
    exact ⟨i, hi, by simp [getElem!_pos, hi]⟩

/-- Where a node stands. -/
def findE (ns : List EN) (t n : Int) : Option Nat := ns.findIdx? (fun y => decide (y.tree = t) && decide (y.node = n))
theorem idxBy_find {α : Type} [Inhabited α] (p : α → Bool) (l : List α) (x : α) : Go.Lib.idxBy (fun _ y => p y) l x = match l.findIdx? p with | none => -1 | some k => (k : Int) := by
  have go : ∀ (l : List α) (i : Nat), Go.Lib.idxByFrom (fun _ y => p y) x l i = match l.findIdx? p with | none => -1 | some k => ((i + k : Nat) : Int) := by
    intro l
    induction l with
    | nil => intro i; simp [Go.Lib.idxByFrom]
    | cons y r ih =>
      intro i
      rw [Go.Lib.idxByFrom, List.findIdx?_cons]
      by_cases h : p y = true
      · rw [if_pos h, if_pos h]; simp
      · rw [if_neg h, if_neg h, ih (i + 1)]
        cases r.findIdx? p with
        | none => rfl
        | some k => show ((i + 1 + k : Nat) : Int) = ((i + (k + 1) : Nat) : Int); omega
  have := go l 0
  unfold Go.Lib.idxBy
  rw [this]
  cases l.findIdx? p with
  | none => rfl
  | some k => simp only [Nat.zero_add]
theorem findE_lt {ns : List EN} {t n : Int} {k : Nat} (h : findE ns t n = some k) : k < ns.length := by
  have := List.findIdx?_eq_some_iff_getElem.1 h
  exact this.1
theorem findE_at {ns : List EN} {t n : Int} {k : Nat} (h : findE ns t n = some k) (hk : k < ns.length) : ns[k].tree = t ∧ ns[k].node = n := by
  have := (List.findIdx?_eq_some_iff_getElem.1 h).2.1
  simpa using this
/-- The places behind a node. -/
def kidsE (ns : List EN) (n : EN) : List Nat := if n.mode = 7 then [] else ((findE ns n.tree n.tru).toList ++ (findE ns n.tree n.fls).toList)
/-- Is a number behind a node of its tree? -/
def behindE (ns : List EN) (t x : Int) : Bool := ns.any (fun m => decide (m.tree = t) && (decide (m.mode ≠ 7) && (decide (m.tru = x) || decide (m.fls = x))))
def rootE (ns : List EN) (t : Int) : Option Nat := ns.findIdx? (fun n => decide (n.tree = t) && !behindE ns t n.node)
def weightsE (ls : List EL) (t n g : Int) : List Nat := (ls.filter (fun l => decide (l.tree = t) && (decide (l.node = n) && decide (l.tgt = g)))).map (·.wt)
/-- Is a pattern that of a number? -/
def finP (p : Nat) : Bool := decide (p < 4294967296) && decide (dkind 8 23 p = 1)
def sizeE (e : EE) : Bool := decide (0 ≤ e.feats) && (decide (e.feats ≤ 40) && (decide (1 ≤ e.tgts) && (decide (e.tgts ≤ 20) && (decide (1 ≤ e.nodes.length) && (decide (e.nodes.length ≤ 2000) && (decide (e.leaves.length ≤ 2000) && decide ((treesE e.nodes).length ≤ 100)))))))
def baseE (e : EE) : Bool := (decide (e.base.length = 0) || decide ((e.base.length : Int) = e.tgts)) && e.base.all finP
def numsE (ns : List EN) : Bool := (List.range ns.length).all (fun k => let n := ns[k]!; decide (0 ≤ n.tree) && (decide (0 ≤ n.node) && decide ((findE ns n.tree n.node).getD 0 = k)))
def everyE (ns : List EN) (all : Bool) (p : EN → Bool) : Bool := !ns.any (fun n => (all || decide (n.mode ≠ 7)) && !p n)
def kidE (ns : List EN) : Bool := everyE ns false (fun n => (findE ns n.tree n.tru).isSome && ((findE ns n.tree n.fls).isSome && decide (n.tru ≠ n.fls)))
/-- A node's kids get the node above them; none, if one has one. -/
def upK (k : Nat) : List Nat → List Int → Option (List Int)
  | [], up => some up
  | a :: r, up => if up[a]?.getD 0 ≠ -1 then none else upK k r (up.set a (k : Int))
def upL (ns : List EN) : List Nat → List Int → Option (List Int)
  | [], up => some up
  | k :: r, up => (upK k (kidsE ns ns[k]!) up).bind (upL ns r)
def upE (ns : List EN) : Option (List Int) := upL ns (List.range ns.length) (List.replicate ns.length (-1))
/-- Does the way up end within so many steps? -/
def okE (up : List Int) : Nat → Int → Bool
  | 0, at' => decide (at' = -1)
  | f + 1, at' => decide (at' = -1) || okE up f (up[at'.toNat]?.getD (-1))
def rootsE (ns : List EN) (up : List Int) (t : Int) : Nat := ((List.range ns.length).filter (fun k => decide (ns[k]!.tree = t) && decide (up[k]?.getD 0 = -1))).length
def singleE (ns : List EN) (up : List Int) : Bool := (treesE ns).all (fun t => decide (rootsE ns up t = 1))
def forestE (ns : List EN) : Bool :=
  match upE ns with
  | none => false
  | some up => (List.range ns.length).all (fun k => okE up 39 (up[k]?.getD 0)) && (decide ((up.filter (fun x => decide (x = -1))).length = (treesE ns).length) && singleE ns up)
def leafE (e : EE) : Bool := !e.leaves.any (fun l => match findE e.nodes l.tree l.node with | none => true | some k => decide (e.nodes[k]!.mode ≠ 7) || (decide (l.tgt < 0) || decide (e.tgts ≤ l.tgt)))
def aggW : List (List UInt8) := [[83, 85, 77], [65, 86, 69, 82, 65, 71, 69], [77, 73, 78], [77, 65, 88]]
def postW : List (List UInt8) := [[78, 79, 78, 69], [83, 79, 70, 84, 77, 65, 88], [76, 79, 71, 73, 83, 84, 73, 67], [83, 79, 70, 84, 77, 65, 88, 95, 90, 69, 82, 79], [80, 82, 79, 66, 73, 84]]
/-- What can't be in an ensemble: 0 nothing, 1 size, 2 aggregate, 3 post, 4 base, 5 number, 6 mode, 7 feature, 8 value, 9 kid, 10 forest, 11 leaf, 12 weight. -/
def checkE (e : EE) : Nat :=
  if sizeE e = false then 1 else
  if e.agg ∉ aggW then 2 else
  if e.post ∉ postW then 3 else
  if baseE e = false then 4 else
  if numsE e.nodes = false then 5 else
  if everyE e.nodes true (fun n => decide (1 ≤ n.mode ∧ n.mode ≤ 7)) = false then 6 else
  if everyE e.nodes false (fun n => decide (0 ≤ n.feat ∧ n.feat < e.feats)) = false then 7 else
  if everyE e.nodes false (fun n => finP n.val) = false ∨ everyE e.nodes true (fun n => decide (n.val < 4294967296)) = false then 8 else
  if kidE e.nodes = false then 9 else
  if forestE e.nodes = false then 10 else
  if leafE e = false then 11 else
  if e.leaves.any (fun l => !finP l.wt) = true then 12 else 0
def wordE : Nat → List UInt8
  | 1 => [115, 105, 122, 101]
  | 2 => [97, 103, 103, 114, 101, 103, 97, 116, 101]
  | 3 => [112, 111, 115, 116]
  | 4 => [98, 97, 115, 101]
  | 5 => [110, 117, 109, 98, 101, 114]
  | 6 => [109, 111, 100, 101]
  | 7 => [102, 101, 97, 116, 117, 114, 101]
  | 8 => [118, 97, 108, 117, 101]
  | 9 => [107, 105, 100]
  | 10 => [102, 111, 114, 101, 115, 116]
  | 11 => [108, 101, 97, 102]
  | 12 => [119, 101, 105, 103, 104, 116]
  | _ => []
def modeW : List (List UInt8) := [[66, 82, 65, 78, 67, 72, 95, 76, 69, 81], [66, 82, 65, 78, 67, 72, 95, 76, 84], [66, 82, 65, 78, 67, 72, 95, 71, 84, 69], [66, 82, 65, 78, 67, 72, 95, 71, 84], [66, 82, 65, 78, 67, 72, 95, 69, 81], [66, 82, 65, 78, 67, 72, 95, 78, 69, 81], [76, 69, 65, 70]]
def modeName (m : Int) : List UInt8 := if m < 1 ∨ 7 < m then [] else modeW[(m - 1).toNat]?.getD []
end Go.Proofs.YtieffhkfefimeaaGreatDoor
