/-
  Pb08: MathO MathSp HeapK HeapL HeapM HeapO (what is needed of them).
-/
import Derived.Test.YtieffhkfefimeaaGreatDoorPb01
import Derived.Test.YtieffhkfefimeaaGreatDoorPb07
import Derived.Lib.RowBridge
import Derived.Lib.SlBy

namespace Go.Proofs.YtieffhkfefimeaaGreatDoor
open Go.RowKit
set_option linter.unusedVariables false
set_option linter.unusedSimpArgs false
/-- A node of an ensemble. -/
structure EN where
  tree : Int
  node : Int
  feat : Int
  mode : Int
  val : Nat
  tru : Int
  fls : Int
  trk : Bool
  deriving DecidableEq
/-- What a leaf gives. -/
structure EL where
  tree : Int
  node : Int
  tgt : Int
  wt : Nat
  deriving DecidableEq
/-- An ensemble. -/
structure EE where
  feats : Int
  tgts : Int
  agg : List UInt8
  post : List UInt8
  base : List Nat
  nodes : List EN
  leaves : List EL
  deriving DecidableEq
instance : Inhabited EN := ⟨⟨0, 0, 0, 0, 0, 0, 0, false⟩⟩
instance : Inhabited EL := ⟨⟨0, 0, 0, 0⟩⟩
/-- A number into a rising list. -/
def insT (x : Int) : List Int → List Int
  | [] => [x]
  | y :: r => if y < x then y :: insT x r else if y = x then y :: r else x :: y :: r
/-- The different numbers of a list, rising. -/
def setT (l : List Int) : List Int := l.foldl (fun a x => insT x a) []
def treesE (ns : List EN) : List Int := setT (ns.map (·.tree))
theorem insT_mem (x : Int) : ∀ (l : List Int) (y : Int), y ∈ insT x l ↔ y = x ∨ y ∈ l
  | [], y => by simp [insT]
  | z :: r, y => by
    unfold insT
    split
    · rw [List.mem_cons, insT_mem x r y, List.mem_cons]
      constructor
      · rintro (h | h | h) <;> simp [h]
      · rintro (h | h | h) <;> simp [h]
    · split
      · rename_i h1 h2
        subst h2
        simp only [List.mem_cons]
        constructor
        · rintro (h | h) <;> simp [h]
        · rintro (h | h | h) <;> simp [h]
      · simp only [List.mem_cons]
theorem insT_sorted (x : Int) : ∀ (l : List Int), l.Pairwise (· < ·) → (insT x l).Pairwise (· < ·)
  | [], _ => by simp [insT]
  | z :: r, h => by
    rw [List.pairwise_cons] at h
    unfold insT
    split
    · rename_i h1
      rw [List.pairwise_cons]
      refine ⟨fun a ha => ?_, insT_sorted x r h.2⟩
      rcases (insT_mem x r a).1 ha with rfl | ha
      · exact h1
      · exact h.1 a ha
    · split
      · rw [List.pairwise_cons]; exact h
      · rename_i h1 h2
        rw [List.pairwise_cons, List.pairwise_cons]
        refine ⟨fun a ha => ?_, h⟩
        rcases List.mem_cons.1 ha with rfl | ha
        · omega
        · have := h.1 a ha; omega
theorem setT_go : ∀ (l a : List Int), a.Pairwise (· < ·) → (l.foldl (fun a x => insT x a) a).Pairwise (· < ·) ∧ ∀ y, y ∈ l.foldl (fun a x => insT x a) a ↔ y ∈ l ∨ y ∈ a
  | [], a, h => ⟨h, fun y => by simp⟩
  | x :: r, a, h => by
    obtain ⟨h1, h2⟩ := setT_go r (insT x a) (insT_sorted x a h)
    refine ⟨h1, fun y => ?_⟩
    rw [List.foldl_cons, h2 y, insT_mem, List.mem_cons]
    constructor
    · rintro (h | h | h) <;> simp [h]
    · rintro ((h | h) | h) <;> simp [h]
theorem setT_sorted (l : List Int) : (setT l).Pairwise (· < ·) := (setT_go l [] List.Pairwise.nil).1
theorem setT_mem (l : List Int) (y : Int) : y ∈ setT l ↔ y ∈ l := by
  have := (setT_go l [] List.Pairwise.nil).2 y
  simpa [setT] using this
/-- Two rising lists of the same numbers are one. -/
theorem rising_eq : ∀ (a b : List Int), a.Pairwise (· < ·) → b.Pairwise (· < ·) → (∀ y, y ∈ a ↔ y ∈ b) → a = b
  | [], [], _, _, _ => rfl
  | [], y :: b, _, _, h => absurd ((h y).2 (by simp)) (by simp)
  | x :: a, [], _, _, h => absurd ((h x).1 (by simp)) (by simp)
  | x :: a, y :: b, ha, hb, h => by
    rw [List.pairwise_cons] at ha hb
    have e : x = y := by
      rcases List.mem_cons.1 ((h x).1 (by simp)) with h1 | h1
      · exact h1
      · rcases List.mem_cons.1 ((h y).2 (by simp)) with h2 | h2
        · exact h2.symm
        · have := hb.1 x h1; have := ha.1 y h2; omega
    subst e
    rw [rising_eq a b ha.2 hb.2 (fun z => ?_)]
    constructor
    · intro hz
      rcases List.mem_cons.1 ((h z).1 (List.mem_cons_of_mem _ hz)) with rfl | h1
      · exact absurd (ha.1 z hz) (by omega)
      · exact h1
    · intro hz
      rcases List.mem_cons.1 ((h z).2 (List.mem_cons_of_mem _ hz)) with rfl | h1
      · exact absurd (hb.1 z hz) (by omega)
      · exact h1
theorem compact_go (d : Array Int) (hs : ∀ i j, i ≤ j → j < d.size → d[i]! ≤ d[j]!) : ∀ m, m ≤ d.size →
    (Go.Lib.compactUpTo d m).Pairwise (· < ·) ∧ (∀ y, y ∈ Go.Lib.compactUpTo d m ↔ ∃ i, i < m ∧ d[i]! = y)
  | 0, _ => by
    have : Go.Lib.compactUpTo d 0 = [] := by simp [Go.Lib.compactUpTo]
    rw [this]
    exact ⟨List.Pairwise.nil, fun y => by simp⟩
  | m + 1, hm => by
    obtain ⟨h1, h2⟩ := compact_go d hs m (by omega)
    rw [Go.Lib.compactUpTo_succ]
    by_cases hk : Go.Lib.keeps d m = true
    · rw [if_pos hk]
      have hk' : m = 0 ∨ d[m]! ≠ d[m - 1]! := by simpa [Go.Lib.keeps] using hk
      refine ⟨List.pairwise_append.2 ⟨h1, by simp, fun a ha b hb => ?_⟩, fun y => ?_⟩
      · obtain ⟨i, hi, rfl⟩ := (h2 a).1 ha
        simp only [List.mem_singleton] at hb
        subst hb
        rcases hk' with h0 | h0
        · omega
        · have := hs i (m - 1) (by omega) (by omega)
          have := hs (m - 1) m (by omega) (by omega)
          omega
      · rw [List.mem_append, h2 y, List.mem_singleton]
        constructor
        · rintro (⟨i, hi, h⟩ | rfl)
          · exact ⟨i, by omega, h⟩
          · exact ⟨m, by omega, rfl⟩
        · rintro ⟨i, hi, h⟩
          by_cases e : i = m
          · subst e; exact .inr h.symm
          · exact .inl ⟨i, by omega, h⟩
    · rw [if_neg hk, List.append_nil]
      have hk' : m ≠ 0 ∧ d[m]! = d[m - 1]! := by simpa [Go.Lib.keeps] using hk
      refine ⟨h1, fun y => ?_⟩
      rw [h2 y]
      constructor
      · rintro ⟨i, hi, h⟩; exact ⟨i, by omega, h⟩
      · rintro ⟨i, hi, h⟩
        by_cases e : i = m
        · subst e; exact ⟨i - 1, by omega, by rw [← h, hk'.2]⟩
        · exact ⟨i, by omega, h⟩
/-- Sorted, each once: the different numbers, rising. -/
theorem sort_compact (l : List Int) : Go.Lib.compact (l.mergeSort fun x y => decide (x ≤ y)) = setT l := by
  have hp := List.pairwise_mergeSort (le := fun (x y : Int) => decide (x ≤ y)) (by simp; omega) (by simp; omega) l
  have hm : ∀ y, y ∈ l.mergeSort (fun x y => decide (x ≤ y)) ↔ y ∈ l := fun y => List.mem_mergeSort
  generalize l.mergeSort (fun x y => decide (x ≤ y)) = s at hp hm
  have hs : ∀ i j, i ≤ j → j < s.toArray.size → s.toArray[i]! ≤ s.toArray[j]! := by
    intro i j hij hj
    simp only [List.size_toArray] at hj
    by_cases e : i = j
    · subst e; exact Int.le_refl _
    · have := List.pairwise_iff_getElem.1 hp i j (by omega) hj (by omega)
      simpa [getElem!_pos, hj, show i < s.length by omega] using this
  obtain ⟨h1, h2⟩ := compact_go s.toArray hs s.length (by simp)
  refine rising_eq _ _ h1 (setT_sorted l) (fun y => ?_)
  unfold Go.Lib.compact
  rw [h2 y, setT_mem, ← hm y]
  constructor
  · rintro ⟨i, hi, rfl⟩
    simp [getElem!_pos, hi]
  · intro hy
    obtain ⟨i, hi, rfl⟩ := List.mem_iff_getElem.1 hy
    exact ⟨i, hi, by simp [getElem!_pos, hi]⟩
/-- Where a node stands. -/
def findE (ns : List EN) (t n : Int) : Option Nat := ns.findIdx? (fun y => decide (y.tree = t) && decide (y.node = n))
theorem findE_lt {ns : List EN} {t n : Int} {k : Nat} (h : findE ns t n = some k) : k < ns.length := by
  have := List.findIdx?_eq_some_iff_getElem.1 h
  exact this.1
theorem findE_at {ns : List EN} {t n : Int} {k : Nat} (h : findE ns t n = some k) (hk : k < ns.length) : ns[k].tree = t ∧ ns[k].node = n := by
  have := (List.findIdx?_eq_some_iff_getElem.1 h).2.1
  simpa using this
/-- The places behind a node. -/
def kidsE (ns : List EN) (n : EN) : List Nat := if n.mode = 7 then [] else ((findE ns n.tree n.tru).toList ++ (findE ns n.tree n.fls).toList)
/-- Is a number behind a node of its tree? -/
def behindE (ns : List EN) (t x : Int) : Bool := ns.any (fun m => decide (m.tree = t) && (decide (m.mode ≠ 7) && (decide (m.tru = x) || decide (m.fls = x))))
def rootE (ns : List EN) (t : Int) : Option Nat := ns.findIdx? (fun n => decide (n.tree = t) && !behindE ns t n.node)
def weightsE (ls : List EL) (t n g : Int) : List Nat := (ls.filter (fun l => decide (l.tree = t) && (decide (l.node = n) && decide (l.tgt = g)))).map (·.wt)
/-- Is a pattern that of a number? -/
def finP (p : Nat) : Bool := decide (p < 4294967296) && decide (dkind 8 23 p = 1)
def sizeE (e : EE) : Bool := decide (0 ≤ e.feats) && (decide (e.feats ≤ 40) && (decide (1 ≤ e.tgts) && (decide (e.tgts ≤ 20) && (decide (1 ≤ e.nodes.length) && (decide (e.nodes.length ≤ 2000) && (decide (e.leaves.length ≤ 2000) && decide ((treesE e.nodes).length ≤ 100)))))))
def baseE (e : EE) : Bool := (decide (e.base.length = 0) || decide ((e.base.length : Int) = e.tgts)) && e.base.all finP
def numsE (ns : List EN) : Bool := (List.range ns.length).all (fun k => let n := ns[k]!; decide (0 ≤ n.tree) && (decide (0 ≤ n.node) && decide ((findE ns n.tree n.node).getD 0 = k)))
def everyE (ns : List EN) (all : Bool) (p : EN → Bool) : Bool := !ns.any (fun n => (all || decide (n.mode ≠ 7)) && !p n)
def kidE (ns : List EN) : Bool := everyE ns false (fun n => (findE ns n.tree n.tru).isSome && ((findE ns n.tree n.fls).isSome && decide (n.tru ≠ n.fls)))
/-- A node's kids get the node above them; none, if one has one. -/
def upK (k : Nat) : List Nat → List Int → Option (List Int)
  | [], up => some up
  | a :: r, up => if up[a]?.getD 0 ≠ -1 then none else upK k r (up.set a (k : Int))
def upL (ns : List EN) : List Nat → List Int → Option (List Int)
  | [], up => some up
  | k :: r, up => (upK k (kidsE ns ns[k]!) up).bind (upL ns r)
def upE (ns : List EN) : Option (List Int) := upL ns (List.range ns.length) (List.replicate ns.length (-1))
/-- Does the way up end within so many steps? -/
def okE (up : List Int) : Nat → Int → Bool
  | 0, at' => decide (at' = -1)
  | f + 1, at' => decide (at' = -1) || okE up f (up[at'.toNat]?.getD (-1))
def rootsE (ns : List EN) (up : List Int) (t : Int) : Nat := ((List.range ns.length).filter (fun k => decide (ns[k]!.tree = t) && decide (up[k]?.getD 0 = -1))).length
def singleE (ns : List EN) (up : List Int) : Bool := (treesE ns).all (fun t => decide (rootsE ns up t = 1))
def forestE (ns : List EN) : Bool :=
  match upE ns with
  | none => false
  | some up => (List.range ns.length).all (fun k => okE up 39 (up[k]?.getD 0)) && (decide ((up.filter (fun x => decide (x = -1))).length = (treesE ns).length) && singleE ns up)
def leafE (e : EE) : Bool := !e.leaves.any (fun l => match findE e.nodes l.tree l.node with | none => true | some k => decide (e.nodes[k]!.mode ≠ 7) || (decide (l.tgt < 0) || decide (e.tgts ≤ l.tgt)))
def aggW : List (List UInt8) := [[83, 85, 77], [65, 86, 69, 82, 65, 71, 69], [77, 73, 78], [77, 65, 88]]
def postW : List (List UInt8) := [[78, 79, 78, 69], [83, 79, 70, 84, 77, 65, 88], [76, 79, 71, 73, 83, 84, 73, 67], [83, 79, 70, 84, 77, 65, 88, 95, 90, 69, 82, 79], [80, 82, 79, 66, 73, 84]]
/-- What can't be in an ensemble: 0 nothing, 1 size, 2 aggregate, 3 post, 4 base, 5 number, 6 mode, 7 feature, 8 value, 9 kid, 10 forest, 11 leaf, 12 weight. -/
def checkE (e : EE) : Nat :=
  if sizeE e = false then 1 else
  if e.agg ∉ aggW then 2 else
  if e.post ∉ postW then 3 else
  if baseE e = false then 4 else
  if numsE e.nodes = false then 5 else
  if everyE e.nodes true (fun n => decide (1 ≤ n.mode ∧ n.mode ≤ 7)) = false then 6 else
  if everyE e.nodes false (fun n => decide (0 ≤ n.feat ∧ n.feat < e.feats)) = false then 7 else
  if everyE e.nodes false (fun n => finP n.val) = false ∨ everyE e.nodes true (fun n => decide (n.val < 4294967296)) = false then 8 else
  if kidE e.nodes = false then 9 else
  if forestE e.nodes = false then 10 else
  if leafE e = false then 11 else
  if e.leaves.any (fun l => !finP l.wt) = true then 12 else 0
def wordE : Nat → List UInt8
  | 1 => [115, 105, 122, 101]
  | 2 => [97, 103, 103, 114, 101, 103, 97, 116, 101]
  | 3 => [112, 111, 115, 116]
  | 4 => [98, 97, 115, 101]
  | 5 => [110, 117, 109, 98, 101, 114]
  | 6 => [109, 111, 100, 101]
  | 7 => [102, 101, 97, 116, 117, 114, 101]
  | 8 => [118, 97, 108, 117, 101]
  | 9 => [107, 105, 100]
  | 10 => [102, 111, 114, 101, 115, 116]
  | 11 => [108, 101, 97, 102]
  | 12 => [119, 101, 105, 103, 104, 116]
  | _ => []
def modeW : List (List UInt8) := [[66, 82, 65, 78, 67, 72, 95, 76, 69, 81], [66, 82, 65, 78, 67, 72, 95, 76, 84], [66, 82, 65, 78, 67, 72, 95, 71, 84, 69], [66, 82, 65, 78, 67, 72, 95, 71, 84], [66, 82, 65, 78, 67, 72, 95, 69, 81], [66, 82, 65, 78, 67, 72, 95, 78, 69, 81], [76, 69, 65, 70]]
def modeName (m : Int) : List UInt8 := if m < 1 ∨ 7 < m then [] else modeW[(m - 1).toNat]?.getD []
end Go.Proofs.YtieffhkfefimeaaGreatDoor

namespace Go.Proofs.YtieffhkfefimeaaGreatDoor
open Go.RowKit
set_option linter.unusedVariables false
set_option linter.unusedSimpArgs false
structure CheckOk (e : EE) : Prop where
  size : sizeE e = true
  agg : e.agg ∈ aggW
  post : e.post ∈ postW
  base : baseE e = true
  nums : numsE e.nodes = true
  mode : everyE e.nodes true (fun n => decide (1 ≤ n.mode ∧ n.mode ≤ 7)) = true
  feat : everyE e.nodes false (fun n => decide (0 ≤ n.feat ∧ n.feat < e.feats)) = true
  val : everyE e.nodes false (fun n => finP n.val) = true
  val2 : everyE e.nodes true (fun n => decide (n.val < 4294967296)) = true
  kid : kidE e.nodes = true
  forest : forestE e.nodes = true
  leaf : leafE e = true
  weight : e.leaves.any (fun l => !finP l.wt) = false
theorem checkE_1 {f : EE}  (hb : sizeE f = false) : checkE f = 1 := by
  unfold checkE
  rw [if_pos hb]
theorem checkE_2 {f : EE} (h1 : sizeE f = true) (hb : f.agg ∉ aggW) : checkE f = 2 := by
  unfold checkE
  rw [if_neg (by rw [h1]; simp), if_pos hb]
theorem checkE_3 {f : EE} (h1 : sizeE f = true) (h2 : f.agg ∈ aggW) (hb : f.post ∉ postW) : checkE f = 3 := by
  unfold checkE
  rw [if_neg (by rw [h1]; simp), if_neg (by exact fun h => h h2), if_pos hb]
theorem checkE_4 {f : EE} (h1 : sizeE f = true) (h2 : f.agg ∈ aggW) (h3 : f.post ∈ postW) (hb : baseE f = false) : checkE f = 4 := by
  unfold checkE
  rw [if_neg (by rw [h1]; simp), if_neg (by exact fun h => h h2), if_neg (by exact fun h => h h3), if_pos hb]
theorem checkE_5 {f : EE} (h1 : sizeE f = true) (h2 : f.agg ∈ aggW) (h3 : f.post ∈ postW) (h4 : baseE f = true) (hb : numsE f.nodes = false) : checkE f = 5 := by
  unfold checkE
  rw [if_neg (by rw [h1]; simp), if_neg (by exact fun h => h h2), if_neg (by exact fun h => h h3), if_neg (by rw [h4]; simp), if_pos hb]
theorem checkE_6 {f : EE} (h1 : sizeE f = true) (h2 : f.agg ∈ aggW) (h3 : f.post ∈ postW) (h4 : baseE f = true) (h5 : numsE f.nodes = true) (hb : everyE f.nodes true (fun n => decide (1 ≤ n.mode ∧ n.mode ≤ 7)) = false) : checkE f = 6 := by
  unfold checkE
  rw [if_neg (by rw [h1]; simp), if_neg (by exact fun h => h h2), if_neg (by exact fun h => h h3), if_neg (by rw [h4]; simp), if_neg (by rw [h5]; simp), if_pos hb]
theorem checkE_7 {f : EE} (h1 : sizeE f = true) (h2 : f.agg ∈ aggW) (h3 : f.post ∈ postW) (h4 : baseE f = true) (h5 : numsE f.nodes = true) (h6 : everyE f.nodes true (fun n => decide (1 ≤ n.mode ∧ n.mode ≤ 7)) = true) (hb : everyE f.nodes false (fun n => decide (0 ≤ n.feat ∧ n.feat < f.feats)) = false) : checkE f = 7 := by
  unfold checkE
  rw [if_neg (by rw [h1]; simp), if_neg (by exact fun h => h h2), if_neg (by exact fun h => h h3), if_neg (by rw [h4]; simp), if_neg (by rw [h5]; simp), if_neg (by rw [h6]; simp), if_pos hb]
theorem checkE_8 {f : EE} (h1 : sizeE f = true) (h2 : f.agg ∈ aggW) (h3 : f.post ∈ postW) (h4 : baseE f = true) (h5 : numsE f.nodes = true) (h6 : everyE f.nodes true (fun n => decide (1 ≤ n.mode ∧ n.mode ≤ 7)) = true) (h7 : everyE f.nodes false (fun n => decide (0 ≤ n.feat ∧ n.feat < f.feats)) = true) (hb : everyE f.nodes false (fun n => finP n.val) = false ∨ everyE f.nodes true (fun n => decide (n.val < 4294967296)) = false) : checkE f = 8 := by
  unfold checkE
  rw [if_neg (by rw [h1]; simp), if_neg (by exact fun h => h h2), if_neg (by exact fun h => h h3), if_neg (by rw [h4]; simp), if_neg (by rw [h5]; simp), if_neg (by rw [h6]; simp), if_neg (by rw [h7]; simp), if_pos hb]
theorem checkE_9 {f : EE} (h1 : sizeE f = true) (h2 : f.agg ∈ aggW) (h3 : f.post ∈ postW) (h4 : baseE f = true) (h5 : numsE f.nodes = true) (h6 : everyE f.nodes true (fun n => decide (1 ≤ n.mode ∧ n.mode ≤ 7)) = true) (h7 : everyE f.nodes false (fun n => decide (0 ≤ n.feat ∧ n.feat < f.feats)) = true) (h8 : everyE f.nodes false (fun n => finP n.val) = true ∧ everyE f.nodes true (fun n => decide (n.val < 4294967296)) = true) (hb : kidE f.nodes = false) : checkE f = 9 := by
  unfold checkE
  rw [if_neg (by rw [h1]; simp), if_neg (by exact fun h => h h2), if_neg (by exact fun h => h h3), if_neg (by rw [h4]; simp), if_neg (by rw [h5]; simp), if_neg (by rw [h6]; simp), if_neg (by rw [h7]; simp), if_neg (by rw [h8.1, h8.2]; simp), if_pos hb]
theorem checkE_10 {f : EE} (h1 : sizeE f = true) (h2 : f.agg ∈ aggW) (h3 : f.post ∈ postW) (h4 : baseE f = true) (h5 : numsE f.nodes = true) (h6 : everyE f.nodes true (fun n => decide (1 ≤ n.mode ∧ n.mode ≤ 7)) = true) (h7 : everyE f.nodes false (fun n => decide (0 ≤ n.feat ∧ n.feat < f.feats)) = true) (h8 : everyE f.nodes false (fun n => finP n.val) = true ∧ everyE f.nodes true (fun n => decide (n.val < 4294967296)) = true) (h9 : kidE f.nodes = true) (hb : forestE f.nodes = false) : checkE f = 10 := by
  unfold checkE
  rw [if_neg (by rw [h1]; simp), if_neg (by exact fun h => h h2), if_neg (by exact fun h => h h3), if_neg (by rw [h4]; simp), if_neg (by rw [h5]; simp), if_neg (by rw [h6]; simp), if_neg (by rw [h7]; simp), if_neg (by rw [h8.1, h8.2]; simp), if_neg (by rw [h9]; simp), if_pos hb]
theorem checkE_11 {f : EE} (h1 : sizeE f = true) (h2 : f.agg ∈ aggW) (h3 : f.post ∈ postW) (h4 : baseE f = true) (h5 : numsE f.nodes = true) (h6 : everyE f.nodes true (fun n => decide (1 ≤ n.mode ∧ n.mode ≤ 7)) = true) (h7 : everyE f.nodes false (fun n => decide (0 ≤ n.feat ∧ n.feat < f.feats)) = true) (h8 : everyE f.nodes false (fun n => finP n.val) = true ∧ everyE f.nodes true (fun n => decide (n.val < 4294967296)) = true) (h9 : kidE f.nodes = true) (h10 : forestE f.nodes = true) (hb : leafE f = false) : checkE f = 11 := by
  unfold checkE
  rw [if_neg (by rw [h1]; simp), if_neg (by exact fun h => h h2), if_neg (by exact fun h => h h3), if_neg (by rw [h4]; simp), if_neg (by rw [h5]; simp), if_neg (by rw [h6]; simp), if_neg (by rw [h7]; simp), if_neg (by rw [h8.1, h8.2]; simp), if_neg (by rw [h9]; simp), if_neg (by rw [h10]; simp), if_pos hb]
theorem checkE_12 {f : EE} (h1 : sizeE f = true) (h2 : f.agg ∈ aggW) (h3 : f.post ∈ postW) (h4 : baseE f = true) (h5 : numsE f.nodes = true) (h6 : everyE f.nodes true (fun n => decide (1 ≤ n.mode ∧ n.mode ≤ 7)) = true) (h7 : everyE f.nodes false (fun n => decide (0 ≤ n.feat ∧ n.feat < f.feats)) = true) (h8 : everyE f.nodes false (fun n => finP n.val) = true ∧ everyE f.nodes true (fun n => decide (n.val < 4294967296)) = true) (h9 : kidE f.nodes = true) (h10 : forestE f.nodes = true) (h11 : leafE f = true) (hb : f.leaves.any (fun l => !finP l.wt) = true) : checkE f = 12 := by
  unfold checkE
  rw [if_neg (by rw [h1]; simp), if_neg (by exact fun h => h h2), if_neg (by exact fun h => h h3), if_neg (by rw [h4]; simp), if_neg (by rw [h5]; simp), if_neg (by rw [h6]; simp), if_neg (by rw [h7]; simp), if_neg (by rw [h8.1, h8.2]; simp), if_neg (by rw [h9]; simp), if_neg (by rw [h10]; simp), if_neg (by rw [h11]; simp), if_pos hb]
theorem check_ok {f : EE} (h : checkE f = 0) : CheckOk f := by
  have h1 : sizeE f = true := Bool.not_eq_false _ ▸ fun hb => by rw [checkE_1  hb] at h; cases h
  have h2 : f.agg ∈ aggW := Classical.byContradiction fun hb => by rw [checkE_2 h1 hb] at h; cases h
  have h3 : f.post ∈ postW := Classical.byContradiction fun hb => by rw [checkE_3 h1 h2 hb] at h; cases h
  have h4 : baseE f = true := Bool.not_eq_false _ ▸ fun hb => by rw [checkE_4 h1 h2 h3 hb] at h; cases h
  have h5 : numsE f.nodes = true := Bool.not_eq_false _ ▸ fun hb => by rw [checkE_5 h1 h2 h3 h4 hb] at h; cases h
  have h6 : everyE f.nodes true (fun n => decide (1 ≤ n.mode ∧ n.mode ≤ 7)) = true := Bool.not_eq_false _ ▸ fun hb => by rw [checkE_6 h1 h2 h3 h4 h5 hb] at h; cases h
  have h7 : everyE f.nodes false (fun n => decide (0 ≤ n.feat ∧ n.feat < f.feats)) = true := Bool.not_eq_false _ ▸ fun hb => by rw [checkE_7 h1 h2 h3 h4 h5 h6 hb] at h; cases h
  have h8 : everyE f.nodes false (fun n => finP n.val) = true ∧ everyE f.nodes true (fun n => decide (n.val < 4294967296)) = true := by
    refine ⟨Bool.not_eq_false _ ▸ fun hb => ?_, Bool.not_eq_false _ ▸ fun hb => ?_⟩
    · rw [checkE_8 h1 h2 h3 h4 h5 h6 h7 (.inl hb)] at h; cases h
    · rw [checkE_8 h1 h2 h3 h4 h5 h6 h7 (.inr hb)] at h; cases h
  have h9 : kidE f.nodes = true := Bool.not_eq_false _ ▸ fun hb => by rw [checkE_9 h1 h2 h3 h4 h5 h6 h7 h8 hb] at h; cases h
  have h10 : forestE f.nodes = true := Bool.not_eq_false _ ▸ fun hb => by rw [checkE_10 h1 h2 h3 h4 h5 h6 h7 h8 h9 hb] at h; cases h
  have h11 : leafE f = true := Bool.not_eq_false _ ▸ fun hb => by rw [checkE_11 h1 h2 h3 h4 h5 h6 h7 h8 h9 h10 hb] at h; cases h
  have h12 : f.leaves.any (fun l => !finP l.wt) = false := Bool.not_eq_true _ ▸ fun hb => by rw [checkE_12 h1 h2 h3 h4 h5 h6 h7 h8 h9 h10 h11 hb] at h; cases h
  exact ⟨h1, h2, h3, h4, h5, h6, h7, h8.1, h8.2, h9, h10, h11, h12⟩
theorem everyE_bad {ns : List EN} {all : Bool} {p : EN → Bool} {n : EN} (hn : n ∈ ns) (h1 : (all || decide (n.mode ≠ 7)) = true) (h2 : p n = false) : everyE ns all p = false := by
  unfold everyE
  rw [Bool.not_eq_false', List.any_eq_true]
  exact ⟨n, hn, by rw [h1, h2]; rfl⟩
end Go.Proofs.YtieffhkfefimeaaGreatDoor

namespace Go.Proofs.YtieffhkfefimeaaGreatDoor
open Go.RowKit
set_option linter.unusedVariables false
set_option linter.unusedSimpArgs false
/-- A slice of n elements of K cells each, of the call's own from block base on: its cells. -/
def OwnsK (K base : Nat) (e : TypeId) (w : World) (v : Value) (n : Nat) (xs : List Value) : Prop := w.ownsRow base e K v n xs
theorem OwnsK.nil (K base : Nat) (e : TypeId) (w : World) : OwnsK K base e w (.slice none 0 0) 0 [] := World.ownsRow_nil _ _ _ _
theorem OwnsK.len {K base : Nat} {e : TypeId} {w : World} {v : Value} {n : Nat} {xs : List Value} (h : OwnsK K base e w v n xs) : xs.length = n * K := h.1
theorem OwnsK.shape {K base : Nat} {e : TypeId} {w : World} {v : Value} {n : Nat} {xs : List Value} (h : OwnsK K base e w v n xs) :
    (v = .slice none 0 0 ∧ n = 0) ∨ ∃ g cap, v = .slice (some ⟨g, 0, none⟩) n cap ∧ base ≤ g ∧ g < w.heap.size ∧ n ≤ cap ∧ cap ≤ maxLen ∧
      (∀ j, j < n * K → w.cell? ⟨g, j, none⟩ = xs[j]?) ∧ (∀ j, w.frozen? ⟨g, j, none⟩ = false) := by
  have h0 := h
  obtain ⟨h1, ⟨rfl, hn⟩ | ⟨g, cap, cur, rfl, h2, h3, h4, h5, h6, h7⟩⟩ := h
  · exact .inl ⟨rfl, hn⟩
  · exact .inr ⟨g, cap, rfl, h2, (Array.getElem?_eq_some_iff.1 h3).1, h4, h5, fun j hj => World.ownsRow.cellAt h0 j (by omega), fun j => World.ownsRow.frozenAt h0 j⟩
theorem OwnsK.kept {K base : Nat} {e : TypeId} {w w' : World} {v : Value} {n : Nat} {xs : List Value} (h : OwnsK K base e w v n xs) (hb : Below w.heap.size w w') : OwnsK K base e w' v n xs :=
  World.ownsRow.kept (row := none) h ⟨hb.os, hb.tape, hb.output, hb.size, fun k hk _ => hb.block k hk⟩ (by cases hv : v.ownBlock <;> simp)
theorem OwnsK.alloc {K base : Nat} {e : TypeId} {w : World} {v : Value} {n : Nat} {xs : List Value} (h : OwnsK K base e w v n xs) (o : Obj) : OwnsK K base e (w.alloc o) v n xs := World.ownsRow.alloc h o
theorem OwnsK.mono {K base base' : Nat} {e : TypeId} {w : World} {v : Value} {n : Nat} {xs : List Value} (h : OwnsK K base e w v n xs) (hb : base' ≤ base) : OwnsK K base' e w v n xs := by
  obtain ⟨h1, h2 | ⟨g, cap, cur, h2, h3, h4⟩⟩ := h
  · exact ⟨h1, .inl h2⟩
  · exact ⟨h1, .inr ⟨g, cap, cur, h2, by omega, h4⟩⟩
/-- What the program's tables say of a slice type whose elements are K cells. -/
structure ElemK (P : Program) (t e : TypeId) (z : Value) (K bytes : Nat) : Prop where
  und : P.underlying t = some (.slice e)
  info : ∃ i, P.info? e = some i ∧ i.zero = some z ∧ i.size = K ∧ i.bytes = bytes
  many : z.cells.size = K
  pos : 0 < K
theorem elemK_of {P : Program} {t e : TypeId} {z : Value} {K bytes : Nat} (h1 : P.underlying t = some (.slice e)) (h2 : (P.info? e).map (fun i => (i.zero, i.size, i.bytes)) = some (some z, K, bytes)) (h3 : z.cells.size = K) (h4 : 0 < K) : ElemK P t e z K bytes :=
  ⟨h1, info_parts h2, h3, h4⟩
end Go.Proofs.YtieffhkfefimeaaGreatDoor

namespace Go.Proofs.YtieffhkfefimeaaGreatDoor
open Go.RowKit
set_option linter.unusedVariables false
set_option linter.unusedSimpArgs false
theorem run_appendK {P : Program} {t e : TypeId} {z : Value} {K bytes : Nat} (E : ElemK P t e z K bytes) (ty : TypeId) {w : World} {base n : Nat} {v : Value} {xs : List Value} (hown : OwnsK K base e w v n xs)
    (ad : Addr) (c : Nat) (us : List Value) (hul : us.length = K) (hu : ∀ j u', us[j]? = some u' → w.cell? (ad.add j) = some u') (h1 : ∀ u ∈ us, u.oneCell' = true) (hl : (n + 1) * bytes ≤ 140737488355328) (hm : n + 1 ≤ maxLen) (hbase : base ≤ w.heap.size) :
    ∃ v' w', (Builtin.append_ #[t, t] ty #[v, .slice (some ad) 1 c]).run P w = .ok v' w' ∧ OwnsK K base e w' v' (n + 1) (xs ++ us) ∧ w.grownBy w' v.ownBlock ∧
      (∀ g, v'.ownBlock = some g → v.ownBlock = some g ∨ w.heap.size ≤ g) ∧
      ∀ p : Value → Prop, RowAll p w v → (∀ u ∈ us, p u) → (∀ c ∈ z.cells, p c) → RowAll p w' v' := by
  obtain ⟨i, hi, hz, h4, h5⟩ := E.info
  have hxn := hown.1
  obtain ⟨v', w', hrun, r1, r2, r3⟩ := run_append_own (P := P) w base t ty e i z K bytes E.und hi hz h4 h5 E.many E.pos v n xs hown ad 1 c us (by omega) hu h1 hm hl hbase
  rcases hown.2 with ⟨rfl, hn0⟩ | ⟨g0, cap, cur, rfl, k1, k2, k3, k4, k5, k6⟩
  · subst hn0
    have hxs : xs = [] := List.eq_nil_of_length_eq_zero (by omega)
    subst hxs
    have hr := run_append_nil (P := P) w t ty e i z E.und hi hz ad 1 c us (by rw [h4]; omega) hu (by omega) (by omega) (by rw [h5]; simp at hl; omega)
    rw [hr] at hrun
    injection hrun with e1 e2
    refine ⟨v', w', by rw [hr, e1, e2], r1, r2, ?_, ?_⟩
    · intro g hg
      subst e1
      simp [Value.ownBlock] at hg
      exact .inr (by omega)
    · intro p _ hp hpz g hg j c' hc'
      subst e1
      subst e2
      simp [Value.ownBlock] at hg
      subst hg
      have hm' := cell_mem (heap_alloc_new w.drew _) hc'
      simp only [List.mem_toArray, Array.mem_append] at hm'
      rcases hm' with hm' | hm'
      · exact hp _ hm'
      · exact hpz _ (mem_zeroCells hm')
  · by_cases hroom : n + 1 ≤ cap
    · have hr := run_append_room (P := P) w t ty e i E.und hi g0 n cap cur k2 ad 1 c us (by rw [h4]; omega) hu h1 hroom (by rw [h4]; have h9 := Nat.mul_le_mul_right K hroom; rw [Nat.add_mul] at h9; omega)
      rw [hr] at hrun
      injection hrun with e1 e2
      refine ⟨v', w', by rw [hr, e1, e2], r1, r2, ?_, ?_⟩
      · intro g hg
        subst e1
        exact .inl hg
      · intro p ha hp hpz g hg j c' hc'
        subst e1
        subst e2
        simp [Value.ownBlock] at hg
        subst hg
        have hm' := cell_mem (setRow_heap w g0 cur _ e _ k2) hc'
        have old : ∀ c'' ∈ cur.toList, p c'' := by
          intro c'' hc''
          obtain ⟨j', hj', rfl⟩ := List.mem_iff_getElem.1 hc''
          refine ha g0 rfl j' _ ?_
          unfold World.cell?
          simp [k2]
        simp only [List.mem_toArray, List.mem_append] at hm'
        rcases hm' with (hm' | hm') | hm'
        · exact old _ (List.mem_of_mem_take hm')
        · exact hp _ hm'
        · exact old _ (List.mem_of_mem_drop hm')
    · have hr := run_append_grow (P := P) w t ty e i z E.und hi hz ⟨g0, 0, none⟩ n cap xs (by rw [h4]; omega) (World.ownsRow.cells hown (g := g0) rfl) ad 1 c us (by rw [h4]; omega) hu (by omega) (by simp only [maxLen] at hm; omega) (growslice_fits (by omega) (by rw [h5]; exact hl))
      rw [hr] at hrun
      injection hrun with e1 e2
      refine ⟨v', w', by rw [hr, e1, e2], r1, r2, ?_, ?_⟩
      · intro g hg
        subst e1
        simp [Value.ownBlock] at hg
        exact .inr (by omega)
      · intro p ha hp hpz g hg j c' hc'
        subst e1
        subst e2
        simp [Value.ownBlock] at hg
        subst hg
        have hm' := cell_mem (heap_alloc_new w.drew _) hc'
        have old : ∀ c'' ∈ cur.toList, p c'' := by
          intro c'' hc''
          obtain ⟨j', hj', rfl⟩ := List.mem_iff_getElem.1 hc''
          refine ha g0 rfl j' _ ?_
          unfold World.cell?
          simp [k2]
        simp only [List.mem_toArray, Array.mem_append, List.mem_append] at hm'
        rcases hm' with (hm' | hm') | hm'
        · exact old _ (by rw [← k6] at hm'; exact List.mem_of_mem_take hm')
        · exact hp _ hm'
        · exact hpz _ (mem_zeroCells hm')
/-- out = append(out, x): x a struct of K cells; what all cells of the row are abides. -/
theorem append1KAt {P : Program} {t e : TypeId} {z : Value} {K bytes : Nat} (E : ElemK P t e z K bytes) {w : World} {ops : Array Oper} {rest : List Oper} {o : Oper} {a : Act} {Q : Exit → Act → World → Prop} {s x : Operand} {us : Array Value} {base n : Nat} {v : Value} {xs : List Value} {p : Value → Prop}
    (hown : OwnsK K base e w v n xs) (hra : RowAll p w v) (hu : ∀ u ∈ us.toList, p u) (hz : ∀ c ∈ z.cells, p c) (hgd : o.guard = none) (ho : o.op = .call { callee := .builtin .append, args := #[s, x], argTypes := #[t, t] }) (hs : a.eval s = v)
    (hx : a.eval x = .slice (some ⟨w.heap.size, 0, none⟩) 1 1) (hus : us.size = K) (h1 : ∀ u ∈ us.toList, u.oneCell' = true) (hl : (n + 1) * bytes ≤ 140737488355328) (hm : n + 1 ≤ maxLen) (hbase : base ≤ w.heap.size)
    (h : ∀ v' w', OwnsK K base e w' v' (n + 1) (xs ++ us.toList) → Below base w w' → w.grownBy w' v.ownBlock → (∀ g, v'.ownBlock = some g → v.ownBlock = some g ∨ w.heap.size ≤ g) → RowAll p w' v' → wpList P ops Q rest (a.put o.dst v') w') : wpList P ops Q (o :: rest) a (w.alloc (.cells us e)) := by
  have hra' : RowAll p (w.alloc (.cells us e)) v := by
    intro g hg j c hc
    have hlt := World.ownsRow.lt hown g hg
    rw [World.cell?_alloc_past _ _ _ hlt.2] at hc
    exact hra g hg j c hc
  obtain ⟨v', w', hrun, r1, r2, r3, r4⟩ := run_appendK (P := P) E o.type (w := w.alloc (.cells us e)) (hown.alloc _) ⟨w.heap.size, 0, none⟩ 1 us.toList (by simp [hus]) (by
    intro j u' hj
    rw [Addr.add_lit, Nat.zero_add]
    unfold World.cell?
    rw [show (w.alloc (.cells us e)).heap[w.heap.size]? = some (.cells us e) from heap_alloc_new w _]
    simpa using hj) h1 hl hm (by simp; omega)
  refine wpList_plain hgd fun K' hK => ?_
  unfold Oper.wp
  simp [execOp, ho, resolve, invoke, builtin, hs, hx, hrun, Result.andThen]
  have hg : w.grownBy w' v.ownBlock := ⟨r2.os, r2.tape, r2.output, Nat.le_trans (by simp) r2.size, fun k hk hne => (r2.block k (by simp; omega) hne).trans (Below.heap_alloc _ _ _ hk)⟩
  refine hK _ _ (h v' w' r1 ⟨hg.os, hg.tape, hg.output, hg.size, fun k hk => hg.block k (by omega) (fun e' => ?_)⟩ hg ?_ (r4 p hra' hu hz))
  · have := World.ownsRow.lt hown k e'.symm
    omega
  · intro g hg'
    rcases r3 g hg' with h4 | h4
    · exact .inl h4
    · exact .inr (by simp at h4; omega)
end Go.Proofs.YtieffhkfefimeaaGreatDoor

namespace Go.Proofs.YtieffhkfefimeaaGreatDoor
open Go.RowKit
set_option linter.unusedVariables false
set_option linter.unusedSimpArgs false
/-- A block whose first cells hold these, a variable of the call's own. -/
structure BoxL (w : World) (b : Nat) (xs : List Value) : Prop where
  cell : ∀ (i : Nat) (x : Value), xs[i]? = some x → w.cell? ⟨b, i, none⟩ = some x
  free : ∀ (i : Nat), i < xs.length → w.frozen? ⟨b, i, none⟩ = false
  lt : b < w.heap.size
theorem BoxL.block {w w' : World} {b : Nat} {xs : List Value} (h : BoxL w b xs) (hg : w'.heap[b]? = w.heap[b]?) : BoxL w' b xs :=
  ⟨fun i x hi => (World.cell?_of_block (w := w) (a := ⟨b, i, none⟩) hg).trans (h.cell i x hi), fun i hi => (World.frozen?_of_block (w := w) (a := ⟨b, i, none⟩) hg).trans (h.free i hi), by
    have h1 : w.heap[b]? = some (w.heap[b]'h.lt) := Array.getElem?_eq_getElem h.lt
    rw [← hg] at h1; exact (Array.getElem?_eq_some_iff.1 h1).1⟩
theorem BoxL.kept {w w' : World} {b : Nat} {xs : List Value} (h : BoxL w b xs) (hb : Below w.heap.size w w') : BoxL w' b xs := h.block (hb.block b h.lt)
theorem BoxL.below {w w' : World} {b B : Nat} {xs : List Value} (h : BoxL w b xs) (hb : Below B w w') (hB : b < B) : BoxL w' b xs := h.block (hb.block b hB)
theorem BoxL.drew {w : World} {b : Nat} {xs : List Value} (h : BoxL w b xs) : BoxL w.drew b xs := ⟨h.cell, h.free, h.lt⟩
theorem BoxL.new (w : World) (xs : List Value) (t : TypeId) : BoxL (w.alloc (.cells xs.toArray t)) w.heap.size xs := by
  refine ⟨fun i x hi => ?_, fun i hi => ?_, by simp⟩
  · unfold World.cell?
    rw [show (w.alloc (.cells xs.toArray t)).heap[w.heap.size]? = some (.cells xs.toArray t) from heap_alloc_new w _]
    simpa using hi
  · unfold World.frozen?
    rw [show (w.alloc (.cells xs.toArray t)).heap[w.heap.size]? = some (.cells xs.toArray t) from heap_alloc_new w _]
    simp
theorem BoxL.set {w : World} {b : Nat} {xs : List Value} (h : BoxL w b xs) (i : Nat) (u : Value) (hi : i < xs.length) : BoxL (w.setCell ⟨b, i, none⟩ u) b (xs.set i u) := by
  refine ⟨fun j x hj => ?_, fun j hj => ?_, by simpa [World.setCell] using h.lt⟩
  · by_cases e : j = i
    · subst e
      rw [List.getElem?_set_self hi] at hj
      cases hj
      exact cell_set (h.cell j (xs[j]'hi) (List.getElem?_eq_getElem hi))
    · rw [List.getElem?_set_ne (fun h => e h.symm)] at hj
      rw [World.cell?_setCell_other]
      · exact h.cell j x hj
      · intro e'; have h2 : i = j := by injection e'
        exact e h2.symm
  · rw [World.frozen?_setCell]
    exact h.free j (by simpa using hj)
theorem BoxL.setOther {w : World} {b g : Nat} {xs : List Value} (h : BoxL w b xs) (hne : b ≠ g) (j : Nat) (u : Value) : BoxL (w.setCell ⟨g, j, none⟩ u) b xs :=
  h.block ((grownBy_set (grownBy_refl w (some g)) j u).block b h.lt (by simpa using hne))
theorem BoxL.of4 {w : World} {b : Nat} {x0 x1 x2 x3 : Value} (c0 : w.cell? ⟨b, 0, none⟩ = some x0) (c1 : w.cell? ⟨b, 1, none⟩ = some x1) (c2 : w.cell? ⟨b, 2, none⟩ = some x2) (c3 : w.cell? ⟨b, 3, none⟩ = some x3) (f0 : w.frozen? ⟨b, 0, none⟩ = false) (f1 : w.frozen? ⟨b, 1, none⟩ = false) (f2 : w.frozen? ⟨b, 2, none⟩ = false) (f3 : w.frozen? ⟨b, 3, none⟩ = false) : BoxL w b [x0, x1, x2, x3] := by
  refine ⟨fun i x hi => ?_, fun i hi => ?_, World.block_lt_of_cell? w ⟨b, 0, none⟩ c0⟩
  · match i, hi with
    | 0, hi => simp at hi; subst hi; exact c0
    | 1, hi => simp at hi; subst hi; exact c1
    | 2, hi => simp at hi; subst hi; exact c2
    | 3, hi => simp at hi; subst hi; exact c3
  · match i, hi with
    | 0, hi => exact f0
    | 1, hi => exact f1
    | 2, hi => exact f2
    | 3, hi => exact f3
theorem BoxL.of7 {w : World} {b : Nat} {x0 x1 x2 x3 x4 x5 x6 : Value} (c0 : w.cell? ⟨b, 0, none⟩ = some x0) (c1 : w.cell? ⟨b, 1, none⟩ = some x1) (c2 : w.cell? ⟨b, 2, none⟩ = some x2) (c3 : w.cell? ⟨b, 3, none⟩ = some x3) (c4 : w.cell? ⟨b, 4, none⟩ = some x4) (c5 : w.cell? ⟨b, 5, none⟩ = some x5) (c6 : w.cell? ⟨b, 6, none⟩ = some x6) (f0 : w.frozen? ⟨b, 0, none⟩ = false) (f1 : w.frozen? ⟨b, 1, none⟩ = false) (f2 : w.frozen? ⟨b, 2, none⟩ = false) (f3 : w.frozen? ⟨b, 3, none⟩ = false) (f4 : w.frozen? ⟨b, 4, none⟩ = false) (f5 : w.frozen? ⟨b, 5, none⟩ = false) (f6 : w.frozen? ⟨b, 6, none⟩ = false) : BoxL w b [x0, x1, x2, x3, x4, x5, x6] := by
  refine ⟨fun i x hi => ?_, fun i hi => ?_, World.block_lt_of_cell? w ⟨b, 0, none⟩ c0⟩
  · match i, hi with
    | 0, hi => simp at hi; subst hi; exact c0
    | 1, hi => simp at hi; subst hi; exact c1
    | 2, hi => simp at hi; subst hi; exact c2
    | 3, hi => simp at hi; subst hi; exact c3
    | 4, hi => simp at hi; subst hi; exact c4
    | 5, hi => simp at hi; subst hi; exact c5
    | 6, hi => simp at hi; subst hi; exact c6
  · match i, hi with
    | 0, hi => exact f0
    | 1, hi => exact f1
    | 2, hi => exact f2
    | 3, hi => exact f3
    | 4, hi => exact f4
    | 5, hi => exact f5
    | 6, hi => exact f6
/-- From w on to w': no old block has turned but those of S. -/
structure Keep (S : Nat → Prop) (w w' : World) : Prop where
  os : w'.os = w.os
  tape : w'.tape = w.tape
  output : w'.output = w.output
  size : w.heap.size ≤ w'.heap.size
  same : ∀ k, k < w.heap.size → ¬ S k → w'.heap[k]? = w.heap[k]?
theorem Keep.refl (S : Nat → Prop) (w : World) : Keep S w w := ⟨rfl, rfl, rfl, Nat.le_refl _, fun _ _ _ => rfl⟩
theorem Keep.of_below {S : Nat → Prop} {w w' : World} (h : Below w.heap.size w w') : Keep S w w' := ⟨h.os, h.tape, h.output, h.size, fun k hk _ => h.block k hk⟩
theorem Keep.trans {S S' : Nat → Prop} {a b c : World} (h : Keep S a b) (h' : Keep S' b c) (hS : ∀ k, k < a.heap.size → S' k → S k) : Keep S a c :=
  ⟨h'.os.trans h.os, h'.tape.trans h.tape, h'.output.trans h.output, Nat.le_trans h.size h'.size, fun k hk hs => (h'.same k (Nat.lt_of_lt_of_le hk h.size) (fun h2 => hs (hS k hk h2))).trans (h.same k hk hs)⟩
theorem Keep.mono {S S' : Nat → Prop} {a b : World} (h : Keep S a b) (hS : ∀ k, k < a.heap.size → S k → S' k) : Keep S' a b := ⟨h.os, h.tape, h.output, h.size, fun k hk hs => h.same k hk (fun h2 => hs (hS k hk h2))⟩
theorem Keep.below {S : Nat → Prop} {a b : World} {B : Nat} (h : Keep S a b) (hS : ∀ k, S k → B ≤ k) (hB : B ≤ a.heap.size) : Below B a b :=
  ⟨h.os, h.tape, h.output, h.size, fun k hk => h.same k (by omega) (fun h2 => by have := hS k h2; omega)⟩
theorem Keep.set {S : Nat → Prop} {a b : World} (h : Keep S a b) (g j : Nat) (u : Value) (hg : S g ∨ a.heap.size ≤ g) : Keep S a (b.setCell ⟨g, j, none⟩ u) := by
  have hs := grownBy_set (grownBy_refl b (some g)) j u
  exact ⟨hs.os.trans h.os, hs.tape.trans h.tape, hs.output.trans h.output, Nat.le_trans h.size hs.size, fun k hk hs2 => (hs.block k (Nat.lt_of_lt_of_le hk h.size) (fun e => by
    cases e
    rcases hg with h1 | h1
    · exact hs2 h1
    · omega)).trans (h.same k hk hs2)⟩
theorem BoxL.keep {S : Nat → Prop} {w w' : World} {b : Nat} {xs : List Value} (h : BoxL w b xs) (hk : Keep S w w') (hs : ¬ S b) : BoxL w' b xs := h.block (hk.same b h.lt hs)
end Go.Proofs.YtieffhkfefimeaaGreatDoor

namespace Go.Proofs.YtieffhkfefimeaaGreatDoor
open Go.RowKit
set_option linter.unusedVariables false
set_option linter.unusedSimpArgs false
theorem OwnsK.block {K base : Nat} {e : TypeId} {w w' : World} {v : Value} {n : Nat} {xs : List Value} (h : OwnsK K base e w v n xs) (hb : ∀ g, v.ownBlock = some g → w'.heap[g]? = w.heap[g]?) : OwnsK K base e w' v n xs := by
  obtain ⟨h1, h2 | ⟨g, cap, cur, rfl, h3, h4, h5⟩⟩ := h
  · exact ⟨h1, .inl h2⟩
  · exact ⟨h1, .inr ⟨g, cap, cur, rfl, h3, (hb g rfl).trans h4, h5⟩⟩
theorem OwnsK.lt {K base : Nat} {e : TypeId} {w : World} {v : Value} {n : Nat} {xs : List Value} (h : OwnsK K base e w v n xs) : ∀ g, v.ownBlock = some g → base ≤ g ∧ g < w.heap.size := World.ownsRow.lt h
theorem OwnsK.keep {S : Nat → Prop} {K base : Nat} {e : TypeId} {w w' : World} {v : Value} {n : Nat} {xs : List Value} (h : OwnsK K base e w v n xs) (hk : Keep S w w') (hs : ∀ g, v.ownBlock = some g → ¬ S g) : OwnsK K base e w' v n xs :=
  h.block fun g hg => hk.same g (h.lt g hg).2 (hs g hg)
theorem OwnsK.at_cells {K base : Nat} {e : TypeId} {w : World} {v : Value} {n : Nat} {xs : List Value} (h : OwnsK K base e w v n xs) : ∀ g, v.ownBlock = some g → ∃ o : Obj, w.heap[g]? = some o ∧ o.isCells = true := by
  intro g hg
  obtain ⟨h1, ⟨rfl, _⟩ | ⟨g', cap, cur, rfl, h3, h4, h5⟩⟩ := h
  · simp [Value.ownBlock] at hg
  · simp [Value.ownBlock] at hg; subst hg; exact ⟨_, h4, rfl⟩
theorem OwnsK.ext {K B base : Nat} {e : TypeId} {w w' : World} {v : Value} {n : Nat} {xs : List Value} (h : OwnsK K base e w v n xs) (hx : Ext B w w') : OwnsK K base e w' v n xs :=
  h.block fun g hg => by
    obtain ⟨o, h1, h2⟩ := h.at_cells g hg
    rw [h1]; exact hx.cells g o h1 h2
theorem BoxL.ext {B : Nat} {w w' : World} {b : Nat} {xs : List Value} (h : BoxL w b xs) (hx : Ext B w w') (hne : 0 < xs.length) : BoxL w' b xs := by
  have h0 := h.cell 0 (xs[0]'hne) (List.getElem?_eq_getElem hne)
  have h1 : ∃ o : Obj, w.heap[b]? = some o ∧ o.isCells = true := by
    unfold World.cell? at h0
    split at h0
    · rename_i hb; exact ⟨_, hb, rfl⟩
    · cases h0
  obtain ⟨o, h2, h3⟩ := h1
  exact h.block (by rw [h2]; exact hx.cells b o h2 h3)
theorem OwnsK.slice {K base : Nat} {e : TypeId} {w : World} {v : Value} {n : Nat} {xs : List Value} (h : OwnsK K base e w v n xs) : ∃ ao cap, v = .slice ao n cap ∧ n ≤ cap ∧ cap ≤ maxLen ∧ (ao = none → cap = 0) := by
  rcases h.shape with ⟨rfl, rfl⟩ | ⟨g, cap, rfl, _, _, h4, h5, _, _⟩
  · exact ⟨_, _, rfl, Nat.le_refl _, Nat.zero_le _, fun _ => rfl⟩
  · exact ⟨_, _, rfl, h4, h5, fun h => by cases h⟩
end Go.Proofs.YtieffhkfefimeaaGreatDoor
