/-
  Pi15: PrdA (what is needed of them).
-/
import Derived.Test.YtlmjkbdodecbmaaGreatDoorPi06
import Derived.Test.YtlmjkbdodecbmaaGreatDoorPi13
import Derived.Test.YtlmjkbdodecbmaaGreatDoorPi14

namespace Go.Proofs.YtlmjkbdodecbmaaGreatDoor
open Go.RowKit
set_option linter.unusedVariables false
set_option linter.unusedSimpArgs false
attribute [local go_sem] field_nat
/-- All that lies below B is as it was. -/
def Low (B : Nat) (w w' : World) : Prop := ∀ k, k < B → w'.heap[k]? = w.heap[k]?
theorem Low.refl (B : Nat) (w : World) : Low B w w := fun _ _ => rfl
theorem Low.trans {B : Nat} {a b c : World} (h : Low B a b) (h' : Low B b c) : Low B a c := fun k hk => (h' k hk).trans (h k hk)
theorem Low.of_below {B D : Nat} {w w' : World} (h : Below D w w') (hB : B ≤ D) : Low B w w' := fun k hk => h.block k (by omega)
theorem Low.mono {B B' : Nat} {w w' : World} (h : Low B w w') (hB : B' ≤ B) : Low B' w w' := fun k hk => h k (by omega)
theorem Low.cell {B : Nat} {w w' : World} (h : Low B w w') {b i : Nat} (hb : b < B) : w'.cell? ⟨b, i, none⟩ = w.cell? ⟨b, i, none⟩ := World.cell?_of_block (a := ⟨b, i, none⟩) (h b hb)
/-- A row of values, below B. -/
structure ValsB (B : Nat) (w : World) (vo : Option Addr) (vc : Nat) (vs : List V3) : Prop where
  v : Vals w vo vs
  cap : vs.length ≤ vc ∧ vc ≤ maxLen
  len : ∀ v ∈ vs, v.n.length ≤ 9223372036854775807 ∧ v.c.length ≤ 9223372036854775807
  lo : vs ≠ [] → ∃ b off, vo = some ⟨b, off, none⟩ ∧ b < B
  no : vo = none → vc = 0
theorem ValsB.low {B : Nat} {w w' : World} {vo : Option Addr} {vc : Nat} {vs : List V3} (h : ValsB B w vo vc vs) (hl : Low B w w') : ValsB B w' vo vc vs := by
  refine ⟨fun i v hi => ?_, h.cap, h.len, h.lo, h.no⟩
  obtain ⟨b, off, e, c0, c1, c2⟩ := h.v i v hi
  obtain ⟨b2, off2, e2, hb⟩ := h.lo (fun e => by rw [e] at hi; simp at hi)
  rw [e] at e2
  cases e2
  exact ⟨b, off, e, ⟨(hl.cell hb).trans c0.cell⟩, ⟨(hl.cell hb).trans c1.cell⟩, ⟨(hl.cell hb).trans c2.cell⟩⟩
theorem ValsB.mono {B B' : Nat} {w : World} {vo : Option Addr} {vc : Nat} {vs : List V3} (h : ValsB B w vo vc vs) (hB : B ≤ B') : ValsB B' w vo vc vs :=
  ⟨h.v, h.cap, h.len, fun hn => by obtain ⟨b, off, e, hb⟩ := h.lo hn; exact ⟨b, off, e, by omega⟩, h.no⟩
/-- A predicate's cells. -/
abbrev pcs (op fld : Int) (vo : Option Addr) (vl vc : Nat) (ko : Option Addr) (kl kc : Nat) : List Value := [.int .i64 op, .int .i64 fld, .slice vo vl vc, .slice ko kl kc]
/-- A predicate in memory: its own cells; all it holds lies below B. -/
inductive PIs (B : Nat) (w : World) : PT → List Value → Prop
  | mk {op fld : Int} {vs : List V3} {ks : List PT} {vo : Option Addr} {vc : Nat} {ko : Option Addr} {kc : Nat} (cf : Nat → List Value) (hv : ValsB B w vo vc vs) (hkc : ks.length ≤ kc ∧ kc ≤ maxLen) (hno : ko = none → kc = 0)
      (ha : ks = [] ∨ ∃ b off, ko = some ⟨b, off, none⟩ ∧ b < B ∧ ∀ i, i < ks.length → ∀ j c, (cf i)[j]? = some c → w.cell? ⟨b, off + i * 4 + j, none⟩ = some c)
      (hk : ∀ i k, ks[i]? = some k → PIs B w k (cf i)) : PIs B w (.mk op fld vs ks) (pcs op fld vo vs.length vc ko ks.length kc)
theorem PIs.low {B : Nat} {w w' : World} (hl : Low B w w') {p : PT} {cs : List Value} (h : PIs B w p cs) : PIs B w' p cs := by
  induction h with
  | mk cf hv hkc hno ha hk ih =>
    refine .mk cf (hv.low hl) hkc hno ?_ ih
    rcases ha with ha | ⟨b, off, h1, h2, h3⟩
    · exact .inl ha
    · exact .inr ⟨b, off, h1, h2, fun i hi j c hj => (hl.cell h2).trans (h3 i hi j c hj)⟩
theorem PIs.mono {B B' : Nat} {w : World} (hB : B ≤ B') {p : PT} {cs : List Value} (h : PIs B w p cs) : PIs B' w p cs := by
  induction h with
  | mk cf hv hkc hno ha hk ih =>
    refine .mk cf (hv.mono hB) hkc hno ?_ ih
    rcases ha with ha | ⟨b, off, h1, h2, h3⟩
    · exact .inl ha
    · exact .inr ⟨b, off, h1, by omega, h3⟩
/-- Four cells that lie. -/
structure At4 (w : World) (b o : Nat) (x0 x1 x2 x3 : Value) : Prop where
  c0 : w.cell? ⟨b, o, none⟩ = some x0
  c1 : w.cell? ⟨b, o + 1, none⟩ = some x1
  c2 : w.cell? ⟨b, o + 2, none⟩ = some x2
  c3 : w.cell? ⟨b, o + 3, none⟩ = some x3
theorem At4.drew {w : World} {b o : Nat} {x0 x1 x2 x3 : Value} (h : At4 w b o x0 x1 x2 x3) : At4 w.drew b o x0 x1 x2 x3 := ⟨h.c0, h.c1, h.c2, h.c3⟩
theorem At4.kept {w w' : World} {b o : Nat} {x0 x1 x2 x3 : Value} (h : At4 w b o x0 x1 x2 x3) (hb : Below w.heap.size w w') : At4 w' b o x0 x1 x2 x3 := by
  have hlt : b < w.heap.size := World.block_lt_of_cell? w ⟨b, o, none⟩ h.c0
  exact ⟨(hb.cell (p := ⟨b, o, none⟩) hlt).trans h.c0, (hb.cell (p := ⟨b, o + 1, none⟩) hlt).trans h.c1, (hb.cell (p := ⟨b, o + 2, none⟩) hlt).trans h.c2, (hb.cell (p := ⟨b, o + 3, none⟩) hlt).trans h.c3⟩
theorem At4.low {B : Nat} {w w' : World} {b o : Nat} {x0 x1 x2 x3 : Value} (h : At4 w b o x0 x1 x2 x3) (hl : Low B w w') (hb : b < B) : At4 w' b o x0 x1 x2 x3 :=
  ⟨(hl.cell hb).trans h.c0, (hl.cell hb).trans h.c1, (hl.cell hb).trans h.c2, (hl.cell hb).trans h.c3⟩
/-- A predicate in memory, by its letters. -/
def PtIs (B : Nat) (w : World) (p : PT) (vo : Option Addr) (vc : Nat) (ko : Option Addr) (kc : Nat) : Prop := PIs B w p (pcs p.op p.fld vo p.vals.length vc ko p.kids.length kc)
theorem PIs.form {B : Nat} {w : World} {p : PT} {cs : List Value} (h : PIs B w p cs) : ∃ vo vc ko kc, cs = pcs p.op p.fld vo p.vals.length vc ko p.kids.length kc ∧ PtIs B w p vo vc ko kc := by
  have h0 := h
  cases h with
  | mk cf hv hkc hno ha hk => exact ⟨_, _, _, _, rfl, h0⟩
theorem PtIs.low {B : Nat} {w w' : World} {p : PT} {vo : Option Addr} {vc : Nat} {ko : Option Addr} {kc : Nat} (h : PtIs B w p vo vc ko kc) (hl : Low B w w') : PtIs B w' p vo vc ko kc := PIs.low hl h
theorem PtIs.mono {B B' : Nat} {w : World} {p : PT} {vo : Option Addr} {vc : Nat} {ko : Option Addr} {kc : Nat} (h : PtIs B w p vo vc ko kc) (hB : B ≤ B') : PtIs B' w p vo vc ko kc := PIs.mono hB h
theorem PtIs.vals {B : Nat} {w : World} {p : PT} {vo : Option Addr} {vc : Nat} {ko : Option Addr} {kc : Nat} (h : PtIs B w p vo vc ko kc) : ValsB B w vo vc p.vals := by
  unfold PtIs pcs at h
  cases p with
  | mk op fld vs ks =>
    cases h with
    | mk cf hv hkc hno ha hk => exact hv
theorem PtIs.kcap {B : Nat} {w : World} {p : PT} {vo : Option Addr} {vc : Nat} {ko : Option Addr} {kc : Nat} (h : PtIs B w p vo vc ko kc) : p.kids.length ≤ kc ∧ kc ≤ 9223372036854775807 := by
  unfold PtIs pcs at h
  cases p with
  | mk op fld vs ks =>
    cases h with
    | mk cf hv hkc hno ha hk => exact ⟨hkc.1, by have := hkc.2; unfold maxLen at this; omega⟩
/-- A kid in memory. -/
theorem PtIs.kid {B : Nat} {w : World} {p : PT} {vo : Option Addr} {vc : Nat} {ko : Option Addr} {kc : Nat} (h : PtIs B w p vo vc ko kc) {i : Nat} {k : PT} (hi : p.kids[i]? = some k) :
    ∃ b off, ko = some ⟨b, off, none⟩ ∧ b < B ∧ ∃ kvo kvc kko kkc, PtIs B w k kvo kvc kko kkc ∧ At4 w b (off + i * 4) (.int .i64 k.op) (.int .i64 k.fld) (.slice kvo k.vals.length kvc) (.slice kko k.kids.length kkc) := by
  unfold PtIs pcs at h
  cases p with
  | mk op fld vs ks =>
    cases h with
    | mk cf hv hkc hno ha hk =>
      have hil : i < ks.length := (List.getElem?_eq_some_iff.1 hi).1
      rcases ha with ha | ⟨b, off, h1, h2, h3⟩
      · rw [ha] at hil; simp at hil
      · obtain ⟨kvo, kvc, kko, kkc, e, hP⟩ := (hk i k hi).form
        have c := h3 i hil
        rw [e] at c
        exact ⟨b, off, h1, h2, kvo, kvc, kko, kkc, hP, ⟨c 0 _ rfl, c 1 _ rfl, c 2 _ rfl, c 3 _ rfl⟩⟩
theorem boxP (w : World) (op fld : Int) (vo : Option Addr) (vl vc : Nat) (ko : Option Addr) (kl kc : Nat) : ∃ w0, w0 = w.alloc (.cells #[.int .i64 op, .int .i64 fld, .slice vo vl vc, .slice ko kl kc] 34) ∧ Below w.heap.size w w0 ∧ w0.heap.size = w.heap.size + 1 ∧ ∃ p, p = w.heap.size ∧ BoxL w0 p [.int .i64 op, .int .i64 fld, .slice vo vl vc, .slice ko kl kc] :=
  ⟨_, rfl, (Below.refl _ w).alloc (Nat.le_refl _) _, by simp, _, rfl, BoxL.new w _ _⟩
theorem cells1 (w : World) (x : Nat) : Cells .i64 (w.alloc (.cells #[.int .i64 (x : Int)] 3)) (some ⟨w.heap.size, 0, none⟩) [x] := by
  refine .inr ⟨_, 0, rfl, by simp, fun i hi => ?_⟩
  match i, hi with
  | 0, _ => go_simp
theorem room_z1 (n z : Int) (ao : Option Addr) (x : Nat) (w : World) (hn : -1 ≤ n) (hn2 : n ≤ 1000000000) (hc : Cells .i64 w ao [x]) (hz : Hid (z = roomL n [x])) :
    Calls Tryz.prog 68 #[.int .i64 n, .slice ao 1 1] w fun e w' => e = .returned (.int .i64 z) ∧ Below w.heap.size w w' := room_z n z ao 1 [x] w hn hn2 hc (by simp) hz
set_option maxRecDepth 100000 in
set_option maxHeartbeats 1000000 in
/-- values: what is left of the room. -/
theorem values_big (m0 : Int) (ao : Option Addr) (cap : Nat) (vs : List V3) (w : World) (hm1 : -1 ≤ m0) (hm2 : m0 ≤ 1000000000) (hv : Vals w ao vs) (hlen : vs.length ≤ 9223372036854775807) (hl : ∀ v ∈ vs, v.n.length ≤ 9223372036854775807 ∧ v.c.length ≤ 9223372036854775807) : Calls Tryz.prog 73 #[.int .i64 m0, .slice ao vs.length cap] w fun e w' => e = .returned (.int .i64 (valsRoom m0 vs)) ∧ Below w.heap.size w w' := by
  have hbf : Below w.heap.size w w := Below.refl _ _
  go_enter Tryz.func73, Tryz.ntmps73
  go_wp2_with fail
  go_loopg [0, 5] vs.length (fun gg nv iv wr => ∃ (m : Int) (i : Nat), i + gg = vs.length ∧ nv = .int .i64 m ∧ iv = .int .i64 (i : Int) ∧ -1 ≤ m ∧ m ≤ 1000000000 ∧ Hid (valsRoom m (vs.drop i) = valsRoom m0 vs) ∧ Vals wr ao vs ∧ Below w.heap.size w wr)
  case atStart => exact ⟨m0, 0, by omega, rfl, rfl, hm1, hm2, Lib.hid rfl, hv, hbf⟩
  clear hv hbf
  case round =>
    obtain ⟨m, i, hi, rfl, rfl, hq1, hq2, HR, hv, hbf⟩ := hrel
    by_cases hil : ¬ i < vs.length
    case pos =>
      have hdn : vs.drop i = [] := List.drop_eq_nil_of_le (by omega)
      have hre : m = valsRoom m0 vs := by rw [← HR.out, hdn]; rfl
      have HRE := Lib.hid hre
      have hii : ¬ ((i : Nat) : Int) < ((vs.length : Nat) : Int) := by omega
      clear hdn hre
      go_wp2_with fail
      go_ret
      exact ⟨ret_one (congrArg (Value.int .i64) (by exact HRE.out)), hbf⟩
    case neg =>
      have hil9 : i < vs.length := by omega
      have hii : ((i : Nat) : Int) < ((vs.length : Nat) : Int) := by omega
      clear hil
      by_cases hmn : m < 0
      case pos =>
        have hre : m = valsRoom m0 vs := by rw [← HR.out, valsRoom_neg hmn]
        have HRE := Lib.hid hre
        have hmg : ¬ (0 : Int) ≤ m := by omega
        clear hre
        go_wp2_with fail
        go_ret
        exact ⟨ret_one (congrArg (Value.int .i64) (by exact HRE.out)), hbf⟩
      case neg =>
        have hmg : (0 : Int) ≤ m := by omega
        obtain ⟨v, hv9⟩ : ∃ v, vs[i]? = some v := ⟨_, List.getElem?_eq_getElem hil9⟩
        have hmem : v ∈ vs := List.mem_of_getElem? hv9
        have hle := hl v hmem
        obtain ⟨hln, hlc⟩ := hle
        have hdr := valsRoom_drop hv9 hmn
        rw [hdr] at HR
        obtain ⟨b, off, rfl, h0, hbx, hby⟩ := hv i v hv9
        obtain ⟨z, hz⟩ : ∃ z, z = roomL m [1, v.n.length, v.c.length] := ⟨_, rfl⟩
        have hzr := roomL_range [1, v.n.length, v.c.length] hq1 hq2
        rw [← hz] at HR hzr
        have HZ := Lib.hid hz
        obtain ⟨hz1, hz2⟩ := hzr
        obtain ⟨vn, hvn⟩ : ∃ l, l = v.n := ⟨_, rfl⟩
        obtain ⟨vc, hvc⟩ : ∃ l, l = v.c := ⟨_, rfl⟩
        rw [← hvn] at HZ hbx hln
        rw [← hvc] at HZ hby hlc
        clear hdr hz hmem hv9 hvn hvc h0
        have hqi : (0 : Int) ≤ (i : Int) := by omega
        have ex := hbx.cell
        have ey := hby.cell
        go_wp2_with fail
        clear ex ey
        refine wp_region_seq (S := fun w' => CellV w' (b) (off + i * 3 + 1) (Value.string ⟨vn.toArray⟩) ∧ CellV w' (b) (off + i * 3 + 2) (Value.string ⟨vc.toArray⟩)) [(true, 0), (true, 1), (true, 2), (true, 3), (true, 4), (true, 5), (true, 6), (true, 7), (true, 8), (true, 9), (true, 10), (true, 11), (true, 12), (false, 13), (false, 14), (true, 15)] (by kernel_rfl) (by kernel_rfl) (by kernel_rfl) (by kernel_rfl) (by kernel_rfl) (fun d _ _ _ _ h => by cases d <;> exact h) ⟨hbx.drew, hby.drew⟩ (fun _ => ?_)
        simp only [pickOps, List.append_eq, List.cons_append, List.nil_append, List.getElem?_toArray, List.getElem?_cons_succ, List.getElem?_cons_zero]
        have hb : Below wr.heap.size wr wr.drew := (Below.refl _ _).drew
        generalize wr.drew = w1 at hb ⊢
        replace hbx := hbx.kept hb
        replace hby := hby.kept hb
        replace hv := hv.below hb
        replace hbf := hbf.trans (hb.mono hbf.size)
        clear hb
        repeat (first | (refine seq_take (v := ?_) (by rfl) ?_ ?_; rotate_left; (· intro w hSw; (try dsimp only at hSw); obtain ⟨⟨ex⟩, ⟨ey⟩⟩ := hSw; go_simp; all_goals with_reducible rfl); (try simp only [Act.put, List.setIfInBounds_toArray, List.set_cons_zero, List.set_cons_succ])) | (refine seq_leave (by rfl) ?_; (try simp only [Act.put, List.setIfInBounds_toArray, List.set_cons_zero, List.set_cons_succ])))
        refine seq_step (by rfl) (fun K hK => ?_)
        go_simp
        obtain ⟨w2, hwE⟩ : ∃ W, W = w1.alloc (.cells #[.int .i64 1, .int .i64 (vn.length : Int), .int .i64 (vc.length : Int)] 3) := ⟨_, rfl⟩
        have hb : Below w1.heap.size w1 w2 := by rw [hwE]; exact (Below.refl _ _).alloc (Nat.le_refl _) _
        have hcs : Cells .i64 w2 (some ⟨w1.heap.size, 0, none⟩) [1, vn.length, vc.length] := by rw [hwE]; exact cells3 _ 1 _ _
        rw [← hwE]
        clear hwE
        replace hbx := hbx.kept hb
        replace hby := hby.kept hb
        replace hv := hv.below hb
        replace hbf := hbf.trans (hb.mono hbf.size)
        clear hb
        first | refine hK.out _ _ ⟨hbx, hby⟩ (fun _ => ?_) | (go_wp2_with fail; refine hK.out _ _ ⟨hbx, hby⟩ (fun _ => ?_))
        clear hK K
        (try simp only [Act.put, List.setIfInBounds_toArray, List.set_cons_zero, List.set_cons_succ])
        refine seq_step (by rfl) (fun K hK => ?_)
        go_simp
        go_at_call 68
        (with_reducible refine (room_z3 m z _ 1 vn.length vc.length _ hq1 hq2 hcs HZ).mono ?_)
        rintro e w3 ⟨rfl, hb⟩
        replace hbx := hbx.kept hb
        replace hby := hby.kept hb
        replace hv := hv.below hb
        replace hbf := hbf.trans (hb.mono hbf.size)
        clear hb
        first | refine hK.out _ _ ⟨hbx, hby⟩ (fun _ => ?_) | (go_wp2_with fail; refine hK.out _ _ ⟨hbx, hby⟩ (fun _ => ?_))
        clear hK K
        (try simp only [Act.put, List.setIfInBounds_toArray, List.set_cons_zero, List.set_cons_succ])
        repeat (first | (refine seq_take (v := ?_) (by rfl) ?_ ?_; rotate_left; (· intro w hSw; (try dsimp only at hSw); obtain ⟨⟨ex⟩, ⟨ey⟩⟩ := hSw; go_simp; all_goals with_reducible rfl); (try simp only [Act.put, List.setIfInBounds_toArray, List.set_cons_zero, List.set_cons_succ])) | (refine seq_leave (by rfl) ?_; (try simp only [Act.put, List.setIfInBounds_toArray, List.set_cons_zero, List.set_cons_succ])))
        refine seq_end ?_
        go_wp2_with fail
        go_roundg (gk - 1)
        case measure => omega
        case rel => exact ⟨z, i + 1, by omega, rfl, by go_num, hz1, hz2, HR, hv, hbf⟩
theorem valsRoom_range : ∀ (vs : List V3) {n : Int}, -1 ≤ n → n ≤ 1000000000 → -1 ≤ valsRoom n vs ∧ valsRoom n vs ≤ 1000000000 := by
  intro vs
  induction vs with
  | nil => intro n h1 h2; exact ⟨h1, h2⟩
  | cons s r ih =>
    intro n h1 h2
    unfold valsRoom
    split
    · exact ⟨h1, h2⟩
    · have := roomL_range [1, s.n.length, s.c.length] h1 h2
      exact ih this.1 this.2
theorem predR_range (p : PT) : ∀ {n : Int}, -1 ≤ n → n ≤ 1000000000 → -1 ≤ predR n p ∧ predR n p ≤ 1000000000 := by
  refine PT.rec (motive_1 := fun p => ∀ {n : Int}, -1 ≤ n → n ≤ 1000000000 → -1 ≤ predR n p ∧ predR n p ≤ 1000000000) (motive_2 := fun ks => ∀ {n : Int}, -1 ≤ n → n ≤ 1000000000 → -1 ≤ predsR n ks ∧ predsR n ks ≤ 1000000000) ?_ ?_ ?_ p
  · intro op fld vs ks ih n h1 h2
    rw [predR]
    have a := roomL_range [1] h1 h2
    have b := valsRoom_range vs a.1 a.2
    exact ih b.1 b.2
  · intro n h1 h2; rw [predsR]; exact ⟨h1, h2⟩
  · intro k ks i1 i2 n h1 h2
    rw [predsR]
    split
    · exact ⟨h1, h2⟩
    · have a := i1 h1 h2
      exact i2 a.1 a.2
theorem values_z (m0 z : Int) (ao : Option Addr) (cap : Nat) (vs : List V3) (B : Nat) (w : World) (hm1 : -1 ≤ m0) (hm2 : m0 ≤ 1000000000) (hv : Hid (ValsB B w ao cap vs)) (hz : Hid (z = valsRoom m0 vs)) : Calls Tryz.prog 73 #[.int .i64 m0, .slice ao vs.length cap] w fun e w' => e = .returned (.int .i64 z) ∧ Below w.heap.size w w' := by
  rw [hz.out]
  exact values_big m0 ao cap vs w hm1 hm2 hv.out.v (by have := hv.out.cap; unfold maxLen at this; omega) hv.out.len
set_option maxRecDepth 100000 in
set_option maxHeartbeats 2000000 in
/-- pred. -/
theorem bpred_any (p : PT) : ∀ (n z : Int) (vo : Option Addr) (vc : Nat) (ko : Option Addr) (kc : Nat) (B : Nat) (w : World), PtIs B w p vo vc ko kc → Hid (B ≤ w.heap.size) → -1 ≤ n → n ≤ 1000000000 → Hid (z = predR n p) →
    Calls Tryz.prog 83 #[.int .i64 n, .agg #[.int .i64 p.op, .int .i64 p.fld, .slice vo p.vals.length vc, .slice ko p.kids.length kc]] w fun e w' => e = .returned (.int .i64 z) ∧ Below w.heap.size w w' := by
  induction p using PT.ind with
  | h op fld vs ks ih =>
  intro n z vo vc ko kc B w hP HBS hn1 hn2 HZ
  show Calls Tryz.prog 83 #[.int .i64 n, .agg #[.int .i64 op, .int .i64 fld, .slice vo vs.length vc, .slice ko ks.length kc]] w fun e w' => e = .returned (.int .i64 z) ∧ Below w.heap.size w w'
  obtain ⟨w0, hw0, hbf, hz0, px, hpx, hbx⟩ := boxP w op fld vo vs.length vc ko ks.length kc
  replace hP := hP.low (Low.of_below hbf HBS.out)
  replace HBS : Hid (B ≤ w0.heap.size) := Lib.hid (Nat.le_trans HBS.out hbf.size)
  have HIH := Lib.hid ih
  have HW := Lib.hid hw0
  obtain ⟨z1, h1⟩ : ∃ z, z = roomL n [1] := ⟨_, rfl⟩
  obtain ⟨z2, h2⟩ : ∃ z, z = valsRoom z1 vs := ⟨_, rfl⟩
  have hz1 := roomL_range [1] hn1 hn2
  rw [← h1] at hz1
  have hz2 := valsRoom_range vs hz1.1 hz1.2
  rw [← h2] at hz2
  have HZ0 : Hid (predsR z2 ks = z) := Lib.hid (by rw [HZ.out, predR_eq, h2, h1]; rfl)
  have HZ1 := Lib.hid h1
  have HZ2 := Lib.hid h2
  have hkl : ks.length ≤ 9223372036854775807 := Nat.le_trans hP.kcap.1 hP.kcap.2
  clear hw0 hz0 h1 h2 HZ ih
  go_enter Tryz.func83, Tryz.ntmps83
  go_upto_region 1 with fail
  rw [← HW.out, ← hpx]
  clear hpx HW

  refine wp_region_seq (S := fun w' => BoxL w' px [.int .i64 op, .int .i64 fld, .slice vo vs.length vc, .slice ko ks.length kc]) [(true, 0), (true, 3), (true, 4), (false, 1), (false, 2), (false, 5), (true, 6)] (by kernel_rfl) (by kernel_rfl) (by kernel_rfl) (by kernel_rfl) (by kernel_rfl) (fun d _ _ _ _ h => by cases d <;> exact h) hbx.drew (fun _ => ?_)
  simp only [pickOps, List.append_eq, List.cons_append, List.nil_append, List.getElem?_toArray, List.getElem?_cons_succ, List.getElem?_cons_zero]
  have hb : Below w0.heap.size w0 w0.drew := (Below.refl _ _).drew
  generalize w0.drew = wd at hb ⊢
  replace hbx := hbx.kept hb
  replace hP := hP.low (Low.of_below hb HBS.out)
  replace HBS : Hid (B ≤ _) := Lib.hid (Nat.le_trans HBS.out (hb).size)
  replace hbf := hbf.trans (hb.mono hbf.size)
  clear hb
  repeat (first | (refine seq_take (v := ?_) (by rfl) ?_ ?_; rotate_left; (· intro w hSw; (try dsimp only at hSw); have hL := hSw; have e0 := hL.cell 0 _ rfl; have e1 := hL.cell 1 _ rfl; have e2 := hL.cell 2 _ rfl; have e3 := hL.cell 3 _ rfl; clear hL; go_simp; all_goals with_reducible rfl); (try simp only [Act.put, List.setIfInBounds_toArray, List.set_cons_zero, List.set_cons_succ])) | (refine seq_leave (by rfl) ?_; (try simp only [Act.put, List.setIfInBounds_toArray, List.set_cons_zero, List.set_cons_succ])))
  refine seq_step (by rfl) (fun K hK => ?_)
  go_simp
  obtain ⟨w2, hwE⟩ : ∃ W, W = wd.alloc (.cells #[.int .i64 1] 3) := ⟨_, rfl⟩
  have hb : Below wd.heap.size wd w2 := by rw [hwE]; exact (Below.refl _ _).alloc (Nat.le_refl _) _
  have hcs : Cells .i64 w2 (some ⟨wd.heap.size, 0, none⟩) [1] := by rw [hwE]; exact cells1 _ 1
  rw [← hwE]
  clear hwE
  replace hbx := hbx.kept hb
  replace hP := hP.low (Low.of_below hb HBS.out)
  replace HBS : Hid (B ≤ _) := Lib.hid (Nat.le_trans HBS.out (hb).size)
  replace hbf := hbf.trans (hb.mono hbf.size)
  clear hb
  first | refine hK.out _ _ hbx (fun _ => ?_) | (go_wp2_with fail; refine hK.out _ _ hbx (fun _ => ?_))
  clear hK K
  (try simp only [Act.put, List.setIfInBounds_toArray, List.set_cons_zero, List.set_cons_succ])
  repeat (first | (refine seq_take (v := ?_) (by rfl) ?_ ?_; rotate_left; (· intro w hSw; (try dsimp only at hSw); have hL := hSw; have e0 := hL.cell 0 _ rfl; have e1 := hL.cell 1 _ rfl; have e2 := hL.cell 2 _ rfl; have e3 := hL.cell 3 _ rfl; clear hL; go_simp; all_goals with_reducible rfl); (try simp only [Act.put, List.setIfInBounds_toArray, List.set_cons_zero, List.set_cons_succ])) | (refine seq_leave (by rfl) ?_; (try simp only [Act.put, List.setIfInBounds_toArray, List.set_cons_zero, List.set_cons_succ])))
  refine seq_step (by rfl) (fun K hK => ?_)
  go_simp
  go_at_call 68
  (with_reducible refine (room_z1 n z1 _ 1 _ hn1 hn2 hcs HZ1).mono ?_)
  rintro e w3 ⟨rfl, hb⟩
  clear hcs
  replace hbx := hbx.kept hb
  replace hP := hP.low (Low.of_below hb HBS.out)
  replace HBS : Hid (B ≤ _) := Lib.hid (Nat.le_trans HBS.out (hb).size)
  replace hbf := hbf.trans (hb.mono hbf.size)
  clear hb
  first | refine hK.out _ _ hbx (fun _ => ?_) | (go_wp2_with fail; refine hK.out _ _ hbx (fun _ => ?_))
  clear hK K
  (try simp only [Act.put, List.setIfInBounds_toArray, List.set_cons_zero, List.set_cons_succ])
  repeat (first | (refine seq_take (v := ?_) (by rfl) ?_ ?_; rotate_left; (· intro w hSw; (try dsimp only at hSw); have hL := hSw; have e0 := hL.cell 0 _ rfl; have e1 := hL.cell 1 _ rfl; have e2 := hL.cell 2 _ rfl; have e3 := hL.cell 3 _ rfl; clear hL; go_simp; all_goals with_reducible rfl); (try simp only [Act.put, List.setIfInBounds_toArray, List.set_cons_zero, List.set_cons_succ])) | (refine seq_leave (by rfl) ?_; (try simp only [Act.put, List.setIfInBounds_toArray, List.set_cons_zero, List.set_cons_succ])))
  refine seq_step (by rfl) (fun K hK => ?_)
  go_simp
  go_at_call 73
  (with_reducible refine (values_z z1 z2 vo vc vs B _ hz1.1 hz1.2 (Lib.hid hP.vals) HZ2).mono ?_)
  rintro e w4 ⟨rfl, hb⟩
  replace hbx := hbx.kept hb
  replace hP := hP.low (Low.of_below hb HBS.out)
  replace HBS : Hid (B ≤ _) := Lib.hid (Nat.le_trans HBS.out (hb).size)
  replace hbf := hbf.trans (hb.mono hbf.size)
  clear hb
  first | refine hK.out _ _ hbx (fun _ => ?_) | (go_wp2_with fail; refine hK.out _ _ hbx (fun _ => ?_))
  clear hK K
  (try simp only [Act.put, List.setIfInBounds_toArray, List.set_cons_zero, List.set_cons_succ])
  repeat (first | (refine seq_take (v := ?_) (by rfl) ?_ ?_; rotate_left; (· intro w hSw; (try dsimp only at hSw); have hL := hSw; have e0 := hL.cell 0 _ rfl; have e1 := hL.cell 1 _ rfl; have e2 := hL.cell 2 _ rfl; have e3 := hL.cell 3 _ rfl; clear hL; go_simp; all_goals with_reducible rfl); (try simp only [Act.put, List.setIfInBounds_toArray, List.set_cons_zero, List.set_cons_succ])) | (refine seq_leave (by rfl) ?_; (try simp only [Act.put, List.setIfInBounds_toArray, List.set_cons_zero, List.set_cons_succ])))
  refine seq_end ?_

  go_wp2_with fail
  obtain ⟨w5, hw5⟩ : ∃ W, W = w4 := ⟨_, rfl⟩; subst hw5
  go_loopg [0, 5] ks.length (fun gg nv iv wr => ∃ (m : Int) (i : Nat), i + gg = ks.length ∧ nv = .int .i64 m ∧ iv = .int .i64 (i : Int) ∧ -1 ≤ m ∧ m ≤ 1000000000 ∧ Hid (predsR m (ks.drop i) = z) ∧ BoxL wr px [.int .i64 op, .int .i64 fld, .slice vo vs.length vc, .slice ko ks.length kc] ∧ PtIs B wr (.mk op fld vs ks) vo vc ko kc ∧ Hid (B ≤ wr.heap.size) ∧ Below w.heap.size w wr)
  case atStart => exact ⟨z2, 0, by omega, rfl, rfl, hz2.1, hz2.2, HZ0, hbx, hP, HBS, hbf⟩
  clear hbx hP HBS hbf HZ0 hz2 hz1 HZ1 HZ2 hn1 hn2
  case round =>
    obtain ⟨m, i, hi, rfl, rfl, hq1, hq2, HR, hbx, hP, HBS, hbf⟩ := hrel
    have e3 := hbx.cell 3 _ rfl
    by_cases hil : ¬ i < ks.length
    case pos =>
      have hre : m = z := by rw [← HR.out, List.drop_eq_nil_of_le (by omega)]; rw [predsR]
      have HRE := Lib.hid hre
      have hii : ¬ ((i : Nat) : Int) < ((ks.length : Nat) : Int) := by omega
      clear hre
      go_wp2_with fail
      go_ret
      exact ⟨ret_one (congrArg (Value.int .i64) HRE.out), hbf⟩
    case neg =>
      have hil9 : i < ks.length := by omega
      have hii : ((i : Nat) : Int) < ((ks.length : Nat) : Int) := by omega
      have hqi : (0 : Int) ≤ (i : Int) := by omega
      clear hil
      by_cases hmn : m < 0
      case pos =>
        have hre : m = z := by rw [← HR.out, predsR_neg hmn]
        have HRE := Lib.hid hre
        have hmg : ¬ (0 : Int) ≤ m := by omega
        clear hre
        go_wp2_with fail
        go_ret
        exact ⟨ret_one (congrArg (Value.int .i64) HRE.out), hbf⟩
      case neg =>
        have hmg : (0 : Int) ≤ m := by omega
        obtain ⟨k, hk9⟩ : ∃ k, ks[i]? = some k := ⟨_, List.getElem?_eq_getElem hil9⟩
        have hdr := predsR_drop hk9 hmn
        rw [hdr] at HR
        obtain ⟨b, off, hko, hbB, kvo, kvc, kko, kkc, hK, hA⟩ := hP.kid (i := i) (k := k) hk9
        subst hko
        obtain ⟨zk, hz⟩ : ∃ z, z = predR m k := ⟨_, rfl⟩
        have hzr := predR_range k hq1 hq2
        rw [← hz] at HR hzr
        have HZ := Lib.hid hz
        have hcall := HIH.out k (List.mem_of_getElem? hk9) m zk kvo kvc kko kkc B wr hK HBS hq1 hq2 HZ
        obtain ⟨c0, c1, c2, c3⟩ := hA
        clear hdr hz hk9 hK
        generalize k.op = kop at *
        generalize k.fld = kfld at *
        generalize k.vals.length = kvl at *
        generalize k.kids.length = kkl at *
        go_wp2_with fail
        (with_reducible refine hcall.mono ?_)
        rintro e w6 ⟨rfl, hb⟩
        clear hcall c0 c1 c2 c3 e3
        replace hbx := hbx.kept hb
        replace hP := hP.low (Low.of_below hb HBS.out)
        replace HBS : Hid (B ≤ w6.heap.size) := Lib.hid (Nat.le_trans HBS.out hb.size)
        replace hbf := hbf.trans (hb.mono hbf.size)
        clear hb
        go_wp2_with fail
        go_roundg (gk - 1)
        case measure => omega
        case rel => exact ⟨zk, i + 1, by omega, rfl, by go_num, hzr.1, hzr.2, HR, hbx, hP, HBS, hbf⟩
end Go.Proofs.YtlmjkbdodecbmaaGreatDoor
