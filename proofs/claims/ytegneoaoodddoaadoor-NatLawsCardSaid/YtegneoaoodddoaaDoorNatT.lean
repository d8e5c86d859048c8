/-
  nat: walks (18): DivMod.
-/
import Derived.Test.YtegneoaoodddoaaDoorNatS
import Derived.Test.YtegneoaoodddoaaDoorNatD
import Derived.Test.YtegneoaoodddoaaDoorNatG
namespace Go.Proofs.YtegneoaoodddoaaDoor
open Go.RowKit
set_option linter.unusedVariables false
set_option linter.unusedSimpArgs false
attribute [local go_sem] and_low field_nat

def DivPost (w : World) (a b : Nat) (e : Ending) (w' : World) : Prop := ∃ r s, e = .returned (.tuple #[r, s, .bool (decide (b ≠ 0))]) ∧ NatIs w' r (a / b) ∧ NatIs w' s (if b = 0 then 0 else a % b) ∧ Below w.heap.size w w'

theorem ret_nat_nat_tmp {fn : Func} {s t k : Nat} {R : Ending → World → Prop} {a : Act} {w : World} {p q : Addr} {v u x : Value} (hres : fn.results = #[.cell s 25, .cell t 25, .tmp k]) (hp : a.tmps.getD s undef = .pointer (some p)) (hq : a.tmps.getD t undef = .pointer (some q)) (hx : a.tmps.getD k undef = x)
    (hc : w.cell? p = some v) (hc2 : w.cell? q = some u) (hd : a.defers = []) (hR : R (.returned (.tuple #[.agg #[v], .agg #[u], x])) w) : bodyPost Tryd.prog fn R .ret a w := by
  refine bodyPost_ret (v := .tuple #[.agg #[v], .agg #[u], x]) ?_ hd hR
  have hp' : a.tmps[s]?.getD undef = .pointer (some p) := by simpa using hp
  have hq' : a.tmps[t]?.getD undef = .pointer (some q) := by simpa using hq
  have hx' : a.tmps[k]?.getD undef = x := by simpa using hx
  simp only [results, hres]
  simp [Sem.run_bind, Sem.run_pure, Result.andThen, hp', hq', hx', asAddr, load_nat hc, load_nat hc2]

/-- The end of DivMod: both results are stored. -/
theorem div_end {fn : Func} {w w9 : World} {a b : Nat} {act : Act} {ro so : Option Addr} {rl rc sl sc : Nat} (hres : fn.results = #[.cell 4 25, .cell 5 25, .tmp 6])
    (hp : act.tmps.getD 4 undef = .pointer (some ⟨w.heap.size + 2, 0, none⟩)) (hq : act.tmps.getD 5 undef = .pointer (some ⟨w.heap.size + 3, 0, none⟩)) (hx : act.tmps.getD 6 undef = .bool (decide (b ≠ 0))) (hd : act.defers = [])
    (hbr : Box w9 (w.heap.size + 2) (.slice none 0 0)) (hbs : Box w9 (w.heap.size + 3) (.slice none 0 0)) (hn : NatIs w9 (.agg #[.slice ro rl rc]) (a / b)) (hm : NatIs w9 (.agg #[.slice so sl sc]) (if b = 0 then 0 else a % b)) (hB : Below w.heap.size w w9) :
    bodyPost Tryd.prog fn (fun e w' => DivPost w a b e w') .ret act ((w9.setCell ⟨w.heap.size + 2, 0, none⟩ (.slice ro rl rc)).setCell ⟨w.heap.size + 3, 0, none⟩ (.slice so sl sc)) := by
  have c1 := hbr.cell
  refine ret_nat_nat_tmp hres hp hq hx (World.cell?_of_block (a := ⟨w.heap.size + 2, 0, none⟩) ((grownBy_set (grownBy_refl _ (some (w.heap.size + 3))) 0 _).block _ (by simp; exact hbr.lt) (by simp)) |>.trans (cell_set c1)) (cell_set (((hbs.setOther (by omega) 0 _)).cell)) hd ⟨_, _, rfl, ?_, ?_, ?_⟩
  · exact (hn.set _ _ (fun n e => by rw [c1] at e; cases e)).set _ _ (fun n e => by rw [(hbs.setOther (by omega) 0 _).cell] at e; cases e)
  · exact (hm.set _ _ (fun n e => by rw [c1] at e; cases e)).set _ _ (fun n e => by rw [(hbs.setOther (by omega) 0 _).cell] at e; cases e)
  · exact (hB.setCell (p := ⟨w.heap.size + 2, 0, none⟩) (by simp) _).setCell (p := ⟨w.heap.size + 3, 0, none⟩) (by simp) _

set_option maxRecDepth 100000 in
set_option maxHeartbeats 2000000 in
theorem divmod_any (va vb : Value) (a b : Nat) (w : World) (ha : NatIs w va a) (hb : NatIs w vb b) (hla : (limbs a).length ≤ 1000000) (hlb : (limbs b).length ≤ 1000000) :
    Calls Tryd.prog 32 #[va, vb] w fun e w' => DivPost w a b e w' := by
  obtain ⟨ao, ca, rfl, ha1, ha2, ha3, ha4⟩ := ha.open
  obtain ⟨bo, cb, rfl, hb1, hb2, hb3, hb4⟩ := hb.open
  obtain ⟨w0, hw0⟩ : ∃ w0, w0 = (((w.alloc (.cells #[.slice ao (limbs a).length ca] 25)).alloc (.cells #[.slice bo (limbs b).length cb] 25)).alloc (.cells #[.slice none 0 0] 25)).alloc (.cells #[.slice none 0 0] 25) := ⟨_, rfl⟩
  have hbel : Below w.heap.size w w0 := by
    rw [hw0]; exact ((((Below.refl _ w).alloc (Nat.le_refl _) _).alloc (by simp <;> omega) _).alloc (by simp <;> omega) _).alloc (by simp <;> omega) _
  have hsz0 : w0.heap.size = w.heap.size + 4 := by rw [hw0]; simp
  have hba : Box w0 w.heap.size (.slice ao (limbs a).length ca) := by
    rw [hw0]; exact ⟨by go_simp, by go_simp, by simp <;> omega⟩
  have hbb : Box w0 (w.heap.size + 1) (.slice bo (limbs b).length cb) := by
    rw [hw0]; exact ⟨by go_simp, by go_simp, by simp <;> omega⟩
  have hbr : Box w0 (w.heap.size + 2) (.slice none 0 0) := by
    rw [hw0]; exact ⟨by go_simp, by go_simp, by simp <;> omega⟩
  have hbs : Box w0 (w.heap.size + 3) (.slice none 0 0) := by
    rw [hw0]; exact ⟨by go_simp, by go_simp, by simp <;> omega⟩
  have ha0 := ha.below hbel
  have hb0 := hb.below hbel
  have HW := Lib.hid hw0; clear hw0
  have e2 := hbb.cell
  go_enter Tryd.func32, Tryd.ntmps32
  go_upto_region 1 with fail
  rw [← HW.out]
  go_wp2_with fail
  refine (zero_any _ b w0 hb0).mono ?_
  rintro e w1 ⟨rfl, hb1⟩
  have hba1 := hba.kept hb1
  have hbb1 := hbb.kept hb1
  have hbr1 := hbr.kept hb1
  have hbs1 := hbs.kept hb1
  have c3 := hbr1.cell
  have c4 := hbs1.cell
  have f3 := hbr1.free
  have f4 := hbs1.free
  clear e2
  by_cases hz : b = 0
  · have HZ := Lib.hid hz
    simp only [decide_eq_true hz]
    clear hz
    go_wp2
    refine div_end rfl rfl rfl (by rw [HZ.out]; rfl) rfl hbr1 hbs1 (by rw [HZ.out, Nat.div_zero]; exact NatIs.zero _) (by rw [if_pos HZ.out]; exact NatIs.zero _) (hbel.trans (hb1.mono hbel.size))
  · simp only [decide_eq_false hz]
    have ea := hba1.cell
    have eb := hbb1.cell
    have HZ : Hid (¬ b = 0) := Lib.hid hz
    clear hz c3 c4 f3 f4
    go_wp2_with fail
    refine (cmp_any _ _ a b w1 (ha0.below hb1) (hb0.below hb1)).mono ?_
    rintro e w2 ⟨rfl, hb2'⟩
    have hb02 := hb1.trans (hb2'.mono hb1.size)
    have hba2 := hba1.kept hb2'
    have hbb2 := hbb1.kept hb2'
    have hbr2 := hbr1.kept hb2'
    have hbs2 := hbs1.kept hb2'
    have c1 := hba2.cell
    have c2 := hbb2.cell
    have c3 := hbr2.cell
    have c4 := hbs2.cell
    have f3 := hbr2.free
    have f4 := hbs2.free
    clear ea eb
    by_cases hlt : a < b
    · have hc : cmpI a b = -1 := by unfold cmpI; rw [if_pos hlt]
      rw [hc]
      have HLT := Lib.hid hlt
      clear hlt hc
      go_wp2_with fail
      go_region
      all_goals
        go_wp2
        have hdr : Below w2.heap.size w2 w2.drew := (Below.refl _ _).drew
        exact div_end (w9 := w2.drew) rfl rfl rfl (by have := HZ.out; simp [this]) rfl hbr2.drew hbs2.drew (by rw [Nat.div_eq_of_lt HLT.out]; exact NatIs.zero _) (by rw [if_neg HZ.out, Nat.mod_eq_of_lt HLT.out]; exact (ha0.below hb02).below hdr) (hbel.trans ((hb02.trans (hdr.mono hb02.size)).mono hbel.size))
    · have hc : (0 : Int) ≤ cmpI a b := by unfold cmpI; rw [if_neg hlt]; split <;> omega
      generalize cmpI a b = cc at *
      have hge : b ≤ a := by omega
      have hll := limbs_length_mono hge
      have hlp : 0 < (limbs b).length := by
        rcases Nat.eq_zero_or_pos (limbs b).length with h | h
        · exact (HZ.out (limbs_eq_nil.1 (List.eq_nil_of_length_eq_zero h))).elim
        · exact h
      by_cases h1 : (limbs b).length = 1
      · obtain ⟨bg, boff, rfl, hbg, hbc⟩ : ∃ bg boff, bo = some ⟨bg, boff, none⟩ ∧ bg < w2.heap.size ∧ w2.cell? ⟨bg, boff, none⟩ = some (.int .u32 (b : Int)) := by
          have hcb := (hb4.below hbel).below (hb02.mono (Nat.le_refl _))
          rcases hcb with h | ⟨bg, boff, k1, k2, k3⟩
          · rw [h] at h1; simp at h1
          · refine ⟨bg, boff, k1, k2, ?_⟩
            have k4 := k3 0 (by omega)
            have k5 : (limbs b)[0]?.getD 0 = b := by
              have k6 := val_limbs b
              obtain ⟨x, hx⟩ := List.length_eq_one_iff.1 h1
              rw [hx] at k6 ⊢
              simpa [val] using k6
            rw [k5, Nat.add_zero] at k4
            exact k4
        have hbB : b < 4294967296 := by
          have k6 := val_limbs b
          obtain ⟨x, hx⟩ := List.length_eq_one_iff.1 h1
          have k7 := limbs_lt b x (by rw [hx]; simp)
          rw [hx] at k6
          simp [val] at k6
          omega
        have hca2 := (ha4.below hbel).below (hb02.mono (Nat.le_refl _))
        have hb1i : (((limbs b).length : Nat) : Int) = 1 := by omega
        have hbp : 0 < b := by have := HZ.out; omega
        have hane : limbs a ≠ [] := by
          intro h
          have := limbs_eq_nil.1 h
          omega
        have HB1 := Lib.hid h1
        clear hlt h1
        go_wp2_with fail
        refine (clone_any ao ca (limbs a) w2 hca2 ha1 ha2 ha3 (by omega)).mono ?_
        rintro e w3 ⟨lv, rfl, ho3, hb3⟩
        obtain ⟨lg, lcap, rfl, g1, g2, g3, g4⟩ := owns_some ho3 hane
        have hmu3 := ho3.mut
        have hbb3 := hbb2.kept hb3
        have hbr3 := hbr2.kept hb3
        have hbs3 := hbs2.kept hb3
        have hbc3 := (hb3.cell (p := ⟨bg, boff, none⟩) hbg).trans hbc
        have c5 := hbb3.cell
        have HB0 := Lib.hid hb1i
        clear c1 c2 c3 c4 f3 f4 hbc hb1i ho3
        have hb1j : (0 : Int) < (((limbs b).length : Nat) : Int) := by have := HB0.out; omega
        go_wp2_with fail
        refine (less_any lg 0 lcap (limbs a) b w3 hmu3 (limbs_lt a) hbp hbB (by omega)).mono ?_
        rintro e w4 ⟨rfl, hm4, hg4⟩
        obtain ⟨hq, hr⟩ := divL_eq (limbs a) b hbp
        have hr9 := divL_rest (limbs a) b hbp
        have hdlt := divL_lt (limbs a) b (limbs_lt _) hbp (Nat.le_of_lt hbB)
        have hdln := divL_length (limbs a) b
        rw [val_limbs] at hq hr
        generalize (divL (limbs a) b).1 = ys at *
        generalize (divL (limbs a) b).2 = r at *
        have hbr4 := hbr3.grown hg4 (by have := hbr2.lt; omega)
        have hbs4 := hbs3.grown hg4 (by have := hbs2.lt; omega)
        have hb24 : Below w2.heap.size w2 w4 := below_of_grown_of hb3 hg4 g1 hb3.size
        clear c5 hbc3 hmu3
        rw [← hdln] at g3 ⊢
        have hn4 := trim_nat (cap := lcap) hm4.cells g3 hdlt g4
        rw [hq] at hn4
        have HQ := Lib.hid hq
        have HR := Lib.hid hr
        have HL := Lib.hid hdln
        clear hq hr hdln
        go_wp2_with fail
        refine (trim_any (some ⟨lg, 0, none⟩) lcap ys w4 hm4.cells g3 g4 hdlt).mono ?_
        rintro e w5 ⟨rfl, hb5⟩
        rw [HQ.out]
        go_wp2_with fail
        refine (of_any r w5 (by omega)).mono ?_
        rintro e w6 ⟨rv, rfl, hn6, hb6⟩
        have hb46 := hb5.trans (hb6.mono hb5.size)
        have hbr6 := (hbr4.kept hb5).kept hb6
        have hbs6 := (hbs4.kept hb5).kept hb6
        have hq6 := hn4.below hb46
        obtain ⟨ro, rc, rfl, _, _, _, _⟩ := hn6.open
        have c3 := hbr6.cell
        have c4 := hbs6.cell
        have f3 := hbr6.free
        have f4 := hbs6.free
        go_wp2
        refine div_end (w9 := w6) rfl rfl rfl (by have := HZ.out; simp [this]) rfl hbr6 hbs6 hq6 (by rw [if_neg HZ.out, ← HR.out]; exact hn6) (hbel.trans ((hb02.trans ((hb24.trans (hb46.mono hb24.size)).mono hb02.size)).mono hbel.size))
      · obtain ⟨n2, hn2⟩ : ∃ n2, (limbs b).length = n2 + 1 + 1 := ⟨(limbs b).length - 2, by omega⟩
        have hne1 : ¬ (((limbs b).length : Nat) : Int) = 1 := by omega
        have HN2 := Lib.hid hn2
        clear hn2 hlt h1
        go_wp2_with fail
        refine (long_any _ _ a b (n2 + 1) n2 w2 (ha0.below hb02) (hb0.below hb02) HN2.out rfl hla hll).mono ?_
        rintro e w3 ⟨r, sx, rfl, hr, hsx, hb3⟩
        obtain ⟨ro, rc, rfl, _, _, _, _⟩ := hr.open
        obtain ⟨so, sc, rfl, _, _, _, _⟩ := hsx.open
        have hbr3 := hbr2.kept hb3
        have hbs3 := hbs2.kept hb3
        obtain ⟨w4, hw4⟩ : ∃ w4, w4 = (w3.alloc (.cells #[.slice ro (limbs (a / b)).length rc] 25)).alloc (.cells #[.slice so (limbs (a % b)).length sc] 25) := ⟨_, rfl⟩
        have hb4 : Below w3.heap.size w3 w4 := by rw [hw4]; exact ((Below.refl _ w3).alloc (Nat.le_refl _) _).alloc (by simp) _
        have hx9 : Box w4 w3.heap.size (.slice ro (limbs (a / b)).length rc) := by rw [hw4]; exact ⟨by go_simp, by go_simp, by simp <;> omega⟩
        have hx10 : Box w4 (w3.heap.size + 1) (.slice so (limbs (a % b)).length sc) := by rw [hw4]; exact ⟨by go_simp, by go_simp, by simp <;> omega⟩
        have hbr4 := hbr3.kept hb4
        have hbs4 := hbs3.kept hb4
        have hr4 := hr.below hb4
        have hs4 := hsx.below hb4
        have hb24 := hb3.trans (hb4.mono hb3.size)
        have HW4 := Lib.hid hw4
        clear hw4 c1 c2 c3 c4 f3 f4
        have c3 := hbr4.cell
        have c4 := hbs4.cell
        have f3 := hbr4.free
        have f4 := hbs4.free
        have c9 := hx9.cell
        have c10 := hx10.cell
        go_upto_region 10 with fail
        rw [← HW4.out]
        have hlt3 := hbs3.lt
        obtain ⟨q9, hq9⟩ : ∃ q, q = w3.heap.size := ⟨_, rfl⟩
        obtain ⟨q10, hq10⟩ : ∃ q, q = q9 + 1 := ⟨_, rfl⟩
        rw [← hq9] at c9 c10 hlt3 ⊢
        rw [← hq10] at c10 ⊢
        have x1 : ¬ (q10 = w.heap.size + 1 + 1) := by omega
        have x2 : ¬ (w.heap.size + 1 + 1 = q10) := by omega
        have x3 : ¬ (q9 = w.heap.size + 1 + 1 + 1) := by omega
        have x4 : ¬ (w.heap.size + 1 + 1 + 1 = q9) := by omega
        have x5 : ¬ (q9 = w.heap.size + 1 + 1) := by omega
        have x6 : ¬ (q10 = w.heap.size + 1 + 1 + 1) := by omega
        clear hq9 hq10
        go_region
        all_goals
          go_wp2
          have hdr : Below w4.heap.size w4 w4.drew := (Below.refl _ _).drew
          exact div_end (w9 := w4.drew) rfl rfl rfl (by have := HZ.out; simp [this]) rfl hbr4.drew hbs4.drew (hr4.below hdr) (by rw [if_neg HZ.out]; exact hs4.below hdr) (hbel.trans ((hb02.trans ((hb24.trans (hdr.mono hb24.size)).mono hb02.size)).mono hbel.size))
end Go.Proofs.YtegneoaoodddoaaDoor
