/-
  nat: walks (17): long.
-/
import Derived.Test.YtegneoaoodddoaaDoorNatR
import Derived.Test.YtegneoaoodddoaaDoorMathH
import Derived.Test.YtegneoaoodddoaaDoorNatL
import Derived.Test.YtegneoaoodddoaaDoorBitsC
namespace Go.Proofs.YtegneoaoodddoaaDoor
open Go.RowKit
set_option linter.unusedVariables false
set_option linter.unusedSimpArgs false
attribute [local go_sem] and_low field_nat

theorem lead32 {x : Nat} (h : x < 4294967296) : (32 - (Lib.bitLen (x : Int).toNat : Int)) = ((32 - blen x : Nat) : Int) := by
  rw [Int.toNat_natCast, bitLen_blen x (by omega)]
  have := blen_le (n := x) (k := 32) (by rw [show (2 : Nat) ^ 32 = 4294967296 by decide]; exact h)
  omega

theorem owns_some {base : Nat} {e : TypeId} {w : World} {v : Value} {us : List Nat} (h : Owns base e w v (ints .u32 us)) (hne : us ≠ []) : ∃ g cap, v = .slice (some ⟨g, 0, none⟩) us.length cap ∧ base ≤ g ∧ g < w.heap.size ∧ us.length ≤ cap ∧ cap ≤ maxLen := by
  rcases h.shape with ⟨_, h1⟩ | ⟨g, cap, h1, h2, h3, h4, h5, _⟩
  · exact (hne (by simpa [ints] using h1)).elim
  · rw [ints_length] at h1 h4
    exact ⟨g, cap, h1, h2, h3, h4, h5⟩

theorem below_of_grown_of {B : Nat} {w1 w2 w3 : World} {g : Nat} (h : Below B w1 w2) (hg : w2.grownBy w3 (some g)) (hB : B ≤ g) (h0 : B ≤ w2.heap.size) : Below B w1 w3 :=
  ⟨hg.os.trans h.os, hg.tape.trans h.tape, hg.output.trans h.output, Nat.le_trans h.size hg.size, fun k hk => by
    exact (hg.block k (by omega) (by simp; omega)).trans (h.block k hk)⟩

theorem shift_back (va : Value) (a s : Nat) (w : World) (ha : NatIs w va (a * 2 ^ s)) (hla : (limbs (a * 2 ^ s)).length ≤ 1000000) (hs : s ≤ 31) :
    Calls Tryd.prog 30 #[va, .int .i64 (-(s : Int))] w fun e w' => ∃ r, e = .returned r ∧ NatIs w' r a ∧ Below w.heap.size w w' := by
  rcases Nat.eq_zero_or_pos s with rfl | h0
  · have := shift_any va (a * 2 ^ 0) 0 w ha hla (by omega)
    simpa using this
  · have := shift_neg va (a * 2 ^ s) s w ha hla (by omega) h0
    rwa [Nat.mul_div_cancel _ (Nat.two_pow_pos s)] at this

theorem ret_nat_nat {fn : Func} {s t : Nat} {R : Ending → World → Prop} {a : Act} {w : World} {p q : Addr} {v u : Value} (hres : fn.results = #[.cell s 25, .cell t 25]) (hp : a.tmps.getD s undef = .pointer (some p)) (hq : a.tmps.getD t undef = .pointer (some q)) (hc : w.cell? p = some v) (hc2 : w.cell? q = some u) (hd : a.defers = [])
    (hR : R (.returned (.tuple #[.agg #[v], .agg #[u]])) w) : bodyPost Tryd.prog fn R .ret a w := by
  refine bodyPost_ret (v := .tuple #[.agg #[v], .agg #[u]]) ?_ hd hR
  have hp' : a.tmps[s]?.getD undef = .pointer (some p) := by simpa using hp
  have hq' : a.tmps[t]?.getD undef = .pointer (some q) := by simpa using hq
  simp only [results, hres]
  simp [Sem.run_bind, Sem.run_pure, Result.andThen, hp', hq', asAddr, load_nat hc, load_nat hc2]

def LongPost (w : World) (a b : Nat) (e : Ending) (w' : World) : Prop := ∃ r s, e = .returned (.tuple #[r, s]) ∧ NatIs w' r (a / b) ∧ NatIs w' s (a % b) ∧ Below w.heap.size w w'

set_option maxRecDepth 100000 in
set_option maxHeartbeats 2000000 in
theorem long_any (va vb : Value) (a b n1 n2 : Nat) (w : World) (ha : NatIs w va a) (hb : NatIs w vb b) (hl : (limbs b).length = n1 + 1) (hn : n1 = n2 + 1) (hla : (limbs a).length ≤ 1000000) (hle : (limbs b).length ≤ (limbs a).length) :
    Calls Tryd.prog 57 #[va, vb] w fun e w' => LongPost w a b e w' := by
  obtain ⟨ao, ca, rfl, ha1, ha2, ha3, ha4⟩ := ha.open
  obtain ⟨bo, cb, rfl, hb1, hb2, hb3, hb4⟩ := hb.open
  obtain ⟨w0, hw0⟩ : ∃ w0, w0 = (((w.alloc (.cells #[.slice ao (limbs a).length ca] 25)).alloc (.cells #[.slice bo (limbs b).length cb] 25)).alloc (.cells #[.slice none 0 0] 25)).alloc (.cells #[.slice none 0 0] 25) := ⟨_, rfl⟩
  have hbel : Below w.heap.size w w0 := by
    rw [hw0]; exact ((((Below.refl _ w).alloc (Nat.le_refl _) _).alloc (by simp <;> omega) _).alloc (by simp <;> omega) _).alloc (by simp <;> omega) _
  have hsz0 : w0.heap.size = w.heap.size + 4 := by rw [hw0]; simp
  have hba : Box w0 w.heap.size (.slice ao (limbs a).length ca) := by
    rw [hw0]; exact ⟨by go_simp, by go_simp, by simp <;> omega⟩
  have hbb : Box w0 (w.heap.size + 1) (.slice bo (limbs b).length cb) := by
    rw [hw0]; exact ⟨by go_simp, by go_simp, by simp <;> omega⟩
  have hbr : Box w0 (w.heap.size + 2) (.slice none 0 0) := by
    rw [hw0]; exact ⟨by go_simp, by go_simp, by simp <;> omega⟩
  have hbs : Box w0 (w.heap.size + 3) (.slice none 0 0) := by
    rw [hw0]; exact ⟨by go_simp, by go_simp, by simp <;> omega⟩
  have ha0 := ha.below hbel
  have hb0 := hb.below hbel
  have hcb := hb4.below hbel
  have HW := Lib.hid hw0; clear hw0
  obtain ⟨bb, boff, rfl, hbb1, hbc⟩ : ∃ bb boff, bo = some ⟨bb, boff, none⟩ ∧ bb < w0.heap.size ∧ ∀ i, i < (limbs b).length → w0.cell? ⟨bb, boff + i, none⟩ = some (.int .u32 (((limbs b)[i]?.getD 0 : Nat) : Int)) := by
    rcases hcb with h | ⟨bb, boff, h1, h2, h3⟩
    · rw [h] at hl; simp at hl
    · exact ⟨bb, boff, h1, h2, h3⟩
  have htop := hbc n1 (by omega)
  have htB := getD_lt (k := n1) (limbs_lt b) (by decide)
  have ht0 : 0 < (limbs b)[n1]?.getD 0 := by
    have h1 : limbs b ≠ [] := by intro h; rw [h] at hl; simp at hl
    have h2 := limbs_getLast b h1
    rw [List.getLast_eq_getElem] at h2
    rw [List.getElem?_eq_getElem (by omega)]
    simp only [Option.getD_some]
    have h3 : (limbs b).length - 1 = n1 := by omega
    simp only [h3] at h2
    omega
  obtain ⟨hnorm, hb32, hbp⟩ := normed hl ht0
  have HB := Lib.hid hbc
  generalize (limbs b)[n1]?.getD 0 = T at *
  have e1 := hba.cell
  have e2 := hbb.cell
  have k1 : (((limbs b).length : Nat) : Int) - 1 = (n1 : Int) := by omega
  have k2 : (n1 : Int).toNat = n1 := by omega
  have k3 : (0 : Int) ≤ (n1 : Int) := by omega
  have k4 : (n1 : Int) < ((limbs b).length : Int) := by omega
  have k5 : IntKind.i64.wrap (n1 : Int) = (n1 : Int) := IntWalk.i64_in _ (by omega)
  have HL := Lib.hid hl
  have HN := Lib.hid hn
  clear hl hn hbc
  go_enter Tryd.func57, Tryd.ntmps57
  go_upto_region 1 with fail
  rw [← HW.out]
  go_wp2_with fail
  refine (Tryd.bits_LeadingZeros32 (T : Int) w0 (by omega) (by omega)).mono ?_
  rintro e w' ⟨rfl, rfl⟩
  rw [lead32 htB]
  obtain ⟨s, hs⟩ : ∃ s, s = 32 - blen T := ⟨_, rfl⟩
  rw [← hs] at hnorm ⊢
  have hs31 : s ≤ 31 := by omega
  clear hs hb32 hbp
  go_wp2_with fail
  refine (shift_any _ b s w' hb0 (by omega) (by omega)).mono ?_
  rintro e w1 ⟨r, rfl, hnv, hb1⟩
  obtain ⟨vs, hvs⟩ : ∃ vs, vs = limbs (b * 2 ^ s) := ⟨_, rfl⟩
  have hvl : vs.length = n1 + 1 := by rw [hvs]; exact hnorm.len
  have hvlt : ∀ x ∈ vs, x < 4294967296 := by rw [hvs]; exact limbs_lt _
  have hvval : val vs = b * 2 ^ s := by rw [hvs]; exact val_limbs _
  have hvtop : 2147483648 ≤ vs[n1]?.getD 0 := by rw [hvs]; exact hnorm.top
  have hvbig := hnorm.big
  obtain ⟨vo, cv, rfl, hv1, hv2, hv3, hv4⟩ := hnv.open
  rw [← hvs] at hv1 hv4 ⊢
  obtain ⟨vg, voff, rfl, hvg, hvc⟩ : ∃ vg voff, vo = some ⟨vg, voff, none⟩ ∧ vg < w1.heap.size ∧ ∀ i, i < vs.length → w1.cell? ⟨vg, voff + i, none⟩ = some (.int .u32 ((vs[i]?.getD 0 : Nat) : Int)) := by
    rcases hv4 with h | ⟨vg, voff, h1, h2, h3⟩
    · rw [h] at hvl; simp at hvl
    · exact ⟨vg, voff, h1, h2, h3⟩
  have HVC := Lib.hid hvc
  have HVL := Lib.hid hvl
  have HVV := Lib.hid hvval
  have HVS := Lib.hid hvs
  clear hnorm hvs hnv hvc hvl hvval hv4 e1 e2
  have hba1 := hba.kept hb1
  have e1 := hba1.cell
  go_wp2_with fail
  refine (shift_any _ a s w1 (ha0.below hb1) hla (by omega)).mono ?_
  rintro e w2 ⟨r, rfl, hnu, hb2'⟩
  obtain ⟨us0, hus0⟩ : ∃ us, us = limbs (a * 2 ^ s) := ⟨_, rfl⟩
  have huval : val us0 = a * 2 ^ s := by rw [hus0]; exact val_limbs _
  have hult : ∀ x ∈ us0, x < 4294967296 := by rw [hus0]; exact limbs_lt _
  have hulen : us0.length ≤ 1000001 := by
    rw [hus0]
    refine Nat.le_trans (limbs_length_le (k := (limbs a).length + 1) ?_) (by omega)
    have h1 := val_lt (limbs a) (limbs_lt a)
    rw [val_limbs] at h1
    rw [Nat.pow_succ]
    have h2 : (2 : Nat) ^ s ≤ 4294967296 := Nat.le_trans (Nat.pow_le_pow_right (by decide) hs31) (by decide)
    exact Nat.lt_of_lt_of_le (Nat.mul_lt_mul_of_pos_right h1 (Nat.two_pow_pos s)) (Nat.mul_le_mul_left _ h2)
  obtain ⟨uo, cu, rfl, hu1, hu2, hu3, hu4⟩ := hnu.open
  rw [← hus0] at hu1 hu4 ⊢
  have HUV := Lib.hid huval
  clear hus0 hnu huval e1
  have hba2 := hba1.kept hb2'
  have e1 := hba2.cell
  go_wp2_with fail
  refine (clone_any uo cu us0 w2 hu4 hu1 hu2 hu3 (by omega)).mono ?_
  rintro e w3 ⟨u3, rfl, ho3, hb3⟩
  have hba3 := hba2.kept hb3
  clear e1
  go_wp2_with fail
  go_loopg [8] ((limbs a).length + 1 - us0.length) (fun gg uv wr => ∃ (us : List Nat) (ug ucap : Nat), gg = (limbs a).length + 1 - us.length ∧ uv = .slice (some ⟨ug, 0, none⟩) us.length ucap ∧ us ≠ [] ∧ w2.heap.size ≤ ug ∧ ug < wr.heap.size ∧ us.length ≤ ucap ∧ ucap ≤ maxLen ∧ Owns w2.heap.size 73 wr (.slice (some ⟨ug, 0, none⟩) us.length ucap) (ints .u32 us) ∧ val us = a * 2 ^ s ∧ (∀ x ∈ us, x < 4294967296) ∧ us.length ≤ 1000001 ∧ Below w2.heap.size w2 wr)
  case atStart =>
    have hune : us0 ≠ [] := by
      intro h
      have h1 := HUV.out
      rw [h] at h1
      have h2 : a = 0 := by
        rcases Nat.eq_zero_or_pos a with h3 | h3
        · exact h3
        · have := Nat.mul_pos h3 (Nat.two_pow_pos s)
          rw [← h1] at this; simp [val] at this
      have h3 : (limbs a).length = 0 := by rw [h2, limbs_zero]; rfl
      have := HL.out
      omega
    obtain ⟨ug, ucap, rfl, g1, g2, g3, g4⟩ := owns_some ho3 hune
    exact ⟨us0, ug, ucap, rfl, rfl, hune, g1, g2, g3, g4, ho3, HUV.out, hult, hulen, hb3⟩
  case round =>
    obtain ⟨us, ug, ucap, rfl, rfl, hune, hug, hugw, huc1, huc2, hou, huv, hult2, hul2, hbu⟩ := hrel
    have hbar := hba2.kept hbu
    have e1 := hbar.cell
    have HUV2 := Lib.hid huv
    clear huv
    have hsz2 : w2.heap.size ≤ wr.heap.size := hbu.size
    by_cases hlen : us.length ≤ (limbs a).length
    · go_wp2_with (at_builtin; refine append1 E32 hou rfl rfl rfl rfl rfl (by rw [ints_length]; omega) (by rw [ints_length]; unfold maxLen; omega) hsz2 ?_; intro v' w5 ho5 hb5 hg5)
      have ho6 : Owns w2.heap.size 73 w5 v' (ints .u32 (us ++ [0])) := by rw [ints_append]; exact ho5
      obtain ⟨ug', ucap', rfl, g1, g2, g3, g4⟩ := owns_some ho6 (by simp)
      have hl1 : (us ++ [0]).length = us.length + 1 := by simp
      go_roundg ((limbs a).length + 1 - (us.length + 1))
      case measure => omega
      case rel =>
        refine ⟨us ++ [0], ug', ucap', by rw [hl1], rfl, by simp, g1, g2, g3, g4, ho6, by rw [val_snoc_zero]; exact HUV2.out, ?_, by rw [hl1]; omega, hbu.trans hb5⟩
        intro x hx
        rcases List.mem_append.1 hx with h | h
        · exact hult2 x h
        · simp at h; omega
    · have hmu := hou.mut
      obtain ⟨K, hK⟩ : ∃ K, us.length = K + vs.length := ⟨us.length - vs.length, by have := HVL.out; have := HL.out; omega⟩
      have hK1 : 0 < K := by have := HVL.out; have := HL.out; omega
      have kk : ((us.length : Nat) : Int) - ((vs.length : Nat) : Int) = (K : Int) := by omega
      have hlong := LongInv.start (V := b * 2 ^ s) (N := a * 2 ^ s) (n1 := n1) (s := s) (a := a) (L := us.length) HUV2.out hult2 rfl (by have := HVL.out; omega) hvbig hs31 (by
        have h1 := val_lt (limbs a) (limbs_lt a)
        rw [val_limbs] at h1
        exact Nat.lt_of_lt_of_le h1 (Nat.pow_le_pow_right (by decide) (by omega))) rfl
      rw [show us.length - (n1 + 1) = K by have := HVL.out; omega] at hlong
      have HK := Lib.hid hK
      have HLI := Lib.hid hlong
      have hul3 : us.length ≤ 1000001 := hul2
      have hKle : K ≤ 1000001 := by omega
      clear hK hlong
      go_wp2_with (at_make; refine makeN E32 (n := K) rfl rfl rfl rfl (by omega) (by unfold maxLen; omega) ?_; intro w6 hq6 hb6)
      have hmq := hq6.mut
      have hmu6 := hmu.below hb6 hugw
      have hb26 : Below w2.heap.size w2 w6 := hbu.trans (hb6.mono hbu.size)
      obtain ⟨qg, hqge⟩ : ∃ q, q = wr.heap.size := ⟨_, rfl⟩
      rw [← hqge] at hmq hugw hsz2 ⊢
      have hqg : qg < w6.heap.size := hmq.lt
      have hvg2 : vg < w2.heap.size := Nat.lt_of_lt_of_le hvg hb2'.size
      clear hqge hq6 hb6 hmu hou
      rw [HVL.out]
      go_loopg [10] K (fun gg jv wx => ∃ (us2 qs : List Nat), jv = .int .i64 ((gg : Int) - 1) ∧ gg ≤ K ∧ LongInv (b * 2 ^ s) (a * 2 ^ s) (n1 + 1) gg us2 qs ∧ us2.length = us.length ∧ qs.length = K ∧ Mut .u32 wx ug 0 us2 ∧ Mut .u32 wx qg 0 qs ∧ Below w2.heap.size w2 wx ∧ w6.heap.size ≤ wx.heap.size)
      case atStart => exact ⟨us, List.replicate K 0, rfl, Nat.le_refl _, HLI.out, rfl, by simp, hmu6, hmq, hb26, Nat.le_refl _⟩
      case round =>
        obtain ⟨us2, qs, rfl, hgK, hinv, hu2l, hql, hmu7, hmq7, hb7, hsz7⟩ := hrel
        by_cases hg0 : gk = 0
        · subst hg0
          obtain ⟨d1, d2⟩ := hinv.done
          rw [Nat.mul_div_mul_right _ _ (Nat.two_pow_pos s)] at d1
          rw [Nat.mul_mod_mul_right] at d2
          have hqlt := hinv.qlt
          have hult9 := hinv.ult
          have ht1 := trim_any (some ⟨qg, 0, none⟩) K qs wr hmq7.cells (by omega) (by unfold maxLen; omega) hqlt
          have hn1 := fun W (hW : Below wr.heap.size wr W) => trim_nat (w' := W) (cap := K) (hmq7.cells.below hW) (by omega) hqlt (by unfold maxLen; omega)
          have hn2 := fun W (hW : Below wr.heap.size wr W) => trim_nat (w' := W) (cap := ucap) (hmu7.cells.below hW) (by omega) hult9 huc2
          have ht2 := fun W (hW : Below wr.heap.size wr W) => trim_any (some ⟨ug, 0, none⟩) ucap us2 W (hmu7.cells.below hW) (by omega) huc2 hult9
          rw [hql] at ht1
          rw [hu2l] at ht2
          rw [d1] at hn1 ht1
          rw [d2] at hn2 ht2
          have HT2 := Lib.hid ht2
          have HN1 := Lib.hid hn1
          have HN2 := Lib.hid hn2
          have hbr7 := ((hbr.kept hb1).kept hb2').kept hb7
          have hbs7 := ((hbs.kept hb1).kept hb2').kept hb7
          clear hinv d1 d2 hql hu2l ht2 hn1 hn2 e1 kk
          go_wp2_with fail
          refine ht1.mono ?_
          rintro e w7 ⟨rfl, hb7t⟩
          go_wp2_with fail
          refine (HT2.out w7 hb7t).mono ?_
          rintro e w8 ⟨rfl, hb8⟩
          have hb78 := hb7t.trans (hb8.mono hb7t.size)
          have hlm : (limbs (a % b * 2 ^ s)).length ≤ 1000000 := by
            have h1 : 0 < b := by
              rcases Nat.eq_zero_or_pos b with h2 | h2
              · have := HL.out; rw [h2, limbs_zero] at this; simp at this
              · exact h2
            have h3 := limbs_length_mono (Nat.mul_le_mul_right (2 ^ s) (Nat.le_of_lt (Nat.mod_lt a h1)))
            have h4 := HVS.out
            have h5 := HVL.out
            have h6 := HL.out
            rw [← h4] at h3
            omega
          have hneg : IntKind.i64.wrap (-(s : Int)) = -(s : Int) := IntWalk.i64_in _ (by omega)
          go_wp2_with fail
          refine (shift_back _ (a % b) s w8 (HN2.out w8 hb78) hlm hs31).mono ?_
          rintro e w9 ⟨r, rfl, hn9, hb9⟩
          have hb79 := hb78.trans (hb9.mono hb78.size)
          have hnq := HN1.out w9 hb79
          obtain ⟨ro, rc, rfl, _, _, _, _⟩ := hn9.open
          have hbr9 := ((hbr7.kept hb7t).kept hb8).kept hb9
          have hbs9 := ((hbs7.kept hb7t).kept hb8).kept hb9
          have c1 := hbr9.cell
          have c2 := hbs9.cell
          have f1 := hbr9.free
          have f2 := hbs9.free
          have hB9 : Below w.heap.size w w9 := hbel.trans ((hb1.trans ((hb2'.trans ((hb7.trans (hb79.mono hb7.size)).mono hb2'.size)).mono hb1.size)).mono hbel.size)
          clear hmu7 hmq7
          go_wp2
          refine ret_nat_nat rfl rfl rfl (World.cell?_of_block (a := ⟨w.heap.size + 2, 0, none⟩) ((grownBy_set (grownBy_refl _ (some (w.heap.size + 3))) 0 _).block _ (by simp; exact hbr9.lt) (by simp)) |>.trans (cell_set c1)) (cell_set (((hbs9.setOther (by omega) 0 _)).cell)) rfl ⟨_, _, rfl, ?_, ?_, ?_⟩
          · exact (hnq.set _ _ (fun n e => by rw [c1] at e; cases e)).set _ _ (fun n e => by rw [(hbs9.setOther (by omega) 0 _).cell] at e; cases e)
          · exact (hn9.set _ _ (fun n e => by rw [c1] at e; cases e)).set _ _ (fun n e => by rw [(hbs9.setOther (by omega) 0 _).cell] at e; cases e)
          · exact (hB9.setCell (p := ⟨w.heap.size + 2, 0, none⟩) (by simp) _).setCell (p := ⟨w.heap.size + 3, 0, none⟩) (by simp) _
        · obtain ⟨j, rfl⟩ : ∃ j, gk = j + 1 := ⟨gk - 1, by omega⟩
          have ej : ((j + 1 : Nat) : Int) - 1 = (j : Int) := by omega
          rw [ej]
          obtain ⟨hgi, hz⟩ := hinv.guess HN.out HVV.out HVL.out hvlt hvtop (by rw [hu2l]; have := HK.out; have := HVL.out; omega)
          have hA : (us2.take j).length = j := by rw [List.length_take, Nat.min_eq_left (by omega)]
          have hsplit : us2 = us2.take j ++ (us2.drop j).take (n1 + 2) ++ us2.drop (j + (n1 + 2)) := by
            rw [List.append_assoc, ← List.drop_drop, List.take_append_drop, List.take_append_drop]
          have hvw : ∀ i, i < vs.length → wr.cell? ⟨vg, voff + i, none⟩ = some (.int .u32 ((vs[i]?.getD 0 : Nat) : Int)) := fun i hi =>
            ((hb7.cell (p := ⟨vg, voff + i, none⟩) hvg2).trans (hb2'.cell (p := ⟨vg, voff + i, none⟩) hvg)).trans (HVC.out i hi)
          have hmu8 := hmu7
          rw [hsplit] at hmu8
          have hstep := fun cu' => step_any ug cu' vg voff cv (n1 + 1) n1 n2 (us2.take j) ((us2.drop j).take (n1 + 2)) (us2.drop (j + (n1 + 2))) vs wr rfl HN.out hgi (by have := HL.out; omega) (by rw [hA]; omega) (by omega) hmu8 hvw
          rw [hA] at hstep
          have HSP := Lib.hid hsplit
          have HSTEP := Lib.hid hstep
          have HA := Lib.hid hA
          have HINV := Lib.hid hinv
          have hjl : j < qs.length := by omega
          have hqc := hmq7.cell j hjl
          have hqf := hmq7.free j hjl
          rw [Nat.zero_add] at hqc hqf
          have HQL := Lib.hid hql
          have HU2 := Lib.hid hu2l
          have hcap1 : j + (n1 + 1) + 1 ≤ ucap := by have := HK.out; have := HVL.out; omega
          have hcap2 : (j : Int) + ((n1 : Int) + 1) + 1 ≤ (ucap : Int) := by omega
          have hlen9 : j + (n1 + 1) + 1 - j = n1 + 1 + 1 := by omega
          have hHL : Hid (j + (n1 + 1) + 1 - j = n1 + 1 + 1) := Lib.hid hlen9
          clear hsplit hstep hA hinv hmu8 ej hvw e1 kk hql hu2l hlen9
          go_wp2_with fail
          rw [hHL.out]
          refine (HSTEP.out _).mono ?_
          rintro e w7 ⟨rfl, ws, hwl, hwlt, hwv, hmw, hgr⟩
          have hqc7 := (World.cell?_of_block (a := ⟨qg, j, none⟩) (hgr.block qg (Nat.lt_of_lt_of_le hqg hsz7) (by simp; omega))).trans hqc
          have hqf7 := (World.frozen?_of_block (a := ⟨qg, j, none⟩) (hgr.block qg (Nat.lt_of_lt_of_le hqg hsz7) (by simp; omega))).trans hqf
          have hmq8 := hmq7.kept (hgr.block qg (Nat.lt_of_lt_of_le hqg hsz7) (by simp; omega)) hgr.size
          have hVpos := hgi.pos
          have hQlt := hgi.lt
          rw [HVV.out] at hwv hQlt hVpos ⊢
          generalize hDe : val ((us2.drop j).take (n1 + 2)) / (b * 2 ^ s) = D at *
          have hnext := HINV.out.next hVpos (by have := HK.out; have := HU2.out; have := HVL.out; omega) hjl hz (by rw [hwl]; exact hgi.ul.trans (by have := HN.out; omega)) hwlt hwv (by rw [hDe]; exact hQlt)
          rw [hDe] at hnext
          have HNX := Lib.hid hnext
          have hms := hmq8.set j D hjl
          rw [Nat.zero_add] at hms
          have HMS := Lib.hid hms
          clear hnext hms hDe
          go_wp2_with fail
          go_roundg j
          case measure => omega
          case rel =>
            refine ⟨_, _, by go_num, by omega, HNX.out, ?_, by rw [List.length_set]; exact HQL.out, ?_, HMS.out, ?_, ?_⟩
            · have h1 : ws.length = n1 + 2 := by rw [hwl]; exact hgi.ul.trans (by have := HN.out; omega)
              rw [List.length_append, List.length_append, HA.out, h1, List.length_drop, HU2.out]
              have := HK.out; have := HVL.out; omega
            · exact hmw.kept ((grownBy_set (grownBy_refl w7 (some qg)) j _).block ug hmw.lt (by simp; omega)) (by simp)
            · exact (below_of_grown_of hb7 hgr hug hb7.size).setCell (p := ⟨qg, j, none⟩) (by simpa using hsz2) _
            · have := hgr.size; simp; omega
end Go.Proofs.YtegneoaoodddoaaDoor
