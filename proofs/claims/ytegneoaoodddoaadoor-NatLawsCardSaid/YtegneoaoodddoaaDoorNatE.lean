/-
  nat: walks (5): Text, Digits.
-/
import Derived.Test.YtegneoaoodddoaaDoorNatD
import Derived.Deep.LoopGhost
namespace Go.Proofs.YtegneoaoodddoaaDoor
open Go.RowKit
set_option linter.unusedVariables false
set_option linter.unusedSimpArgs false
attribute [local go_sem] and_low field_nat

theorem Tryd.info5 : (Tryd.prog.info? 5).map (fun i => (i.zero, i.size, i.bytes)) = some (some (.int .u8 0), 1, 1) := by kernel_rfl
theorem E8 : Elem Tryd.prog 30 5 (.int .u8 0) 1 := elem_of Tryd.underlying30 Tryd.info5 rfl

def codes (ds : List Nat) : List Nat := ds.map (48 + ·)
theorem codes_append (a b : List Nat) : codes (a ++ b) = codes a ++ codes b := by simp [codes]
theorem codes_length (a : List Nat) : (codes a).length = a.length := by simp [codes]

theorem str_dropWhile (xs : List Nat) (h : ∀ x ∈ xs, x < 256) : (str xs).dropWhile (· == 48) = str (xs.dropWhile (· == 48)) := by
  induction xs with
  | nil => rfl
  | cons x xs ih =>
    have hx := h x (by simp)
    have ih' := ih (fun y hy => h y (by simp [hy]))
    have e : (UInt8.ofNat x == 48) = (x == 48) := by
      rw [Bool.eq_iff_iff, beq_iff_eq, beq_iff_eq, ← UInt8.toNat_inj]
      simp; omega
    by_cases h48 : (x == 48) = true
    · simp only [str, List.map_cons, List.dropWhile, e, h48] at ih' ⊢
      exact ih'
    · have h48' : (x == 48) = false := by simpa using h48
      simp only [str, List.map_cons, List.dropWhile, e, h48']

/-- The inner loop's step. -/
theorem div_pow_step (r k : Nat) : r / 10 ^ k / 10 = r / 10 ^ (k + 1) := by rw [Nat.div_div_eq_div_mul, Nat.pow_succ]

set_option maxRecDepth 100000 in
set_option maxHeartbeats 1000000 in
theorem text_any (v : Value) (n : Nat) (w : World) (h : NatIs w v n) (hl : (limbs n).length ≤ 100000) :
    Calls Tryd.prog 13 #[v] w fun e w' => e = .returned (.string ⟨(str (dec n)).toArray⟩) ∧ Below w.heap.size w w' := by
  obtain ⟨ao, cap, rfl, h1, h2, h3, h4⟩ := h.open
  have hz := zero_any _ n (w.alloc (.cells #[.slice ao (limbs n).length cap] 25)) (h.below ((Below.refl _ _).alloc (Nat.le_refl _) _))
  by_cases hn : n = 0
  · subst hn
    have hd : decide ((0 : Nat) = 0) = true := rfl
    rw [hd] at hz
    have HZ := Lib.hid hz; clear hz hd
    go_enter Tryd.func13, Tryd.ntmps13
    go_wp2_with fail
    refine HZ.out.mono ?_
    rintro e w1 ⟨rfl, hb1⟩
    go_wp2
    go_ret
    exact ⟨rfl, ((Below.refl _ w).alloc (Nat.le_refl _) _).trans (hb1.mono (by simp <;> omega))⟩
  · have hd : decide (n = 0) = false := by simp [hn]
    rw [hd] at hz
    have HZ := Lib.hid hz; clear hz hd
    go_enter Tryd.func13, Tryd.ntmps13
    go_wp2_with fail
    refine HZ.out.mono ?_
    rintro e w1 ⟨rfl, hb1⟩
    have hbox : w1.cell? ⟨w.heap.size, 0, none⟩ = some (.slice ao (limbs n).length cap) := by rw [(bcell hb1).1 _ _ (by simp <;> omega)]; go_simp
    have hb0 : Below w.heap.size w w1 := ((Below.refl _ w).alloc (Nat.le_refl _) _).trans (hb1.mono (by simp <;> omega))
    have hc1 := h4.below hb0
    have hs1 := hb0.size
    clear HZ
    go_wp2_with fail
    refine (clone_any ao cap (limbs n) w1 hc1 h1 (by simpa [maxLen] using h2) h3 (by omega)).mono ?_
    rintro e w2 ⟨lv, rfl, ho, hb2⟩
    rcases ho.shape with ⟨_, hnil⟩ | ⟨g, cap2, rfl, hg, hgw, hcap2, hcapm2, _, _⟩
    · have : limbs n = [] := by simpa [ints] using hnil
      rw [limbs_eq_nil] at this
      exact absurd this hn
    rw [ints_length] at hcap2 ho ⊢
    have hmut := ho.mut
    have hlim := Lib.hid (lt_pow_limbs n)
    have hb02 : Below w.heap.size w w2 := hb0.trans (hb2.mono hs1)
    have hgB : w.heap.size ≤ g := by omega
    have hcapm3 : cap2 ≤ 9223372036854775807 := by unfold maxLen at hcapm2; omega
    clear hbox hc1 ho hb0 hb1 hb2 h4 h3 hs1 hcapm2 hg
    go_wp2
    go_loopg [3, 4] n (fun q ov lv wr => ∃ (cap : Nat) (ds : List Nat), lv = .slice (some ⟨g, 0, none⟩) (limbs q).length cap ∧ (limbs q).length ≤ cap ∧ cap ≤ 9223372036854775807 ∧ (limbs q).length ≤ 100000 ∧ Mut .u32 wr g 0 (limbs q) ∧
      Owns w2.heap.size 5 wr ov (ints .u8 (codes ds)) ∧ (∀ x ∈ ds, x < 10) ∧ ds.length ≤ 3200009 ∧ n = dval ds + 10 ^ ds.length * q ∧ Below w.heap.size w wr ∧ w2.heap.size ≤ wr.heap.size)
    case atStart => exact ⟨cap2, [], rfl, hcap2, hcapm3, hl, hmut, Owns.nil _ _ _, by simp, by simp, by simp [dval], hb02, Nat.le_refl _⟩
    case round =>
      obtain ⟨cap, ds, rfl, hcp, hcm, hll, hm, ho, hds, hdl, hval, hb, hsz⟩ := hrel
      have HV := Lib.hid hval; clear hval
      have HD := Lib.hid hds; clear hds
      rcases Nat.eq_zero_or_pos gk with rfl | hpos
      · have e0 : (limbs 0).length = 0 := by rw [limbs_zero]; rfl
        rw [e0]
        clear hm hmut hcp hll e0
        go_wp2_with fail
        refine (reverse_any w2.heap.size _ (codes ds) wr ho (by rw [codes_length]; omega) hsz).mono ?_
        rintro e w3 ⟨rfl, ho3, hb3⟩
        obtain ⟨ao3, cap3, rfl, hcap3, hcapm3, hnil3, hc3⟩ := ho3.toInts
        have hcv := conv_string (P := Tryd.prog) Tryd.underlying30 Tryd.underlying5 Tryd.underlying9 hc3 cap3
        have hlen3 : (codes ds).reverse.length ≤ 1000000000 := by rw [List.length_reverse, codes_length]; omega
        have hfin := dec_of_digits HV.out HD.out (by omega)
        have hlt3 : ∀ x ∈ (codes ds).reverse, x < 256 := by
          intro x hx
          simp only [List.mem_reverse, codes, List.mem_map] at hx
          obtain ⟨y, hy, rfl⟩ := hx
          have := HD.out y hy
          omega
        have hfin2 : ((codes ds).reverse).dropWhile (· == 48) = dec n := by
          rw [← hfin]; simp [codes, List.map_reverse]
        have hfin3 := str_dropWhile _ hlt3
        rw [hfin2] at hfin3
        have HF := Lib.hid hfin3
        clear hfin hfin2 hfin3 hlt3
        generalize (codes ds).reverse = rs at *
        have hsl : (str rs).length ≤ 1000000000 := by simpa [str] using hlen3
        generalize hrl : rs.length = rl at *
        have HR := Lib.hid hrl; clear hrl
        go_wp2_with fail
        refine (trimLeft0_any (str rs) w3 hsl).mono ?_
        rintro e w4 ⟨rfl, rfl⟩
        go_wp2
        go_ret
        exact ⟨ret_one (congrArg (fun l : List UInt8 => Value.string ⟨l.toArray⟩) HF.out), hb.trans (hb3.mono hb02.size)⟩
      · have hlp : 0 < (limbs gk).length := by
          cases hlg : limbs gk with
          | nil => rw [limbs_eq_nil] at hlg; omega
          | cons _ _ => simp
        obtain ⟨q, hq0⟩ : ∃ q, q = gk := ⟨_, rfl⟩
        subst hq0
        go_wp2_with fail
        have hll2 : (limbs q).length ≤ 1000000000 := by omega
        refine (less_any g 0 cap (limbs q) 1000000000 wr hm (limbs_lt _) (by decide) (by decide) hll2).mono ?_
        rintro e w3 ⟨rfl, hm3, hg3⟩
        obtain ⟨hq, hr⟩ := divL_eq (limbs q) 1000000000 (by decide)
        have hr9 := divL_rest (limbs q) 1000000000 (by decide)
        have hdlt := divL_lt (limbs q) 1000000000 (limbs_lt _) (by decide) (by decide)
        have hdln := divL_length (limbs q) 1000000000
        rw [val_limbs] at hq hr
        generalize (divL (limbs q) 1000000000).1 = ys at *
        generalize (divL (limbs q) 1000000000).2 = r at *
        have hgw3 : g < wr.heap.size := hm.lt
        have ho3 := ho.other hg3 hgw
        have hb3 := hb.trans (below_of_grown hg3 hgB hgw3)
        have hsz3 := Nat.le_trans hsz hg3.size
        have hdl2 := pow_le_bound HV.out hpos hlim.out
        have hdl3 : ds.length ≤ 3200000 := by omega
        have HQ := Lib.hid hq; clear hq
        have HR := Lib.hid hr; clear hr
        have HDN := Lib.hid hdln; clear hdln
        clear ho hb hsz hg3 hdl2 hm hmut
        go_wp2
        go_loopg [3, 5, 19] 9 (fun c ov rv cv wr => ∃ k : Nat, k + c = 9 ∧ cv = .int .i64 k ∧ rv = .int .u32 (r / 10 ^ k : Nat) ∧ Owns w2.heap.size 5 wr ov (ints .u8 (codes (ds ++ digsK k r))) ∧ Mut .u32 wr g 0 ys ∧ Below w.heap.size w wr ∧ w2.heap.size ≤ wr.heap.size)
        case atStart => exact ⟨0, rfl, rfl, by simp, by simpa [digsK] using ho3, hm3, hb3, hsz3⟩
        case round =>
          obtain ⟨k, hk, rfl, rfl, ho4, hm4, hb4, hsz4⟩ := hrel
          have hlk : (codes (ds ++ digsK k r)).length = ds.length + k := by rw [codes_length, List.length_append, digsK_length]
          have hx : r / 10 ^ k < 4294967296 := Nat.lt_of_le_of_lt (Nat.div_le_self _ _) (by omega)
          have hstep := Lib.hid (div_pow_step r k)
          by_cases hk9 : k = 9
          · subst hk9
            rw [← HDN.out]
            have hyl : ys.length ≤ cap := by rw [HDN.out]; exact hcp
            have hyl2 : ys.length ≤ 100000 := by rw [HDN.out]; exact hll
            go_wp2_with fail
            refine (trim_any (some ⟨g, 0, none⟩) cap ys wr hm4.cells hyl (by unfold maxLen; omega) hdlt).mono ?_
            rintro e w6 ⟨rfl, hb6⟩
            obtain ⟨kk, hkk, hpre⟩ := limbs_prefix ys hdlt
            have hm6 : Mut .u32 w6 g 0 (limbs (val ys)) := by rw [hpre]; exact (hm4.below hb6 hm4.lt).take kk
            have hlv := val_limbs_length_le ys hdlt
            have ho6 := ho4.kept hb6
            have hb7 := hb4.trans (hb6.mono (Nat.le_trans hb02.size hsz4))
            have hsz6 := Nat.le_trans hsz4 hb6.size
            have hds : ∀ x ∈ ds ++ digsK 9 r, x < 10 := by
              intro x hx
              rcases List.mem_append.1 hx with h | h
              · exact HD.out x h
              · exact digsK_lt 9 r x h
            have hvn := dval_step HV.out
            rw [← HR.out] at hvn
            have HVN := Lib.hid hvn
            have HDS := Lib.hid hds
            clear hvn hds hpre hm4 ho4 hb4 hsz4
            rw [HQ.out] at hm6 hlv ⊢
            go_wp2
            go_roundg (q / 1000000000)
            case measure => omega
            case rel => exact ⟨_, ds ++ digsK 9 r, rfl, Nat.le_refl _, by omega, by omega, hm6, ho6, HDS.out, by rw [List.length_append, digsK_length]; omega, HVN.out, hb7, hsz6⟩
          · have hlk2 := ints_length .u8 (codes (ds ++ digsK k r))
            have HK : Hid (digsK (k + 1) r = digsK k r ++ [r / 10 ^ k % 10]) := rfl
            generalize r / 10 ^ k = x at *
            have hk9' : k < 9 := by omega
            go_wp2_with (at_builtin; refine append1 E8 ho4 rfl rfl rfl rfl rfl (by rw [hlk2, hlk]; omega) (by rw [hlk2, hlk]; unfold maxLen; omega) hsz4 ?_; intro v' w5 ho5 hb5 hg5)
            have hon : ints .u8 (codes (ds ++ digsK (k + 1) r)) = ints .u8 (codes (ds ++ digsK k r)) ++ [.int .u8 (48 + (x : Int) % 10)] := by
              rw [HK.out, ← List.append_assoc, codes_append, ints_append]; simp [codes, ints]
            go_roundg (gk - 1)
            case measure => omega
            case rel => exact ⟨k + 1, by omega, by go_num, by rw [← hstep.out]; go_num, by rw [hon]; exact ho5, hm4.below hb5 hgw, hb4.trans (hb5.mono hb02.size), Nat.le_trans hsz4 hb5.size⟩

set_option maxRecDepth 100000 in
theorem digits_any (v : Value) (n : Nat) (w : World) (h : NatIs w v n) (hl : (limbs n).length ≤ 100000) :
    Calls Tryd.prog 14 #[v] w fun e w' => e = .returned (.int .i64 ((dec n).length : Nat)) ∧ Below w.heap.size w w' := by
  have hlen : (str (dec n)).length = (dec n).length := by simp [str]
  obtain ⟨ao, cap, rfl, h1, h2, h3, h4⟩ := h.open
  have ht := text_any _ n (w.alloc (.cells #[.slice ao (limbs n).length cap] 25)) (h.below ((Below.refl _ _).alloc (Nat.le_refl _) _)) hl
  have HT := Lib.hid ht; clear ht
  go_enter Tryd.func14, Tryd.ntmps14
  go_wp2_with fail
  refine HT.out.mono ?_
  rintro e w1 ⟨rfl, hb1⟩
  have HL := Lib.hid hlen; clear hlen
  generalize str (dec n) = s at *
  go_wp2
  go_ret
  exact ⟨ret_one (congrArg (fun m : Nat => Value.int .i64 m) HL.out), ((Below.refl _ w).alloc (Nat.le_refl _) _).trans (hb1.mono (by simp <;> omega))⟩
end Go.Proofs.YtegneoaoodddoaaDoor
