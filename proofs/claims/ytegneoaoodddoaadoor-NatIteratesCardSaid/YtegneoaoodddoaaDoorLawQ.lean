/-
  NatIterates: the walk.
-/
import Derived.Test.YtegneoaoodddoaaDoorIterN
import Derived.Test.YtegneoaoodddoaaDoorBookN
import Derived.Test.YtegneoaoodddoaaDoorLawP
namespace Go.Proofs.YtegneoaoodddoaaDoor
open Go.RowKit
set_option linter.unusedVariables false
set_option linter.unusedSimpArgs false
attribute [local go_sem] field_nat eq_nilfunc

theorem eq_nilnil (w : World) : (binOp .eql 47 .nilFunc .nilFunc).run Tryd.prog w = .ok (.bool true) w := by kernel_rfl
theorem eq_each (w : World) (b : Nat) : (binOp .eql 47 (.func (.func 53) #[] #[.pointer (some ⟨b, 0, none⟩)]) .nilFunc).run Tryd.prog w = .ok (.bool false) w := eq_nilfunc w _ _ _
theorem enters_each1 : ∀ args w, (callFunc 53 args).run Tryd.prog w = .ok (.enter 53 args) w := enters_of Tryd.func53 (by kernel_rfl) rfl

set_option maxRecDepth 100000 in
theorem sum_nil (w : World) : Calls Tryd.prog 21 #[.nilFunc] w fun e w' => ∃ r, e = .returned r ∧ NatIs w' r 0 ∧ Below w.heap.size w w' := by
  have hn := fun W => eq_nilnil W
  go_enter Tryd.func21, Tryd.ntmps21
  go_wp2
  refine ret_nat rfl rfl (v := .slice none 0 0) (by go_simp) rfl ⟨_, rfl, NatIs.zero _, ?_⟩
  exact ((Below.refl _ w).alloc (Nat.le_refl _) _).alloc (by simp) _

/-- A row of both forms, opened. -/
theorem Rows2.open {base : Nat} {W : World} {va vb : Value} {ns : List Nat} (h : Rows2 base W va vb ns) :
    ∃ ao ca bo cb, va = .slice ao ns.length ca ∧ vb = .slice bo ns.length cb ∧ NatRow W va ns W.heap.size ∧
      ∀ i, i < ns.length → ∃ ga gb x y, ao = some ⟨ga, 0, none⟩ ∧ bo = some ⟨gb, 0, none⟩ ∧ W.cell? ⟨ga, i, none⟩ = some x ∧ W.cell? ⟨gb, i, none⟩ = some y ∧ NatIs W (.agg #[x]) (ns[i]?.getD 0) ∧ RIs W y (ns[i]?.getD 0) := by
  obtain ⟨sa, oa, la⟩ := h.a
  obtain ⟨sb, ob, lb⟩ := h.b
  have l1 := la.1
  have l2 := lb.1
  rcases oa.shape with ⟨rfl, e1⟩ | ⟨ga, ca, rfl, _, k1, _, _, hc, _⟩
  · have hn : ns = [] := List.eq_nil_of_length_eq_zero (by rw [← l1, e1]; rfl)
    subst hn
    rcases ob.shape with ⟨rfl, e2⟩ | ⟨gb, cb, rfl, _, k2, _, _, hd, _⟩
    · exact ⟨none, 0, none, 0, rfl, rfl, ⟨⟨[], none, 0, rfl, rfl, .inl rfl⟩⟩, fun i hi => by simp at hi⟩
    · exact ⟨none, 0, some ⟨gb, 0, none⟩, cb, rfl, by rw [l2], ⟨⟨[], none, 0, rfl, rfl, .inl rfl⟩⟩, fun i hi => by simp at hi⟩
  · rcases ob.shape with ⟨rfl, e2⟩ | ⟨gb, cb, rfl, _, k2, _, _, hd, _⟩
    · have hn : ns = [] := List.eq_nil_of_length_eq_zero (by rw [← l2, e2]; rfl)
      subst hn
      exact ⟨some ⟨ga, 0, none⟩, ca, none, 0, by rw [l1], rfl, ⟨⟨[], some ⟨ga, 0, none⟩, ca, by rw [l1], rfl, .inl rfl⟩⟩, fun i hi => by simp at hi⟩
    · refine ⟨some ⟨ga, 0, none⟩, ca, some ⟨gb, 0, none⟩, cb, by rw [l1], by rw [l2], ⟨⟨sa, some ⟨ga, 0, none⟩, ca, by rw [l1], l1, .inr ⟨ga, rfl, k1, k1, fun i sv hi => ⟨?_, la.2 i sv hi⟩⟩⟩⟩, fun i hi => ?_⟩
      · rw [hc i (List.getElem?_eq_some_iff.1 hi).1, hi]
      · have h1 : i < sa.length := by omega
        have h2 : i < sb.length := by omega
        exact ⟨ga, gb, sa[i], sb[i], rfl, rfl, by rw [hc i h1, List.getElem?_eq_getElem h1], by rw [hd i h2, List.getElem?_eq_getElem h2], la.2 i _ (List.getElem?_eq_getElem h1), lb.2 i _ (List.getElem?_eq_getElem h2)⟩

set_option maxRecDepth 100000 in
/-- each hands back an iterator over the row. -/
theorem each_any (va : Value) (ns : List Nat) (w : World) (hrow : NatRow w va ns w.heap.size) (hlen : ns.length ≤ 1000000) :
    Calls Tryd.prog 22 #[va] w fun e w' => ∃ b, e = .returned (.func (.func 53) #[] #[.pointer (some ⟨b, 0, none⟩)]) ∧
      Iter Tryd.prog 53 #[.pointer (some ⟨b, 0, none⟩)] NatIs ns w'.heap.size KeepNat w' ∧ Below w.heap.size w w' := by
  obtain ⟨svs, ao, cap, rfl, h1, h2⟩ := hrow.row
  go_enter Tryd.func22, Tryd.ntmps22
  go_wp2
  go_ret
  have hb : Below w.heap.size w (w.alloc (.cells #[.slice ao ns.length cap] 38)) := (Below.refl _ w).alloc (Nat.le_refl _) _
  have hrow2 := hrow.below hb
  have hrow3 : NatRow (w.alloc (.cells #[.slice ao ns.length cap] 38)) (.slice ao ns.length cap) ns (w.alloc (.cells #[.slice ao ns.length cap] 38)).heap.size := by
    obtain ⟨svs, ao2, cap2, e, k1, k2⟩ := hrow2.row
    cases e
    refine ⟨⟨svs, ao, cap, rfl, k1, ?_⟩⟩
    rcases k2 with k2 | ⟨g, k3, k4, k5, k6⟩
    · exact .inl k2
    · exact .inr ⟨g, k3, k5, k5, k6⟩
  exact ⟨w.heap.size, rfl, each1_iter _ ns w.heap.size _ _ hrow3 (by go_simp) (by simp) (Nat.le_refl _) hlen, hb⟩
theorem rlimbs_sum {ns : List Nat} {K : Nat} (h : ∀ n ∈ ns, (rlimbs n).length ≤ K) : (rlimbs ns.sum).length ≤ K + ns.length := by
  induction ns with
  | nil => rw [List.sum_nil, rlimbs_zero]; simp
  | cons n ns ih =>
    rw [List.sum_cons, List.length_cons]
    have h1 := lt_pow_rlimbs n
    have h2 := ih (fun m hm => h m (by simp [hm]))
    have h3 := lt_pow_rlimbs ns.sum
    have h4 : n < 10000 ^ (K + ns.length) := Nat.lt_of_lt_of_le h1 (Nat.pow_le_pow_right (by decide) (by have := h n (by simp); omega))
    have h5 : ns.sum < 10000 ^ (K + ns.length) := Nat.lt_of_lt_of_le h3 (Nat.pow_le_pow_right (by decide) h2)
    refine rlimbs_length_le ?_
    rw [← Nat.add_assoc, Nat.pow_succ]
    omega
-- WALK
theorem NatRow.top {W : World} {v : Value} {ns : List Nat} {B : Nat} (h : NatRow W v ns B) : NatRow W v ns W.heap.size := by
  obtain ⟨svs, ao, cap, h1, h2, h3⟩ := h.row
  refine ⟨⟨svs, ao, cap, h1, h2, ?_⟩⟩
  rcases h3 with h3 | ⟨g, h4, h5, h6, h7⟩
  · exact .inl h3
  · exact .inr ⟨g, h4, h6, h6, h7⟩
theorem take_sum {ns : List Nat} {i : Nat} (h : i < ns.length) : (ns.take (i + 1)).sum = (ns.take i).sum + ns[i]?.getD 0 := by
  rw [List.take_add_one, List.getElem?_eq_getElem h, List.sum_append]; simp
theorem RIs.empty (w : World) : RIs (w.alloc (.cells #[] 3)) (.slice (some ⟨w.heap.size, 0, none⟩) 0 0) 0 := by
  unfold RIs
  rw [rlimbs_zero]
  exact ⟨_, 0, rfl, Nat.le_refl _, Nat.zero_le _, fun _ => rfl, .inl rfl⟩
/-- A list of numbers that an iterator told, cell by cell. -/
theorem NatsIs.cells {W : World} {o : Option Addr} {cap : Nat} {ns : List Nat} (h : NatsIs W (.slice o ns.length cap) ns) : ∀ k, k < ns.length → ∃ g x, o = some ⟨g, 0, none⟩ ∧ g < W.heap.size ∧ W.cell? ⟨g, k, none⟩ = some x ∧ NatIs W (.agg #[x]) (ns[k]?.getD 0) := by
  obtain ⟨base, svs, h1, h2⟩ := h
  intro k hk
  rcases h1.shape with ⟨e, e2⟩ | ⟨g, c, e, _, k1, _, _, hc, _⟩
  · have := h2.1; rw [e2] at this; simp at this; omega
  · have hl := h2.1
    have hks : k < svs.length := by omega
    obtain ⟨n, hn, hnn⟩ := h2.2 k svs[k] (List.getElem?_eq_getElem hks)
    simp only [Value.slice.injEq] at e
    refine ⟨g, svs[k], e.1, k1, by rw [hc k hks, List.getElem?_eq_getElem hks], ?_⟩
    rw [hn]; exact hnn
theorem takeStop_get {n k : Nat} {stop : Int} (h : k < (takeStop (halvesL n) stop).length) : (takeStop (halvesL n) stop)[k]?.getD 0 = n / 2 ^ k := by
  have hk : k < blen n := by
    unfold takeStop at h
    split at h
    · rw [List.length_take, halvesL_length] at h; omega
    · rwa [halvesL_length] at h
  have hg : (halvesL n)[k]?.getD 0 = n / 2 ^ k := by simp [halvesL, hk]
  unfold takeStop at h ⊢
  split
  · rename_i h0
    rw [if_pos h0, List.length_take] at h
    rw [List.getElem?_take, if_pos (by omega)]; exact hg
  · exact hg
theorem takeStop_length (n : Nat) (stop : Int) : ((takeStop (halvesL n) stop).length : Int) = if stop > 0 then min (blen n : Int) stop else blen n := by
  unfold takeStop
  by_cases h : 0 < stop
  · rw [if_pos h, if_pos h, List.length_take, halvesL_length]; omega
  · rw [if_neg h, if_neg h, halvesL_length]

set_option maxRecDepth 100000 in
set_option maxHeartbeats 4000000 in
theorem natIterates_main (sv : Value) (ls : List (List UInt8)) (stop : Int) (w : World) (hs : Strs w sv ls) (hm : ∀ l ∈ ls, l.length ≤ maxLen) (h1 : ls.length ≤ 20) (h2 : total ls ≤ 1000) (hs0 : -9223372036854775808 ≤ stop) (hs1 : stop ≤ 9223372036854775807) :
    Calls Tryd.prog 4 #[sv, .int .i64 stop] w fun e w' => e = .returned (.bool true) ∧ Below w.heap.size w w' := by
  have hsh : Calls Tryd.prog 17 #[.int .i64 20, .int .i64 1000, sv] w fun e w' => e = .returned (.bool true) ∧ Below w.heap.size w w' := by
    have := short_any 20 1000 sv ls w hs (by omega) (by omega) hm
    rwa [shortB_yes h1 h2] at this
  have HSH := Lib.hid hsh
  clear hsh
  go_enter Tryd.func4, Tryd.ntmps4
  go_wp2_with fail
  refine HSH.out.mono ?_
  rintro e w1 ⟨rfl, hb1⟩
  go_wp2_with fail
  refine (alive_any _).mono ?_
  rintro e w2 ⟨rfl, hb2⟩
  have hbf := hb1.trans (hb2.mono hb1.size)
  go_wp2_with fail
  refine (nats_any _ ls w2 (hs.below hbf) (by omega) (fun l hl => Nat.le_trans (total_mem hl) (by omega))).mono ?_
  rintro e w3 ⟨va, vb, rfl, hrows, hb3⟩
  replace hbf := hbf.trans (hb3.mono hbf.size)
  have hnr : ∀ n ∈ ls.map pval, (rlimbs n).length ≤ 1200 := by
    intro n hn
    obtain ⟨l, _, rfl⟩ := List.mem_map.1 hn
    exact rpval_limbs l
  have hnl : (ls.map pval).length ≤ 20 := by simpa using h1
  generalize ls.map pval = ns at *
  obtain ⟨ao, ca, bo, cb, rfl, rfl, hrow, hcells⟩ := hrows.open
  have hsr : ∀ pre, pre <+: ns → (limbs pre.sum).length ≤ 100000000 := fun pre hp =>
    Nat.le_trans (limbs_of_rlimbs (rlimbs_sum fun n hn => hnr n (hp.subset hn))) (by have := hp.length_le; omega)
  have hti : ∀ i, (rlimbs (ns.take i).sum).length ≤ 1220 := fun i =>
    Nat.le_trans (rlimbs_sum fun n hn => hnr n (List.mem_of_mem_take hn)) (by rw [List.length_take]; omega)
  have hni : ∀ i, (rlimbs (ns[i]?.getD 0)).length ≤ 1200 := fun i => by
    by_cases h : i < ns.length
    · rw [List.getElem?_eq_getElem h]; exact hnr _ (List.getElem_mem h)
    · rw [List.getElem?_eq_none (by omega)]; simp [rlimbs_zero]
  have hxs : ∀ x ∈ ns, (limbs x).length ≤ 100000000 := fun x hx => Nat.le_trans (limbs_of_rlimbs (hnr x hx)) (by omega)
  have HROW := Lib.hid hrow
  have HCELLS := Lib.hid hcells
  have HSR := Lib.hid hsr
  have HTI := Lib.hid hti
  have HNI := Lib.hid hni
  have HXS := Lib.hid hxs
  clear hrows hrow hcells hsr hti hni hxs hnr hb1 hb2 hb3 HSH h1 h2
  have hemp := RIs.empty w3
  have hal : Below w3.heap.size w3 (w3.alloc (.cells #[] 3)) := (Below.refl _ _).alloc (Nat.le_refl _) _
  go_wp2_with fail
  go_loopg [8, 9] ns.length (fun gg xv iv wr => ∃ i : Nat, i + gg = ns.length ∧ iv = .int .i64 (i : Int) ∧ RIs wr xv (ns.take i).sum ∧ Below w3.heap.size w3 wr)
  case atStart => exact ⟨0, by omega, rfl, hemp, hal⟩
  case round =>
    clear hemp hal
    obtain ⟨i, hi, rfl, hsum, hbr⟩ := hrel
    by_cases hil : i < ns.length
    · obtain ⟨ga, gb, x, y, rfl, rfl, c1, c2, nx, ny⟩ := HCELLS.out i hil
      have c3 := (hbr.cell (p := ⟨gb, i, none⟩) (World.block_lt_of_cell? w3 ⟨gb, i, none⟩ c2)).trans c2
      have q1 : (0 : Int) ≤ (i : Int) := by omega
      have q2 : (i : Int) < (ns.length : Int) := by omega
      have hts := take_sum hil
      have HTS := Lib.hid hts
      clear c1 c2 nx hts
      go_wp2_with fail
      refine (radd_any _ _ (ns.take i).sum (ns[i]?.getD 0) wr hsum (ny.below hbr) (by have := HTI.out i; omega) (by have := HNI.out i; omega)).mono ?_
      rintro e w4 ⟨r, rfl, hr, hb4⟩
      rw [← HTS.out] at hr
      go_wp2_with fail
      go_roundg (gk - 1)
      case measure => omega
      case rel => exact ⟨i + 1, by omega, by go_num, hr, hbr.trans (hb4.mono hbr.size)⟩
    · have hiq : ns.take i = ns := List.take_of_length_le (by omega)
      rw [hiq] at hsum
      clear hiq
      obtain ⟨wo, rfl⟩ : ∃ wo : World, wo = wr := ⟨_, rfl⟩
      have hrow4 := (HROW.out.below hbr).top
      go_wp2_with fail
      refine (each_any _ ns wo hrow4 (by omega)).mono ?_
      rintro e w4 ⟨b, rfl, hit, hb4⟩
      have heq := fun W => eq_each W b
      go_wp2_with fail
      refine (sum_any _ _ ns w4 hit enters_each1 (fun W => eq_each W b) HXS.out HSR.out).mono ?_
      rintro e w5 ⟨r, rfl, hr, hb5⟩
      have hb45 := hb4.trans (hb5.mono hb4.size)
      clear heq
      go_wp2_with fail
      refine (same_any _ _ ns.sum w5 hr (hsum.below hb45) (by have := HTI.out ns.length; rw [List.take_length] at this; omega)).mono ?_
      rintro e w6 ⟨rfl, hb6⟩
      have hb46 := hb45.trans (hb6.mono hb45.size)
      go_wp2_with fail
      refine (sum_nil w6).mono ?_
      rintro e w7 ⟨r0, rfl, hr0, hb7⟩
      have hb47 := hb46.trans (hb7.mono hb46.size)
      go_wp2_with fail
      refine (zero_yes _ w7 hr0).mono ?_
      rintro e w8 ⟨rfl, hb8⟩
      have hb38 := hbr.trans ((hb47.trans (hb8.mono hb47.size)).mono hbr.size)
      clear hb4 hb5 hb45 hb6 hb46 hb7 hb47 hb8 hbr hit hr hr0 hrow4 hsum
      go_wp2_with fail
      go_loopg [10] ns.length (fun gg iv wr => ∃ i : Nat, i + gg = ns.length ∧ iv = .int .i64 (i : Int) ∧ Below w3.heap.size w3 wr)
      case atStart => exact ⟨0, by omega, rfl, hb38⟩
      case round =>
        clear hb38 hil hi
        obtain ⟨i, hi, rfl, hbr⟩ := hrel
        by_cases hil : i < ns.length
        · obtain ⟨goB, hgoB⟩ : ∃ g, g = gk := ⟨_, rfl⟩
          subst hgoB
          obtain ⟨ga, gb, x, y, rfl, rfl, c1, c2, nx, ny⟩ := HCELLS.out i hil
          have c3 := (hbr.cell (p := ⟨ga, i, none⟩) (World.block_lt_of_cell? w3 ⟨ga, i, none⟩ c1)).trans c1
          have c4 := (hbr.cell (p := ⟨gb, i, none⟩) (World.block_lt_of_cell? w3 ⟨gb, i, none⟩ c2)).trans c2
          have q1 : (0 : Int) ≤ (i : Int) := by omega
          have q2 : (i : Int) < (ns.length : Int) := by omega
          have hnl2 := HNI.out i
          replace nx := NatIs.below nx hbr
          replace ny := ny.below hbr
          clear c1 c2
          obtain ⟨n, hn⟩ : ∃ n, n = ns[i]?.getD 0 := ⟨_, rfl⟩
          rw [← hn] at nx ny hnl2
          clear hn
          have hbln : blen n ≤ 48000 := Nat.le_trans (blen_bound (limbs_of_rlimbs hnl2)) (by omega)
          have HHL : Hid ((halvesL n).length ≤ 1000000000) := Lib.hid (by rw [halvesL_length]; omega)
          have htl := takeStop_length n stop
          obtain ⟨xs, hxs⟩ : ∃ xs, xs = takeStop (halvesL n) stop := ⟨_, rfl⟩
          have HG : Hid (∀ k, k < xs.length → xs[k]?.getD 0 = n / 2 ^ k) := Lib.hid (by rw [hxs]; exact fun k h => takeStop_get h)
          rw [← hxs] at htl
          have HXQ := Lib.hid hxs
          clear hxs
          go_wp2_with fail
          refine (halves_any _ n wr nx (Nat.le_trans (limbs_of_rlimbs hnl2) (by omega))).mono ?_
          rintro e w4 ⟨bq, rfl, hit, hb4⟩
          replace c4 := (hb4.cell (p := ⟨gb, i, none⟩) (World.block_lt_of_cell? wr ⟨gb, i, none⟩ c4)).trans c4
          clear c3
          go_wp2_with fail
          refine (rbits_any _ n w4 (ny.below hb4) (by omega) (by omega)).mono ?_
          rintro e w5 ⟨rfl, hb5⟩
          have hb45 := hb4.trans (hb5.mono hb4.size)
          replace c4 := (hb5.cell (p := ⟨gb, i, none⟩) (World.block_lt_of_cell? w4 ⟨gb, i, none⟩ c4)).trans c4
          replace ny := ny.below hb45
          have hb35 := hbr.trans (hb45.mono hbr.size)
          have HIT := Lib.hid (hit.mono hb5)
          have h45 := hb5.size
          obtain ⟨bn, hbn⟩ : ∃ bn, bn = blen n := ⟨_, rfl⟩
          rw [← hbn] at htl hbln ⊢
          have hlen0 : xs.length ≤ 48000 := by split at htl <;> omega
          clear hb4 hb5 hb45 hbr hit hbn nx
          by_cases hst : stop > 0
          · have hmin : min (bn : Int) stop = (xs.length : Int) := by rw [htl, if_pos hst]
            have HMIN := Lib.hid htl
            clear htl
            go_wp2_with fail
            go_loopg [13] 2 (fun gg rv wr => ∃ r : Nat, r + gg = 2 ∧ rv = .int .i64 (r : Int) ∧ Below w5.heap.size w5 wr)
            case atStart => exact ⟨0, by omega, rfl, Below.refl _ _⟩
            case round =>
              obtain ⟨r, hr, rfl, hbr⟩ := hrel
              by_cases hr2 : r < 2
              · obtain ⟨goC, hgoC⟩ : ∃ g, g = gk := ⟨_, rfl⟩
                subst hgoC
                have c5 := (hbr.cell (p := ⟨gb, i, none⟩) (World.block_lt_of_cell? w5 ⟨gb, i, none⟩ c4)).trans c4
                have ny5 := ny.below hbr
                have HIT5 := Lib.hid ((HIT.out.mono hbr).up (B' := wr.heap.size) (Below.refl _ _) (Nat.le_trans h45 hbr.size))
                have hsz5 := hbr.size
                have HMK : Hid (∀ w', Below wr.heap.size wr w' → w'.cell? ⟨gb, i, none⟩ = some y ∧ Below wr.heap.size wr w') := Lib.hid (fun w' hb => ⟨(hb.cell (p := ⟨gb, i, none⟩) (World.block_lt_of_cell? wr ⟨gb, i, none⟩ c5)).trans c5, hb⟩)
                have HBL : Hid (∀ w', (w'.cell? ⟨gb, i, none⟩ = some y ∧ Below wr.heap.size wr w') → Below wr.heap.size wr w') := Lib.hid (fun w' h => h.2)
                clear c5
                go_wp2_with fail
                refine wp_region_seq (S := fun w' => w'.cell? ⟨gb, i, none⟩ = some y ∧ Below wr.heap.size wr w') [(true, 0), (true, 1), (true, 3), (true, 4), (true, 5), (true, 6), (false, 2), (true, 7), (true, 8)] (by kernel_rfl) (by kernel_rfl) (by kernel_rfl) (by kernel_rfl) (by kernel_rfl) (fun d _ _ _ _ h => by cases d <;> exact h) ?_ (fun hHeld => ?_)
                · first | assumption | exact HMK.out _ (Below.refl _ _).drew
                simp only [pickOps, List.append_eq, List.cons_append, List.nil_append, List.getElem?_toArray, List.getElem?_cons_succ, List.getElem?_cons_zero]
                repeat (first | (refine seq_take (v := ?_) (by rfl) ?_ ?_; rotate_left; (· intro w hSw; (try dsimp only at hSw); go_simp; all_goals with_reducible rfl); (try simp only [Act.put, List.setIfInBounds_toArray, List.set_cons_zero, List.set_cons_succ])) | (refine seq_leave (by rfl) ?_; (try simp only [Act.put, List.setIfInBounds_toArray, List.set_cons_zero, List.set_cons_succ])))
                (refine seq_step (by rfl) (fun K hK => ?_); go_simp; (go_at_call 25; refine (halves_list _ _ (halvesL n) stop _ ((HIT5.out.mono (HBL.out _ (by assumption))).up (Below.refl _ _) (HBL.out _ (by assumption)).size) enters_halves1 HHL.out hs0 hs1).mono ?_; rintro e w' ⟨hv, rfl, hnats, hb'⟩; rw [← HXQ.out] at hnats; obtain ⟨ho, hcap, rfl⟩ := hnats.shape; have hS := heldS HMK.out HBL.out hb' (by assumption)); (first | refine hK.out _ _ ?_ (fun hHeld => ?_) | (go_wp2_with fail; refine hK.out _ _ ?_ (fun hHeld => ?_))); (· first | assumption | exact HMK.out _ (Below.refl _ _).drew); clear hK K; (try simp only [Act.put, List.setIfInBounds_toArray, List.set_cons_zero, List.set_cons_succ]))
                repeat (first | (refine seq_take (v := ?_) (by rfl) ?_ ?_; rotate_left; (· intro w hSw; (try dsimp only at hSw); go_simp; all_goals with_reducible rfl); (try simp only [Act.put, List.setIfInBounds_toArray, List.set_cons_zero, List.set_cons_succ])) | (refine seq_leave (by rfl) ?_; (try simp only [Act.put, List.setIfInBounds_toArray, List.set_cons_zero, List.set_cons_succ])))
                refine seq_end ?_
                have hb6 := hHeld.2
                have hby := ny5.below hb6
                have hww : ((xs.length : Int) != (xs.length : Int)) = false := by simp
                obtain ⟨w6, hw6⟩ : ∃ x, x = w' := ⟨_, rfl⟩
                subst hw6
                have hb56 := hbr.trans (hb6.mono hbr.size)
                have hcl := hnats.cells
                have HCL := Lib.hid hcl
                clear hcl hHeld hS hb' HMK HBL ny5 hnats
                go_wp2_with fail
                go_loopg [15, 16] xs.length (fun gg xv kv wr => ∃ k : Nat, k + gg = xs.length ∧ kv = .int .i64 (k : Int) ∧ RIs wr xv (n / 2 ^ k) ∧ Below w6.heap.size w6 wr)
                case atStart => exact ⟨0, by omega, rfl, by rw [Nat.pow_zero, Nat.div_one]; exact hby, Below.refl _ _⟩
                case round =>
                  obtain ⟨k, hk, rfl, hxk, hbk⟩ := hrel
                  by_cases hkl : k < xs.length
                  · obtain ⟨g, z, rfl, hgl, cz, nz⟩ := HCL.out k hkl
                    rw [HG.out k hkl] at nz
                    have cz2 := (hbk.cell (p := ⟨g, k, none⟩) hgl).trans cz
                    have p1 : (0 : Int) ≤ (k : Int) := by omega
                    have p2 : (k : Int) < (xs.length : Int) := by omega
                    have hlk : (rlimbs (n / 2 ^ k)).length ≤ 1200 := Nat.le_trans (rlimbs_length_mono (Nat.div_le_self _ _)) hnl2
                    have hstep : n / 2 ^ k / 2 = n / 2 ^ (k + 1) := by rw [Nat.div_div_eq_div_mul, Nat.pow_succ]
                    have HSTEP := Lib.hid hstep
                    clear cz hstep
                    go_wp2_with fail
                    refine (same_any _ _ (n / 2 ^ k) wr (NatIs.below nz hbk) hxk (by omega)).mono ?_
                    rintro e w7 ⟨rfl, hb7⟩
                    have hone := one_is w7 (x := 2) (by omega) (by omega)
                    have hal : Below w7.heap.size w7 (w7.alloc (.cells #[.int .i64 ((2 : Nat) : Int)] 3)) := (Below.refl _ _).alloc (Nat.le_refl _) _
                    have hdm := rdivmod_any _ _ (n / 2 ^ k) 2 _ ((hxk.below hb7).below hal) hone (by omega) (Nat.le_trans (rlimbs_length_le (k := 1) (by omega)) (by omega)) (by omega)
                    rw [HSTEP.out] at hdm
                    have HDM := Lib.hid hdm
                    clear hdm hone cz2
                    go_wp2_with fail
                    refine HDM.out.mono ?_
                    rintro e w8 ⟨q, s, rfl, hq, hs, hb8⟩
                    have hb78 := hb7.trans ((hal.trans (hb8.mono hal.size)).mono hb7.size)
                    go_wp2_with fail
                    go_roundg (gk - 1)
                    case measure => omega
                    case rel => exact ⟨k + 1, by omega, by go_num, hq, hbk.trans (hb78.mono hbk.size)⟩
                  · clear HCL
                    go_wp2_with fail
                    go_roundg (goC - 1)
                    case measure => omega
                    case rel => exact ⟨r + 1, by omega, by go_num, hb56.trans (hbk.mono hb56.size)⟩
              · go_wp2_with fail
                go_roundg (goB - 1)
                case measure => omega
                case rel => exact ⟨i + 1, by omega, by go_num, hb35.trans (hbr.mono hb35.size)⟩
          · have hbx : bn = xs.length := by rw [if_neg hst] at htl; omega
            subst hbx
            clear htl
            go_wp2_with fail
            go_loopg [13] 2 (fun gg rv wr => ∃ r : Nat, r + gg = 2 ∧ rv = .int .i64 (r : Int) ∧ Below w5.heap.size w5 wr)
            case atStart => exact ⟨0, by omega, rfl, Below.refl _ _⟩
            case round =>
              obtain ⟨r, hr, rfl, hbr⟩ := hrel
              by_cases hr2 : r < 2
              · obtain ⟨goC, hgoC⟩ : ∃ g, g = gk := ⟨_, rfl⟩
                subst hgoC
                have c5 := (hbr.cell (p := ⟨gb, i, none⟩) (World.block_lt_of_cell? w5 ⟨gb, i, none⟩ c4)).trans c4
                have ny5 := ny.below hbr
                have HIT5 := Lib.hid ((HIT.out.mono hbr).up (B' := wr.heap.size) (Below.refl _ _) (Nat.le_trans h45 hbr.size))
                have hsz5 := hbr.size
                have HMK : Hid (∀ w', Below wr.heap.size wr w' → w'.cell? ⟨gb, i, none⟩ = some y ∧ Below wr.heap.size wr w') := Lib.hid (fun w' hb => ⟨(hb.cell (p := ⟨gb, i, none⟩) (World.block_lt_of_cell? wr ⟨gb, i, none⟩ c5)).trans c5, hb⟩)
                have HBL : Hid (∀ w', (w'.cell? ⟨gb, i, none⟩ = some y ∧ Below wr.heap.size wr w') → Below wr.heap.size wr w') := Lib.hid (fun w' h => h.2)
                clear c5
                go_wp2_with fail
                refine wp_region_seq (S := fun w' => w'.cell? ⟨gb, i, none⟩ = some y ∧ Below wr.heap.size wr w') [(true, 0), (true, 1), (true, 3), (true, 4), (true, 5), (true, 6), (false, 2), (true, 7), (true, 8)] (by kernel_rfl) (by kernel_rfl) (by kernel_rfl) (by kernel_rfl) (by kernel_rfl) (fun d _ _ _ _ h => by cases d <;> exact h) ?_ (fun hHeld => ?_)
                · first | assumption | exact HMK.out _ (Below.refl _ _).drew
                simp only [pickOps, List.append_eq, List.cons_append, List.nil_append, List.getElem?_toArray, List.getElem?_cons_succ, List.getElem?_cons_zero]
                repeat (first | (refine seq_take (v := ?_) (by rfl) ?_ ?_; rotate_left; (· intro w hSw; (try dsimp only at hSw); go_simp; all_goals with_reducible rfl); (try simp only [Act.put, List.setIfInBounds_toArray, List.set_cons_zero, List.set_cons_succ])) | (refine seq_leave (by rfl) ?_; (try simp only [Act.put, List.setIfInBounds_toArray, List.set_cons_zero, List.set_cons_succ])))
                (refine seq_step (by rfl) (fun K hK => ?_); go_simp; (go_at_call 25; refine (halves_list _ _ (halvesL n) stop _ ((HIT5.out.mono (HBL.out _ (by assumption))).up (Below.refl _ _) (HBL.out _ (by assumption)).size) enters_halves1 HHL.out hs0 hs1).mono ?_; rintro e w' ⟨hv, rfl, hnats, hb'⟩; rw [← HXQ.out] at hnats; obtain ⟨ho, hcap, rfl⟩ := hnats.shape; have hS := heldS HMK.out HBL.out hb' (by assumption)); (first | refine hK.out _ _ ?_ (fun hHeld => ?_) | (go_wp2_with fail; refine hK.out _ _ ?_ (fun hHeld => ?_))); (· first | assumption | exact HMK.out _ (Below.refl _ _).drew); clear hK K; (try simp only [Act.put, List.setIfInBounds_toArray, List.set_cons_zero, List.set_cons_succ]))
                repeat (first | (refine seq_take (v := ?_) (by rfl) ?_ ?_; rotate_left; (· intro w hSw; (try dsimp only at hSw); go_simp; all_goals with_reducible rfl); (try simp only [Act.put, List.setIfInBounds_toArray, List.set_cons_zero, List.set_cons_succ])) | (refine seq_leave (by rfl) ?_; (try simp only [Act.put, List.setIfInBounds_toArray, List.set_cons_zero, List.set_cons_succ])))
                refine seq_end ?_
                have hb6 := hHeld.2
                have hby := ny5.below hb6
                have hww : ((xs.length : Int) != (xs.length : Int)) = false := by simp
                obtain ⟨w6, hw6⟩ : ∃ x, x = w' := ⟨_, rfl⟩
                subst hw6
                have hb56 := hbr.trans (hb6.mono hbr.size)
                have hcl := hnats.cells
                have HCL := Lib.hid hcl
                clear hcl hHeld hS hb' HMK HBL ny5 hnats
                go_wp2_with fail
                go_loopg [15, 16] xs.length (fun gg xv kv wr => ∃ k : Nat, k + gg = xs.length ∧ kv = .int .i64 (k : Int) ∧ RIs wr xv (n / 2 ^ k) ∧ Below w6.heap.size w6 wr)
                case atStart => exact ⟨0, by omega, rfl, by rw [Nat.pow_zero, Nat.div_one]; exact hby, Below.refl _ _⟩
                case round =>
                  obtain ⟨k, hk, rfl, hxk, hbk⟩ := hrel
                  by_cases hkl : k < xs.length
                  · obtain ⟨g, z, rfl, hgl, cz, nz⟩ := HCL.out k hkl
                    rw [HG.out k hkl] at nz
                    have cz2 := (hbk.cell (p := ⟨g, k, none⟩) hgl).trans cz
                    have p1 : (0 : Int) ≤ (k : Int) := by omega
                    have p2 : (k : Int) < (xs.length : Int) := by omega
                    have hlk : (rlimbs (n / 2 ^ k)).length ≤ 1200 := Nat.le_trans (rlimbs_length_mono (Nat.div_le_self _ _)) hnl2
                    have hstep : n / 2 ^ k / 2 = n / 2 ^ (k + 1) := by rw [Nat.div_div_eq_div_mul, Nat.pow_succ]
                    have HSTEP := Lib.hid hstep
                    clear cz hstep
                    go_wp2_with fail
                    refine (same_any _ _ (n / 2 ^ k) wr (NatIs.below nz hbk) hxk (by omega)).mono ?_
                    rintro e w7 ⟨rfl, hb7⟩
                    have hone := one_is w7 (x := 2) (by omega) (by omega)
                    have hal : Below w7.heap.size w7 (w7.alloc (.cells #[.int .i64 ((2 : Nat) : Int)] 3)) := (Below.refl _ _).alloc (Nat.le_refl _) _
                    have hdm := rdivmod_any _ _ (n / 2 ^ k) 2 _ ((hxk.below hb7).below hal) hone (by omega) (Nat.le_trans (rlimbs_length_le (k := 1) (by omega)) (by omega)) (by omega)
                    rw [HSTEP.out] at hdm
                    have HDM := Lib.hid hdm
                    clear hdm hone cz2
                    go_wp2_with fail
                    refine HDM.out.mono ?_
                    rintro e w8 ⟨q, s, rfl, hq, hs, hb8⟩
                    have hb78 := hb7.trans ((hal.trans (hb8.mono hal.size)).mono hb7.size)
                    go_wp2_with fail
                    go_roundg (gk - 1)
                    case measure => omega
                    case rel => exact ⟨k + 1, by omega, by go_num, hq, hbk.trans (hb78.mono hbk.size)⟩
                  · clear HCL
                    go_wp2_with fail
                    go_roundg (goC - 1)
                    case measure => omega
                    case rel => exact ⟨r + 1, by omega, by go_num, hb56.trans (hbk.mono hb56.size)⟩
              · go_wp2_with fail
                go_roundg (goB - 1)
                case measure => omega
                case rel => exact ⟨i + 1, by omega, by go_num, hb35.trans (hbr.mono hb35.size)⟩
        · go_wp2
          go_ret
          exact ⟨rfl, hbf.trans (hbr.mono hbf.size)⟩

set_option maxRecDepth 100000 in
set_option maxHeartbeats 1000000 in
theorem natIterates_early (sv : Value) (ls : List (List UInt8)) (stop : Int) (w : World) (hs : Strs w sv ls) (hm : ∀ l ∈ ls, l.length ≤ maxLen) (h : ¬ ls.length ≤ 20 ∨ ¬ total ls ≤ 1000) :
    Calls Tryd.prog 4 #[sv, .int .i64 stop] w fun e w' => e = .returned (.bool true) ∧ Below w.heap.size w w' := by
  have hsh : Calls Tryd.prog 17 #[.int .i64 20, .int .i64 1000, sv] w fun e w' => e = .returned (.bool false) ∧ Below w.heap.size w w' := by
    have := short_any 20 1000 sv ls w hs (by omega) (by omega) hm
    rwa [shortB_no h] at this
  have HSH := Lib.hid hsh
  clear hsh h
  go_enter Tryd.func4, Tryd.ntmps4
  go_wp2_with fail
  refine HSH.out.mono ?_
  rintro e w1 ⟨rfl, hb1⟩
  go_wp2_with fail
  refine (alive_any _).mono ?_
  rintro e w2 ⟨rfl, hb2⟩
  go_wp2
  go_ret
  exact ⟨rfl, hb1.trans (hb2.mono hb1.size)⟩
theorem natIterates_walk (sv : Value) (ls : List (List UInt8)) (a1 : Int) (w : World) (hs : Strs w sv ls) (hm : ∀ l ∈ ls, l.length ≤ maxLen) (w1 : (Lit.int .i64 a1).wf = true) :
    Calls Tryd.prog 4 #[sv, .int .i64 a1] w fun e w' => e = .returned (.bool true) ∧ Below w.heap.size w w' := by
  have hr : -9223372036854775808 ≤ a1 ∧ a1 ≤ 9223372036854775807 := by
    simp [Lit.wf, IntKind.min, IntKind.max, IntKind.signed, IntKind.bits] at w1
    omega
  by_cases h : ls.length ≤ 20 ∧ total ls ≤ 1000
  · exact natIterates_main sv ls a1 w hs hm h.1 h.2 hr.1 hr.2
  · exact natIterates_early sv ls a1 w hs hm (by omega)
end Go.Proofs.YtegneoaoodddoaaDoor
