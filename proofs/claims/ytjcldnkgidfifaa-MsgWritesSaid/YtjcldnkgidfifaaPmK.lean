/-
  pmsg: walks (11): slices.Backward over a row of fields.
-/
import Derived.Test.YtjcldnkgidfifaaRtA
namespace Go.Proofs.Ytjcldnkgidfifaa
open Go.RowKit Go.Shelf
set_option linter.unusedVariables false
set_option linter.unusedSimpArgs false
attribute [local go_sem] Oper.semAt_some
abbrev backF : Nat := 57
def BEnc (_ : World) (v : Array Value) (x : Fld × Int) : Prop := ∃ i : Int, v = #[.int .i64 i, mfV x]
theorem enters_back1 : ∀ args w, (callFunc backF args).run Try.prog w = .ok (.enter backF args) w := enters_of Try.func57 (by kernel_rfl) rfl
theorem back_any (ao : Option Addr) (n cap : Nat) (w : World) : Calls Try.prog 51 #[.slice ao n cap] w fun e w' => e = .returned (.func (.func backF) #[] #[.pointer (some ⟨w.heap.size, 0, none⟩)]) ∧ w' = w.alloc (.cells #[.slice ao n cap] 73) := by
  go_enter Try.func51, Try.ntmps51
  go_wp2_with fail
  go_ret
  exact ⟨rfl, rfl⟩
theorem drop_rev {l : List (Fld × Int)} {i : Nat} (h : i < l.length) : (l.drop i).reverse = (l.drop (i + 1)).reverse ++ [l[i]'h] := by
  rw [List.drop_eq_getElem_cons h, List.reverse_cons]
theorem rev_prefix (l : List (Fld × Int)) (i : Nat) : (l.drop i).reverse <+: l.reverse := by
  refine ⟨(l.take i).reverse, ?_⟩
  rw [← List.reverse_append, List.take_append_drop]
set_option maxRecDepth 100000 in
set_option maxHeartbeats 4000000 in
theorem back1_iter (B0 : Nat) (v : Value) (l : List (Fld × Int)) (bs B : Nat) (w : World) (hm : OwnsK 6 B0 81 w v l.length (mrow l)) (hcs : w.cell? ⟨bs, 0, none⟩ = some v) (hll : l.length ≤ 1000000) :
    IterA Try.prog backF #[.pointer (some ⟨bs, 0, none⟩)] BEnc l.reverse B (KeepP fun k => v.ownBlock = some k ∨ k = bs) w := by
  intro l9 J Jx S0 W1 hW1 hS0 hJ hJx hY h0
  have hrow := hm.kept hW1
  have hc1 := (hW1.cell (p := ⟨bs, 0, none⟩) (World.block_lt_of_cell? w ⟨bs, 0, none⟩ hcs)).trans hcs
  have hlbs := World.block_lt_of_cell? W1 ⟨bs, 0, none⟩ hc1
  obtain ⟨ao, cap, rfl, hca1, hca2, hnil⟩ := hrow.slice
  clear hm hcs
  refine callsIn_of_wp Try.func57 rfl (by trivial) ?_ rfl
  simp only [IterArgs, Try.ntmps57, List.size_toArray, List.length_cons, List.length_nil, Nat.reduceAdd, Nat.reduceSub, Array.replicate_succ, Array.replicate_zero, List.push_toArray, List.append_toArray, List.nil_append, List.cons_append]
  gi_wp2_with fail
  gi_loopg [3] l.length (fun g iv wr => ∃ (j : Int) (S : Nat → Prop), iv = .int .i64 j ∧ j + 1 = (g : Int) ∧ g ≤ l.length ∧ J (l.drop g).reverse S wr ∧ Top S wr ∧ Foot S0 S W1 wr ∧ KeepP (fun k => (Value.slice ao l.length cap).ownBlock = some k ∨ k = bs) W1 wr)
  case atStart => exact ⟨(l.length : Int) - 1, S0, by go_num, by omega, Nat.le_refl _, by rw [List.drop_of_length_le (Nat.le_refl _)]; exact h0, fun k hk => (hS0 k hk).2, Foot.refl _ _, fun _ _ _ => rfl⟩
  case round =>
    obtain ⟨j, S, rfl, hj, hgl, hJs, hT, hF, hK⟩ := hrel
    have hsk : wr.heap[bs]? = W1.heap[bs]? := hK bs (.inr rfl) hlbs
    have es := (World.cell?_of_block (a := ⟨bs, 0, none⟩) hsk).trans hc1
    rcases Nat.eq_zero_or_pos gk with hz | hz
    · subst hz
      obtain rfl : j = -1 := by omega
      rw [List.drop_zero] at hJs
      gi_wp2_with fail
      (try simp only [Exit.inBlock, Exit.then])
      refine bodyPost_end (results_none rfl _ _ _) rfl ?_
      exact ⟨⟨_, rfl⟩, .inl ⟨S, hJs, hF⟩⟩
    · obtain ⟨i, rfl⟩ : ∃ i, gk = i + 1 := ⟨gk - 1, by omega⟩
      obtain rfl : j = (i : Int) := by omega
      have hil : i < l.length := by omega
      obtain ⟨g, rfl, hgB, hgw, hcell⟩ := hrow.mcell hil
      have HD := Lib.hid (drop_rev hil)
      have HPX := Lib.hid (rev_prefix l i)
      obtain ⟨⟨f, dp⟩, hf⟩ : ∃ x, x = l[i]'hil := ⟨_, rfl⟩
      rw [← hf] at hcell HD
      clear hf
      have hgk : wr.heap[g]? = W1.heap[g]? := hK g (.inl rfl) hgw
      have e0 := (World.cell?_of_block (a := ⟨g, i * 6, none⟩) hgk).trans (hcell 0 _ rfl)
      have e1 := (World.cell?_of_block (a := ⟨g, i * 6 + 1, none⟩) hgk).trans (hcell 1 _ rfl)
      have e2 := (World.cell?_of_block (a := ⟨g, i * 6 + 2, none⟩) hgk).trans (hcell 2 _ rfl)
      have e3 := (World.cell?_of_block (a := ⟨g, i * 6 + 3, none⟩) hgk).trans (hcell 3 _ rfl)
      have e4 := (World.cell?_of_block (a := ⟨g, i * 6 + 4, none⟩) hgk).trans (hcell 4 _ rfl)
      have e5 := (World.cell?_of_block (a := ⟨g, i * 6 + 5, none⟩) hgk).trans (hcell 5 _ rfl)
      clear hgk hsk hcell
      have q1 : (i : Int) < (l.length : Int) := by omega
      have q2 : (0 : Int) ≤ (i : Int) := by omega
      obtain ⟨fn, tmps, assign, body, hy, hR⟩ := hY (l.drop (i + 1)).reverse (f, dp) #[.int .i64 (i : Int), mfV (f, dp)] S wr hJs ⟨_, rfl⟩ (by rw [← HD.out]; exact HPX.out)
      replace hy : (Instr.yield l9 #[.int .i64 (i : Int), .agg #[.int .i64 (f.num : Int), .int .i64 (f.kind : Int), .int .i64 (f.place : Int), .int .u64 (f.val : Int), .string ⟨f.data.toArray⟩, .int .i64 dp]]).run Try.prog wr = _ := hy
      gi_wp2_with fail
      refine ⟨rfl, hR.mono ?_⟩
      rintro e W3 (⟨rfl, S3, hJ3, hF3, hT3, hK3⟩ | ⟨rfl, S3, hJ3, hF3⟩)
      · clear e0 e1 e2 e3 e4 e5 es
        gi_wp2
        gi_roundg i
        case measure => omega
        case rel => exact ⟨(i : Int) - 1, S3, by go_num, by omega, by omega, by rw [HD.out]; exact hJ3, hT3, hF.trans hF3, hK.trans hK3⟩
      · clear e0 e1 e2 e3 e4 e5 es
        gi_wp2
        (try simp only [Exit.inBlock, Exit.then])
        refine bodyPost_ret (results_none rfl _ _ _) rfl ?_
        exact ⟨⟨_, rfl⟩, .inr ⟨_, S3, by rw [← HD.out]; exact HPX.out, hJ3, hF.trans hF3⟩⟩
/-- The last field of a number and a kind. -/
def hitF (num kind : Int) (x : Fld × Int) : Bool := decide ((x.1.num : Int) = num) && decide ((x.1.kind : Int) = kind)
def lastL (l : List (Fld × Int)) (num kind : Int) : Option (Fld × Int) := l.reverse.find? (hitF num kind)
def NoHit (num kind : Int) (pre : List (Fld × Int)) : Prop := ∀ y ∈ pre, hitF num kind y = false
theorem NoHit.snoc {num kind : Int} {pre : List (Fld × Int)} {x : Fld × Int} (h : NoHit num kind pre) (hx : hitF num kind x = false) : NoHit num kind (pre ++ [x]) := by
  intro y hy; rcases List.mem_append.1 hy with h9 | h9
  · exact h y h9
  · simp at h9; subst h9; exact hx
def HitPre (num kind : Int) (pre : List (Fld × Int)) (x : Fld × Int) : Prop := ∃ pre0, pre = pre0 ++ [x] ∧ NoHit num kind pre0 ∧ hitF num kind x = true
def LastX (num kind : Int) (pre : List (Fld × Int)) (B : Fld × Int → Prop) : Prop := ∃ x, HitPre num kind pre x ∧ B x
theorem find_hit {p : Fld × Int → Bool} {a rest : List (Fld × Int)} {x : Fld × Int} (h : ∀ y ∈ a, p y = false) (hx : p x = true) : (a ++ [x] ++ rest).find? p = some x := by
  rw [List.find?_append, List.find?_append, List.find?_eq_none.2 (fun y hy => by rw [h y hy]; simp)]
  simp [hx]
set_option maxRecDepth 100000 in
set_option maxHeartbeats 8000000 in
theorem last_any (B0 pm : Nat) (v : Value) (l : List (Fld × Int)) (e num kind : Int) (w : World) (hm : MsgAt B0 w pm v l e) (hll : l.length ≤ 1000000) :
    Calls Try.prog 41 #[.pointer (some ⟨pm, 0, none⟩), .int .i64 num, .int .i64 kind] w fun e' w' => e' = .returned (.tuple #[mfV ((lastL l num kind).getD (zeroF, 0)), .bool (lastL l num kind).isSome]) ∧ Below w.heap.size w w' := by
  refine (callsIn_wide (n := 0)).1 ?_
  refine callsIn_of_wp_marks Try.func41 rfl (by trivial) ?_ rfl
  simp only [Try.ntmps41, List.size_toArray, List.length_cons, List.length_nil, Nat.reduceAdd, Nat.reduceSub, Array.replicate_succ, Array.replicate_zero, List.push_toArray, List.append_toArray, List.nil_append, List.cons_append]
  obtain ⟨ao, cap, rfl, hca1, hca2, hnil⟩ := hm.row.slice
  have em0 := hm.box.cell 0 _ rfl
  have hb4 : Below w.heap.size w ((((w.alloc (.cells #[.int .i64 num] 3)).alloc (.cells #[.int .i64 kind] 3)).alloc (.cells #[.int .i64 0, .int .i64 0, .int .i64 0, .int .u64 0, .string ⟨#[]⟩, .int .i64 0] 81)).alloc (.cells #[.bool false] 4)) := ((((Below.refl _ w).alloc (Nat.le_refl _) _).alloc (by simp <;> omega) _).alloc (by simp <;> omega) _).alloc (by simp <;> omega) _
  have em4 := (hb4.cell (p := ⟨pm, 0, none⟩) hm.box.lt).trans em0
  clear hb4
  gi_wp2_with fail
  clear em4
  refine ⟨trivial, rfl, callsIn_wide.2 ((back_any ao l.length cap _).mono ?_)⟩
  rintro e w1 ⟨rfl, rfl⟩
  obtain ⟨wa, hwa⟩ : ∃ wa, wa = ((((w.alloc (.cells #[.int .i64 num] 3)).alloc (.cells #[.int .i64 kind] 3)).alloc (.cells #[.int .i64 0, .int .i64 0, .int .i64 0, .int .u64 0, .string ⟨#[]⟩, .int .i64 0] 81)).alloc (.cells #[.bool false] 4)).alloc (.cells #[.slice ao l.length cap] 73) := ⟨_, rfl⟩
  have hbel : Below w.heap.size w wa := by
    rw [hwa]; exact (((((Below.refl _ w).alloc (Nat.le_refl _) _).alloc (by simp <;> omega) _).alloc (by simp <;> omega) _).alloc (by simp <;> omega) _).alloc (by simp <;> omega) _
  have hsz0 : wa.heap.size = w.heap.size + 5 := by rw [hwa]; simp
  obtain ⟨p4, hp4⟩ : ∃ p, p = w.heap.size := ⟨_, rfl⟩
  obtain ⟨p5, hp5⟩ : ∃ p, p = w.heap.size + 1 := ⟨_, rfl⟩
  obtain ⟨p6, hp6⟩ : ∃ p, p = w.heap.size + 1 + 1 := ⟨_, rfl⟩
  obtain ⟨p7, hp7⟩ : ∃ p, p = w.heap.size + 1 + 1 + 1 := ⟨_, rfl⟩
  obtain ⟨ps, hps⟩ : ∃ p, p = w.heap.size + 1 + 1 + 1 + 1 := ⟨_, rfl⟩
  have hr4 : BoxL wa p4 [.int .i64 num] := by rw [hwa, hp4]; exact BoxL.of1 (by go_simp) (by go_simp)
  have hr5 : BoxL wa p5 [.int .i64 kind] := by rw [hwa, hp5]; exact BoxL.of1 (by go_simp) (by go_simp)
  have hr6 : BoxL wa p6 [.int .i64 0, .int .i64 0, .int .i64 0, .int .u64 0, .string ⟨#[]⟩, .int .i64 0] := by rw [hwa, hp6]; exact BoxL.of6 (by go_simp) (by go_simp) (by go_simp) (by go_simp) (by go_simp) (by go_simp) (by go_simp) (by go_simp) (by go_simp) (by go_simp) (by go_simp) (by go_simp)
  have hr7 : BoxL wa p7 [.bool false] := by rw [hwa, hp7]; exact BoxL.of1 (by go_simp) (by go_simp)
  have hcs : wa.cell? ⟨ps, 0, none⟩ = some (.slice ao l.length cap) := by rw [hwa, hps]; go_simp
  have hit0 := back1_iter B0 (.slice ao l.length cap) l ps w.heap.size wa (hm.row.kept hbel) hcs hll
  have hKPx : ∀ k, ((Value.slice ao l.length cap).ownBlock = some k ∨ k = ps) → k < wa.heap.size ∧ k ≠ p6 ∧ k ≠ p7 := fun k hk => by
    rcases hk with h | h
    · have := (hm.ow k (.inr h)).2; omega
    · omega
  have HKP := Lib.hid hKPx
  have HW := Lib.hid hwa
  clear hwa hKPx hm em0
  gi_wp2_with fail
  rw [← HW.out]
  rw [← hps, ← hp7, ← hp6, ← hp5, ← hp4]
  clear HW
  have HQ : w.heap.size ≤ p4 ∧ p4 < p5 ∧ p5 < p6 ∧ p6 < p7 ∧ p7 < ps ∧ ps < wa.heap.size := by omega
  clear hp4 hp5 hp6 hp7 hps hsz0
  obtain ⟨q1, q2, q3, q4, q4b, q5⟩ := HQ
  have h67 : p6 ≠ p7 := by omega
  have h76 : p7 ≠ p6 := by omega
  refine wp_rangeA (gf := backF) (lb := #[.pointer (some ⟨ps, 0, none⟩)]) rfl enters_back1 hit0 (fun A C D => KeepP.trans) (fun A C h => KeepP.ext (fun k hk => (HKP.out k hk).1) h) (fun W v x h => by obtain ⟨i, rfl⟩ := h; rfl) (by omega)
    (fun pre S W => (S = fun k => k = p6 ∨ k = p7) ∧ NoHit num kind pre ∧ BoxL W p4 [.int .i64 num] ∧ BoxL W p5 [.int .i64 kind] ∧ BoxL W p6 [.int .i64 0, .int .i64 0, .int .i64 0, .int .u64 0, .string ⟨#[]⟩, .int .i64 0] ∧ BoxL W p7 [.bool false] ∧ Below w.heap.size w W ∧ wa.heap.size ≤ W.heap.size)
    (fun c pre S W => c = .ret ∧ LastX num kind pre (fun x => BoxL W p6 (mcells x)) ∧ BoxL W p7 [.bool true] ∧ Below w.heap.size w W)
    ?_ ?_ (fun k => k = p6 ∨ k = p7) (fun k hk => ⟨by omega, by omega⟩) ?_
    (fun x a' W => ∃ b9 i, ps < b9 ∧ BoxL W b9 (mcells x) ∧ a' = { tmps := #[.pointer (some ⟨pm, 0, none⟩), .int .i64 num, .int .i64 kind, undef, .pointer (some ⟨p4, 0, none⟩), .pointer (some ⟨p5, 0, none⟩), .pointer (some ⟨p6, 0, none⟩), .pointer (some ⟨p7, 0, none⟩), undef, .pointer (some ⟨b9, 0, none⟩), .pointer (some ⟨pm, 0, none⟩), .bool false, undef, .pointer (some ⟨pm, 0, none⟩), .pointer (some ⟨pm, 0, none⟩), .pointer (some ⟨pm, 0, none⟩), .slice ao l.length cap, .func (.func backF) #[] #[.pointer (some ⟨ps, 0, none⟩)], .int .i64 i, mfV x, undef, undef, undef, undef, undef, undef, undef, undef, undef, undef, undef, undef, undef, undef], defers := [] })
    ?_ ?assign ?body ?done ?stop
  case assign =>
    rintro l9 pre x v S W K hi hnv hpre hK
    obtain ⟨i, rfl⟩ := hnv
    gi_wp2
    have hb : Below W.heap.size W (W.alloc (.cells #[.int .i64 (x.1.num : Int), .int .i64 (x.1.kind : Int), .int .i64 (x.1.place : Int), .int .u64 (x.1.val : Int), .string ⟨x.1.data.toArray⟩, .int .i64 x.2] 81)) := (Below.refl _ W).alloc (Nat.le_refl _) _
    obtain ⟨rfl, h0, hB4, hB5, hB6, hB7, hB, hsz⟩ := hi
    refine hK _ _ hb ⟨rfl, h0, hB4.kept hb, hB5.kept hb, hB6.kept hb, hB7.kept hb, hB.trans (hb.mono hB.size), Nat.le_trans hsz hb.size⟩ ⟨W.heap.size, i, by omega, BoxL.of6 (by go_simp) (by go_simp) (by go_simp) (by go_simp) (by go_simp) (by go_simp) (by go_simp) (by go_simp) (by go_simp) (by go_simp) (by go_simp) (by go_simp), rfl⟩
  case body =>
    rintro l9 pre x a' S W ⟨rfl, h0, hB4, hB5, hB6, hB7, hB, hsz⟩ ⟨b9, i, hq9, hB9, rfl⟩ hpre hS
    obtain ⟨f, dp⟩ := x
    have e4 := hB4.cell 0 _ rfl
    have e5 := hB5.cell 0 _ rfl
    have e90 := hB9.cell 0 _ rfl
    have e91 := hB9.cell 1 _ rfl
    have e92 := hB9.cell 2 _ rfl
    have e93 := hB9.cell 3 _ rfl
    have e94 := hB9.cell 4 _ rfl
    have e95 := hB9.cell 5 _ rfl
    simp only at e90 e91 e92 e93 e94 e95
    by_cases hn : ((f.num : Nat) : Int) = num
    · have hnb : (((f.num : Nat) : Int) == num) = true := by rw [beq_iff_eq]; exact hn
      by_cases hk : ((f.kind : Nat) : Int) = kind
      · have hkb : (((f.kind : Nat) : Int) == kind) = true := by rw [beq_iff_eq]; exact hk
        have HM : Hid (hitF num kind (f, dp) = true) := Lib.hid (by simp [hitF, hn, hk])
        clear hn hk
        have e60 := hB6.cell 0 _ rfl
        have f60 := hB6.free 0 (by simp)
        have e61 := hB6.cell 1 _ rfl
        have f61 := hB6.free 1 (by simp)
        have e62 := hB6.cell 2 _ rfl
        have f62 := hB6.free 2 (by simp)
        have e63 := hB6.cell 3 _ rfl
        have f63 := hB6.free 3 (by simp)
        have e64 := hB6.cell 4 _ rfl
        have f64 := hB6.free 4 (by simp)
        have e65 := hB6.cell 5 _ rfl
        have f65 := hB6.free 5 (by simp)
        have e70 := hB7.cell 0 _ rfl
        have f70 := hB7.free 0 (by simp)
        gi_wp2_with fail
        refine ⟨fun _ => False, ⟨rfl, ⟨(f, dp), ⟨pre, rfl, h0, HM.out⟩, ?_⟩, ?_, ?_⟩, ?_⟩
        · exact ((((((hB6.set 0 _ (by simp)).set 1 _ (by simp)).set 2 _ (by simp)).set 3 _ (by simp)).set 4 _ (by simp)).set 5 _ (by simp)).setOther h67 0 _
        · exact ((((((hB7.setOther h76 0 _).setOther h76 1 _).setOther h76 2 _).setOther h76 3 _).setOther h76 4 _).setOther h76 5 _).set 0 _ (by simp)
        · exact ((((((hB.setCell (p := ⟨p6, 0, none⟩) (by show w.heap.size ≤ p6; omega) _).setCell (p := ⟨p6, 1, none⟩) (by show w.heap.size ≤ p6; omega) _).setCell (p := ⟨p6, 2, none⟩) (by show w.heap.size ≤ p6; omega) _).setCell (p := ⟨p6, 3, none⟩) (by show w.heap.size ≤ p6; omega) _).setCell (p := ⟨p6, 4, none⟩) (by show w.heap.size ≤ p6; omega) _).setCell (p := ⟨p6, 5, none⟩) (by show w.heap.size ≤ p6; omega) _).setCell (p := ⟨p7, 0, none⟩) (by show w.heap.size ≤ p7; omega) _
        · exact ((((((((Foot.refl _ W).setC p6 0 _ (.inl rfl)).setC p6 1 _ (.inl rfl)).setC p6 2 _ (.inl rfl)).setC p6 3 _ (.inl rfl)).setC p6 4 _ (.inl rfl)).setC p6 5 _ (.inl rfl)).setC p7 0 _ (.inr rfl)).mono (fun k h => h.elim)
      · have hkb : (((f.kind : Nat) : Int) == kind) = false := by rw [beq_eq_false_iff_ne]; exact hk
        have HM : Hid (hitF num kind (f, dp) = false) := Lib.hid (by simp [hitF, hk])
        clear hn hk
        gi_wp2_with fail
        exact ⟨_, ⟨rfl, h0.snoc HM.out, hB4, hB5, hB6, hB7, hB, hsz⟩, Foot.refl _ _, (fun k hk => by rcases hk with rfl | rfl; exact hB6.lt; exact hB7.lt), fun k hk hlt => rfl⟩
    · have hnb : (((f.num : Nat) : Int) == num) = false := by rw [beq_eq_false_iff_ne]; exact hn
      have HM : Hid (hitF num kind (f, dp) = false) := Lib.hid (by simp [hitF, hn])
      clear hn
      gi_wp2_with fail
      exact ⟨_, ⟨rfl, h0.snoc HM.out, hB4, hB5, hB6, hB7, hB, hsz⟩, Foot.refl _ _, (fun k hk => by rcases hk with rfl | rfl; exact hB6.lt; exact hB7.lt), fun k hk hlt => rfl⟩
  case done =>
    rintro D S W hD ⟨rfl, h0, hB4, hB5, hB6, hB7, hB, hsz⟩ hK
    have e60 := hB6.cell 0 _ rfl
    have f60 := hB6.free 0 (by simp)
    have e61 := hB6.cell 1 _ rfl
    have f61 := hB6.free 1 (by simp)
    have e62 := hB6.cell 2 _ rfl
    have f62 := hB6.free 2 (by simp)
    have e63 := hB6.cell 3 _ rfl
    have f63 := hB6.free 3 (by simp)
    have e64 := hB6.cell 4 _ rfl
    have f64 := hB6.free 4 (by simp)
    have e65 := hB6.cell 5 _ rfl
    have f65 := hB6.free 5 (by simp)
    have e70 := hB7.cell 0 _ rfl
    have f70 := hB7.free 0 (by simp)
    gi_wp2_with fail
    obtain ⟨W3, hw3⟩ : ∃ W3, W3 = ((((((W.setCell ⟨p6, 0, none⟩ (.int .i64 0)).setCell ⟨p6, 1, none⟩ (.int .i64 0)).setCell ⟨p6, 2, none⟩ (.int .i64 0)).setCell ⟨p6, 3, none⟩ (.int .u64 0)).setCell ⟨p6, 4, none⟩ (.string ⟨#[]⟩)).setCell ⟨p6, 5, none⟩ (.int .i64 0)).setCell ⟨p7, 0, none⟩ (.bool false) := ⟨_, rfl⟩
    rw [← hw3]
    have hR6 : BoxL W3 p6 [.int .i64 0, .int .i64 0, .int .i64 0, .int .u64 0, .string ⟨#[]⟩, .int .i64 0] := by rw [hw3]; exact ((((((hB6.set 0 _ (by simp)).set 1 _ (by simp)).set 2 _ (by simp)).set 3 _ (by simp)).set 4 _ (by simp)).set 5 _ (by simp)).setOther h67 0 _
    have hR7 : BoxL W3 p7 [.bool false] := by rw [hw3]; exact ((((((hB7.setOther h76 0 _).setOther h76 1 _).setOther h76 2 _).setOther h76 3 _).setOther h76 4 _).setOther h76 5 _).set 0 _ (by simp)
    have hB3 : Below w.heap.size w W3 := by rw [hw3]; exact ((((((hB.setCell (p := ⟨p6, 0, none⟩) (by show w.heap.size ≤ p6; omega) _).setCell (p := ⟨p6, 1, none⟩) (by show w.heap.size ≤ p6; omega) _).setCell (p := ⟨p6, 2, none⟩) (by show w.heap.size ≤ p6; omega) _).setCell (p := ⟨p6, 3, none⟩) (by show w.heap.size ≤ p6; omega) _).setCell (p := ⟨p6, 4, none⟩) (by show w.heap.size ≤ p6; omega) _).setCell (p := ⟨p6, 5, none⟩) (by show w.heap.size ≤ p6; omega) _).setCell (p := ⟨p7, 0, none⟩) (by show w.heap.size ≤ p7; omega) _
    have hkeep : ∀ k, p7 < k → W3.heap[k]? = W.heap[k]? := fun k hk => by rw [hw3]; exact (((((((Below.heap_setCell _ _ _ _ (by show k ≠ p7; omega)).trans (Below.heap_setCell _ _ _ _ (by show k ≠ p6; omega))).trans (Below.heap_setCell _ _ _ _ (by show k ≠ p6; omega))).trans (Below.heap_setCell _ _ _ _ (by show k ≠ p6; omega))).trans (Below.heap_setCell _ _ _ _ (by show k ≠ p6; omega))).trans (Below.heap_setCell _ _ _ _ (by show k ≠ p6; omega))).trans (Below.heap_setCell _ _ _ _ (by show k ≠ p6; omega)))
    have hK3 := (hkeep D (by omega)).trans hK
    clear hw3 e60 f60 e61 f61 e62 f62 e63 f63 e64 f64 e65 f65 e70 f70
    have hx := ext_deferredP hK3
    have h60 := (hR6.ext hx (by simp)).cell 0 _ rfl
    have h61 := (hR6.ext hx (by simp)).cell 1 _ rfl
    have h62 := (hR6.ext hx (by simp)).cell 2 _ rfl
    have h63 := (hR6.ext hx (by simp)).cell 3 _ rfl
    have h64 := (hR6.ext hx (by simp)).cell 4 _ rfl
    have h65 := (hR6.ext hx (by simp)).cell 5 _ rfl
    have h70 := (hR7.ext hx (by simp)).cell 0 _ rfl
    have hnone : lastL l num kind = none := List.find?_eq_none.2 (fun y hy => by rw [h0 y hy]; simp)
    refine ⟨by simp, .inl ⟨_, _, rfl, run_takeDeferred hK3, ?_⟩⟩
    refine ⟨.tuple #[mfV (zeroF, 0), .bool false], ?_, ?_⟩
    · simp [results, Try.results41, go_sem, mfV, zeroF, h60, h61, h62, h63, h64, h65, h70]
    · rw [hnone]
      exact ⟨rfl, below_ext hB3 hx (by have := hbel.size; omega) hB3.size⟩
  case stop =>
    rintro D c pre S W hD hp ⟨rfl, ⟨x, ⟨pre0, rfl, h0, hx0⟩, hB6⟩, hB7, hB⟩ hK
    have hx := ext_deferredP hK
    have h60 := (hB6.ext hx (by simp [mcells])).cell 0 _ rfl
    have h61 := (hB6.ext hx (by simp [mcells])).cell 1 _ rfl
    have h62 := (hB6.ext hx (by simp [mcells])).cell 2 _ rfl
    have h63 := (hB6.ext hx (by simp [mcells])).cell 3 _ rfl
    have h64 := (hB6.ext hx (by simp [mcells])).cell 4 _ rfl
    have h65 := (hB6.ext hx (by simp [mcells])).cell 5 _ rfl
    have h70 := (hB7.ext hx (by simp)).cell 0 _ rfl
    gi_wp2_with fail
    refine ⟨by simp, .inl ⟨_, _, rfl, run_takeDeferred hK, ?_⟩⟩
    refine ⟨.tuple #[mfV x, .bool true], ?_, ?_⟩
    · simp [results, Try.results41, go_sem, mfV, h60, h61, h62, h63, h64, h65, h70]
    · obtain ⟨rest, hrest⟩ := hp
      have hsome : lastL l num kind = some x := by unfold lastL; rw [← hrest]; exact find_hit h0 hx0
      rw [hsome]
      exact ⟨rfl, below_ext hB hx (by have := hbel.size; omega) hB.size⟩
  · rintro pre S W W' ⟨rfl, h0, hB4, hB5, hB6, hB7, hB, hsz⟩ hx
    exact ⟨rfl, h0, hB4.ext hx (by simp), hB5.ext hx (by simp), hB6.ext hx (by simp), hB7.ext hx (by simp), below_ext hB hx (by omega) hB.size, Nat.le_trans hsz hx.size⟩
  · rintro c pre S W W' ⟨rfl, ⟨x, hx9, hB6⟩, hB7, hB⟩ hx
    exact ⟨rfl, ⟨x, hx9, hB6.ext hx (by simp [mcells])⟩, hB7.ext hx (by simp), below_ext hB hx (by omega) hB.size⟩
  · exact ⟨rfl, (by intro y hy; cases hy), hr4, hr5, hr6, hr7, hbel, Nat.le_refl _⟩
  · rintro x a' W W' ⟨b9, i, hq9, hB9, rfl⟩ hx
    exact ⟨b9, i, hq9, hB9.ext hx (by simp [mcells]), rfl⟩
end Go.Proofs.Ytjcldnkgidfifaa
