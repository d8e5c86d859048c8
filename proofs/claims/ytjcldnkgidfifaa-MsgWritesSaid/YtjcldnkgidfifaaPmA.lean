/-
  pmsg: walks (1): New, put, PutUint.
-/
import Derived.Test.YtjcldnkgidfifaaPbC
import Derived.Test.YtjcldnkgidfifaaHeapO
import Derived.Test.YtjcldnkgidfifaaSeqT
import Derived.Deep.LoopGhost
import Derived.WalkKit
import Derived.OwnWalk
import Derived.WalkMore
import Derived.Deep.DeepCutAuto
namespace Go.Proofs.Ytjcldnkgidfifaa
open Go.RowKit
set_option linter.unusedVariables false
set_option linter.unusedSimpArgs false

theorem Try.info81 : (Try.prog.info? 81).map (fun i => (i.zero, i.size, i.bytes)) = some (some (.agg #[.int .i64 0, .int .i64 0, .int .i64 0, .int .u64 0, .string ⟨#[]⟩, .int .i64 0]), 6, 56) := by kernel_rfl
theorem E6 : ElemK Try.prog 73 81 (.agg #[.int .i64 0, .int .i64 0, .int .i64 0, .int .u64 0, .string ⟨#[]⟩, .int .i64 0]) 6 56 := elemK_of Try.underlying73 Try.info81 rfl (by decide)


def mcells (x : Fld × Int) : List Value := [.int .i64 (x.1.num : Int), .int .i64 (x.1.kind : Int), .int .i64 (x.1.place : Int), .int .u64 (x.1.val : Int), .string ⟨x.1.data.toArray⟩, .int .i64 x.2]
def mrow (l : List (Fld × Int)) : List Value := l.flatMap mcells
theorem mrow_snoc (l : List (Fld × Int)) (x : Fld × Int) : mrow (l ++ [x]) = mrow l ++ mcells x := by simp [mrow]
/-- A message at an address: its fields (and the places of their data), its error. -/
structure MsgAt (B : Nat) (w : World) (p : Nat) (v : Value) (l : List (Fld × Int)) (e : Int) : Prop where
  box : BoxL w p [v, .int .i64 e]
  row : OwnsK 6 B 81 w v l.length (mrow l)
  ne : v.ownBlock ≠ some p
  low : B ≤ p
def Ow (p : Nat) (v : Value) (k : Nat) : Prop := k = p ∨ v.ownBlock = some k
theorem MsgAt.keep {S : Nat → Prop} {B p : Nat} {w w' : World} {v : Value} {l : List (Fld × Int)} {e : Int} (h : MsgAt B w p v l e) (hk : Keep S w w') (hS : ∀ k, Ow p v k → ¬ S k) : MsgAt B w' p v l e :=
  ⟨h.box.keep hk (hS _ (.inl rfl)), h.row.keep hk (fun g hg => hS _ (.inr hg)), h.ne, h.low⟩
theorem MsgAt.kept {B p : Nat} {w w' : World} {v : Value} {l : List (Fld × Int)} {e : Int} (h : MsgAt B w p v l e) (hb : Below w.heap.size w w') : MsgAt B w' p v l e := h.keep (S := fun _ => False) (Keep.of_below hb) (fun _ _ h => h)
theorem MsgAt.ow {B p : Nat} {w : World} {v : Value} {l : List (Fld × Int)} {e : Int} (h : MsgAt B w p v l e) : ∀ k, Ow p v k → B ≤ k ∧ k < w.heap.size := fun k hk => by
  rcases hk with rfl | hk
  · exact ⟨h.low, h.box.lt⟩
  · exact h.row.lt k hk
/-- What a call that turns a message leaves. -/
def MsgStep (B p : Nat) (v : Value) (w : World) (l' : List (Fld × Int)) (e' : Int) (w' : World) : Prop :=
  ∃ v', MsgAt B w' p v' l' e' ∧ Keep (Ow p v) w w' ∧ (∀ g, v'.ownBlock = some g → v.ownBlock = some g ∨ w.heap.size ≤ g)
theorem MsgStep.refl {B p : Nat} {w : World} {v : Value} {l : List (Fld × Int)} {e : Int} (h : MsgAt B w p v l e) : MsgStep B p v w l e w := ⟨v, h, Keep.refl _ _, fun g hg => .inl hg⟩
theorem MsgStep.of_below {B p : Nat} {w w' : World} {v : Value} {l : List (Fld × Int)} {e : Int} (h : MsgAt B w p v l e) (hb : Below w.heap.size w w') : MsgStep B p v w l e w' := ⟨v, h.kept hb, Keep.of_below hb, fun g hg => .inl hg⟩
theorem MsgStep.trans {B p : Nat} {a b c : World} {v : Value} {l l' : List (Fld × Int)} {e e' : Int} (h : MsgStep B p v a l e b) (h' : ∀ v', MsgAt B b p v' l e → MsgStep B p v' b l' e' c) : MsgStep B p v a l' e' c := by
  obtain ⟨v1, h1, h2, h3⟩ := h
  obtain ⟨v2, k1, k2, k3⟩ := h' v1 h1
  refine ⟨v2, k1, h2.trans k2 (fun k hk hs => ?_), fun g hg => ?_⟩
  · rcases hs with rfl | hs
    · exact .inl rfl
    · rcases h3 k hs with h4 | h4
      · exact .inr h4
      · omega
  · rcases k3 g hg with h4 | h4
    · exact h3 g h4
    · exact .inr (Nat.le_trans h2.size h4)
theorem MsgStep.then {B p : Nat} {a b c : World} {v : Value} {l : List (Fld × Int)} {e : Int} (h : MsgStep B p v a l e b) (hb : Below b.heap.size b c) : MsgStep B p v a l e c := h.trans fun v' h' => MsgStep.of_below h' hb
theorem MsgStep.below {B p : Nat} {a b : World} {v : Value} {l l0 : List (Fld × Int)} {e e0 : Int} (h : MsgStep B p v a l e b) (h0 : MsgAt B a p v l0 e0) : Below B a b := by
  obtain ⟨v1, h1, h2, h3⟩ := h
  exact h2.below (fun k hk => (h0.ow k hk).1) (by have := h0.low; have := h0.box.lt; omega)
/-- What putting a field makes of a message. -/
def stepM (s : List (Fld × Int) × Int) (num kind : Int) (val : Nat) (data : List UInt8) : List (Fld × Int) × Int :=
  if s.2 ≠ 0 then s else if rightF num kind val data = true then (s.1 ++ [(⟨num.toNat, kind.toNat, 0, val, data⟩, 0)], 0) else (s.1, 1)
/-- append, as an operation of a drawn region: a struct of K cells. -/
theorem step_appendK {P : Program} {t e : TypeId} {z : Value} {K bytes : Nat} (E : ElemK P t e z K bytes) {w : World} {o : Oper} {a : Act} {Kn : Act → World → Prop} {Q : Exit → Act → World → Prop} {s x : Operand} {us : List Value} {base n : Nat} {v : Value} {xs : List Value} {ad : Addr}
    (hown : OwnsK K base e w v n xs) (ho : o.op = .call { callee := .builtin .append, args := #[s, x], argTypes := #[t, t] }) (hs : a.eval s = v) (hx : a.eval x = .slice (some ad) 1 1) (hul : us.length = K) (hu : ∀ j u', us[j]? = some u' → w.cell? (ad.add j) = some u') (h1 : ∀ u ∈ us, u.oneCell' = true) (hl : (n + 1) * bytes ≤ 140737488355328) (hm : n + 1 ≤ maxLen) (hbase : base ≤ w.heap.size)
    (h : ∀ v' w', OwnsK K base e w' v' (n + 1) (xs ++ us) → w.grownBy w' v.ownBlock → (∀ g, v'.ownBlock = some g → v.ownBlock = some g ∨ w.heap.size ≤ g) → Kn (a.put o.dst v') w') : Oper.wp P o a w Kn Q := by
  obtain ⟨v', w', hrun, r1, r2, r3, r4⟩ := run_appendK E o.type hown ad 1 us hul hu h1 hl hm hbase
  unfold Oper.wp
  simp [execOp, ho, resolve, invoke, builtin, hs, hx, hrun, Result.andThen]
  exact h _ _ r1 r2 r3
theorem oneCell_mcells (x : Fld × Int) : ∀ u ∈ mcells x, u.oneCell' = true := by simp [mcells, Value.oneCell']
theorem OwnsK.grown {K base : Nat} {e : TypeId} {w w' : World} {v : Value} {n : Nat} {xs : List Value} {g : Option Nat} (h : OwnsK K base e w v n xs) (hg : w.grownBy w' g) (hne : ∀ k, v.ownBlock = some k → g ≠ some k) : OwnsK K base e w' v n xs :=
  h.block fun k hk => hg.block k (h.lt k hk).2 (fun e' => hne k hk (by rw [e']))
theorem BoxL.grown {w w' : World} {b : Nat} {xs : List Value} {g : Option Nat} (h : BoxL w b xs) (hg : w.grownBy w' g) (hne : g ≠ some b) : BoxL w' b xs := h.block (hg.block b h.lt (fun e => hne e.symm))

set_option maxRecDepth 100000 in
set_option maxHeartbeats 1000000 in
/-- New. -/
theorem new_any (w : World) : Calls Try.prog 9 #[] w fun e w' => ∃ p, e = .returned (.pointer (some ⟨p, 0, none⟩)) ∧ MsgAt w.heap.size w' p (.slice none 0 0) [] 0 ∧ Below w.heap.size w w' := by
  go_enter Try.func9, Try.ntmps9
  go_wp2_with fail
  go_ret
  refine ⟨w.heap.size, rfl, ⟨BoxL.of2 (by go_simp) (by go_simp) (by go_simp) (by go_simp), OwnsK.nil _ _ _ _, by simp [Value.ownBlock], Nat.le_refl _⟩, (Below.refl _ w).alloc (Nat.le_refl _) _⟩

set_option maxRecDepth 100000 in
set_option maxHeartbeats 4000000 in
/-- put. -/
theorem put_any (B pm : Nat) (v : Value) (l : List (Fld × Int)) (e num kind : Int) (val : Nat) (data : List UInt8) (w : World) (h : MsgAt B w pm v l e) (hval : val < 18446744073709551616) (hdl : data.length ≤ 9223372036854775807) (hll : l.length ≤ 1000000) : Calls Try.prog 37 #[.pointer (some ⟨pm, 0, none⟩), fldV num kind 0 val data] w fun e' w' => (∃ r, e' = .returned r) ∧ MsgStep B pm v w (stepM (l, e) num kind val data).1 (stepM (l, e) num kind val data).2 w' := by
  obtain ⟨ao, cap, rfl, hcap, hcapm, hnil⟩ := h.row.slice
  have hbm := h.box
  have hrow := h.row
  have hne := Lib.hid h.ne
  have hlow := Lib.hid h.low
  have hpm := h.box.lt
  obtain ⟨w0, hw0⟩ : ∃ w0, w0 = (w.alloc (.cells #[.int .i64 num, .int .i64 kind, .int .i64 0, .int .u64 (val : Int), .string ⟨data.toArray⟩] 77)) := ⟨_, rfl⟩
  have hbf : Below w.heap.size w w0 := by rw [hw0]; exact ((Below.refl _ w).alloc (Nat.le_refl _) _)
  obtain ⟨px, hpx⟩ : ∃ p, p = w.heap.size := ⟨_, rfl⟩
  have hbx : BoxL w0 px [.int .i64 num, .int .i64 kind, .int .i64 0, .int .u64 (val : Int), .string ⟨data.toArray⟩] := by rw [hw0, hpx]; exact BoxL.of5 (by go_simp) (by go_simp) (by go_simp) (by go_simp) (by go_simp) (by go_simp) (by go_simp) (by go_simp) (by go_simp) (by go_simp)
  have HP : Hid (w.heap.size ≤ px) := Lib.hid (by omega)
  have HW := Lib.hid hw0; clear hw0
  go_enter Try.func37, Try.ntmps37
  go_upto_region 1 with fail
  rw [← HW.out, ← hpx]
  clear hpx HW
  replace hbm := hbm.kept hbf
  replace hrow := hrow.kept hbf
  replace HP : Hid (w.heap.size ≤ px ∧ pm < w.heap.size) := Lib.hid ⟨HP.out, hpm⟩
  by_cases he : e = 0
  case neg =>
    have heb : (e == 0) = false := by rw [beq_eq_false_iff_ne]; exact he
    have hst : stepM (l, e) num kind val data = (l, e) := by unfold stepM; rw [if_pos he]
    have HST := Lib.hid hst
    clear hst
    have em0 := hbm.cell 0 _ rfl
    have em1 := hbm.cell 1 _ rfl
    go_wp2_with fail
    (try simp only [Exit.inBlock, Exit.then])
    refine bodyPost_ret (results_none rfl _ _ _) rfl ?_
    refine ⟨⟨_, rfl⟩, ?_⟩
    rw [HST.out]
    exact MsgStep.of_below h hbf
  case pos =>
    subst he
    obtain ⟨T, hT⟩ : ∃ T, T = (putR num kind val data).1 := ⟨_, rfl⟩
    obtain ⟨c, hc⟩ : ∃ c, c = (putR num kind val data).2 := ⟨_, rfl⟩
    have HR : Hid ((T, c) = putR num kind val data) := Lib.hid (by rw [hT, hc])
    obtain ⟨r, hr⟩ : ∃ r, r = rightF num kind val data := ⟨_, rfl⟩
    have HRR := Lib.hid hr
    clear hT hc hr
    have ex0 := hbx.cell 0 _ rfl
    have ex1 := hbx.cell 1 _ rfl
    have ex2 := hbx.cell 2 _ rfl
    have ex3 := hbx.cell 3 _ rfl
    have ex4 := hbx.cell 4 _ rfl
    have em0 := hbm.cell 0 _ rfl
    have em1 := hbm.cell 1 _ rfl
    go_wp2_with fail
    refine (pput_any num kind 0 val data T c _ HR hval hdl).mono ?_
    rintro e w1 ⟨rfl, hb⟩
    clear ex0 ex1 ex2 ex3 ex4 em0 em1
    replace hbx := hbx.kept hb
    replace hbm := hbm.kept hb
    replace hrow := hrow.kept hb
    replace hbf := hbf.trans (hb.mono hbf.size)
    clear hb
    cases r
    case false =>
      have h9 := HR.out; rw [putR_no HRR.out] at h9; injection h9 with h8 h7; subst h8; subst h7
      have hst : stepM (l, 0) num kind val data = (l, 1) := by unfold stepM; rw [if_neg (by simp), if_neg (by rw [← HRR.out]; simp)]
      have HST := Lib.hid hst
      clear hst HR HRR
      have em0 := hbm.cell 0 _ rfl
      have fm0 := hbm.free 0 (by simp)
      have em1 := hbm.cell 1 _ rfl
      have fm1 := hbm.free 1 (by simp)
      go_wp2_with fail
      (try simp only [Exit.inBlock, Exit.then])
      refine bodyPost_ret (results_none rfl _ _ _) rfl ?_
      clear em0 fm0 em1 fm1
      refine ⟨⟨_, rfl⟩, ?_⟩
      rw [HST.out]
      exact ⟨.slice ao l.length cap, ⟨hbm.set 1 _ (by simp), hrow.grown (grownBy_set (grownBy_refl _ (some pm)) 1 _) (fun k hk e9 => hne.out (by rw [hk, ← e9])), hne.out, hlow.out⟩, (Keep.of_below hbf).set pm 1 _ (.inl (.inl rfl)), fun g hg => .inl hg⟩
    case true =>
      have h9 := HR.out; rw [putR_yes HRR.out] at h9; injection h9 with h8 h7; subst h7
      obtain ⟨n, rfl, hn1, hn2, hcase⟩ := rightF_yes HRR.out
      obtain ⟨kd, rfl⟩ : ∃ kd : Nat, kind = (kd : Int) := by
        rcases hcase with h | h | h | h
        · exact ⟨0, h.1⟩
        · exact ⟨1, h.1⟩
        · exact ⟨5, h.1⟩
        · exact ⟨2, h.1⟩
      have hst : stepM (l, 0) (n : Int) (kd : Int) val data = (l ++ [(⟨n, kd, 0, val, data⟩, 0)], 0) := by unfold stepM; rw [if_neg (by simp), if_pos HRR.out.symm]; simp
      have HST := Lib.hid hst
      clear hst HR HRR h8 hcase
      have ex0 := hbx.cell 0 _ rfl
      have ex1 := hbx.cell 1 _ rfl
      have ex2 := hbx.cell 2 _ rfl
      have ex3 := hbx.cell 3 _ rfl
      have ex4 := hbx.cell 4 _ rfl
      have em0 := hbm.cell 0 _ rfl
      have em1 := hbm.cell 1 _ rfl
      go_upto_region 5 with fail
      clear ex0 ex1 ex2 ex3 ex4 em0 em1
      refine wp_region_seqT (S := fun w' => BoxL w' px [.int .i64 (n : Int), .int .i64 (kd : Int), .int .i64 0, .int .u64 (val : Int), .string ⟨data.toArray⟩] ∧ BoxL w' pm [.slice ao l.length cap, .int .i64 0]) [(true, 0), (true, 1), (true, 2), (true, 3), (true, 4), (true, 5), (true, 6), (false, 7), (false, 8), (true, 9), (true, 10)] (by kernel_rfl) (by kernel_rfl) (by kernel_rfl) (by kernel_rfl) (by kernel_rfl) (by kernel_rfl) (fun d _ _ _ _ h => by cases d <;> exact h) ⟨hbx.drew, hbm.drew⟩ (fun _ => ?_)
      simp only [pickOps, List.append_eq, List.cons_append, List.nil_append, List.getElem?_toArray, List.getElem?_cons_succ, List.getElem?_cons_zero]
      have hb : Below w1.heap.size w1 w1.drew := (Below.refl _ _).drew
      generalize w1.drew = w2 at hb ⊢
      replace hbx := hbx.kept hb
      replace hbm := hbm.kept hb
      replace hrow := hrow.kept hb
      replace hbf := hbf.trans (hb.mono hbf.size)
      clear hb
      repeat (first | (refine seq_take (v := ?_) (by rfl) ?_ ?_; rotate_left; (· intro w hSw; (try dsimp only at hSw); obtain ⟨hLx, hLm⟩ := hSw; have ex0 := hLx.cell 0 _ rfl; have ex1 := hLx.cell 1 _ rfl; have ex2 := hLx.cell 2 _ rfl; have ex3 := hLx.cell 3 _ rfl; have ex4 := hLx.cell 4 _ rfl; clear hLx; have em0 := hLm.cell 0 _ rfl; have em1 := hLm.cell 1 _ rfl; clear hLm; go_simp; all_goals with_reducible rfl); (try simp only [Act.put, List.setIfInBounds_toArray, List.set_cons_zero, List.set_cons_succ])) | (refine seq_leave (by rfl) ?_; (try simp only [Act.put, List.setIfInBounds_toArray, List.set_cons_zero, List.set_cons_succ])))
      refine seq_step (by rfl) (fun K hK => ?_)
      go_simp
      obtain ⟨w3, hwE⟩ : ∃ W, W = w2.alloc (.cells #[.int .i64 (n : Int), .int .i64 (kd : Int), .int .i64 0, .int .u64 (val : Int), .string ⟨data.toArray⟩, .int .i64 0] 81) := ⟨_, rfl⟩
      have hb : Below w2.heap.size w2 w3 := by rw [hwE]; exact (Below.refl _ _).alloc (Nat.le_refl _) _
      have hcs : ∀ j u, (mcells (⟨n, kd, 0, val, data⟩, 0))[j]? = some u → w3.cell? ((⟨w2.heap.size, 0, none⟩ : Addr).add j) = some u := by
        intro j u hj
        rw [Addr.add_lit, Nat.zero_add, hwE]
        exact (BoxL.new w2 (mcells (⟨n, kd, 0, val, data⟩, 0)) 81).cell j u hj
      rw [← hwE]
      clear hwE
      replace hbx := hbx.kept hb
      replace hbm := hbm.kept hb
      replace hrow := hrow.kept hb
      replace hbf := hbf.trans (hb.mono hbf.size)
      clear hb
      first | refine hK.out _ _ ⟨hbx, hbm⟩ (fun _ => ?_) | (go_wp2_with fail; refine hK.out _ _ ⟨hbx, hbm⟩ (fun _ => ?_))
      clear hK K
      (try simp only [Act.put, List.setIfInBounds_toArray, List.set_cons_zero, List.set_cons_succ])
      refine seq_step (by rfl) (fun K hK => ?_)
      refine step_appendK E6 hrow rfl rfl rfl rfl hcs (oneCell_mcells _) (by omega) (by unfold maxLen; omega) (by have := hbf.size; have := hlow.out; omega) ?_
      intro v9 w4 ho9 hg9 hn9
      rw [show mrow l ++ mcells (⟨n, kd, 0, val, data⟩, 0) = mrow (l ++ [(⟨n, kd, 0, val, data⟩, 0)]) from (mrow_snoc _ _).symm] at ho9
      obtain ⟨ao2, cap2, rfl, _, _, _⟩ := ho9.slice
      have hk9 : Keep (Ow pm (.slice ao l.length cap)) w w4 := (Keep.of_below hbf).trans (S' := fun k => (Value.slice ao l.length cap).ownBlock = some k) ⟨hg9.os, hg9.tape, hg9.output, hg9.size, fun k hk hs => hg9.block k hk (fun e9 => hs e9.symm)⟩ (fun k _ hs => .inr hs)
      have hn8 : ∀ g, (Value.slice ao2 (l.length + 1) cap2).ownBlock = some g → (Value.slice ao l.length cap).ownBlock = some g ∨ w.heap.size ≤ g := fun g hg => by rcases hn9 g hg with h4 | h4; exact .inl h4; exact .inr (Nat.le_trans hbf.size h4)
      have hsz9 := Nat.le_trans hbf.size hg9.size
      replace hbx := hbx.grown hg9 (fun e9 => by have := (h.row.lt px e9).2; have := HP.out; omega)
      replace hbm := hbm.grown hg9 hne.out
      have hne2 : (Value.slice ao2 (l.length + 1) cap2).ownBlock ≠ some pm := fun e9 => by rcases hn8 pm e9 with h4 | h4; exact hne.out h4; have := HP.out; omega
      clear hrow hg9 hcs hbf hn9
      have HO := Lib.hid ho9
      have HK := Lib.hid hk9
      have HN := Lib.hid hn8
      have HN2 := Lib.hid hne2
      clear ho9 hk9 hn8 hne2
      first | refine hK.out _ _ ⟨hbx, hbm⟩ (fun _ => ?_) | (go_wp2_with fail; refine hK.out _ _ ⟨hbx, hbm⟩ (fun _ => ?_))
      clear hK K
      (try simp only [Act.put, List.setIfInBounds_toArray, List.set_cons_zero, List.set_cons_succ])
      repeat (first | (refine seq_take (v := ?_) (by rfl) ?_ ?_; rotate_left; (· intro w hSw; (try dsimp only at hSw); obtain ⟨hLx, hLm⟩ := hSw; have ex0 := hLx.cell 0 _ rfl; have ex1 := hLx.cell 1 _ rfl; have ex2 := hLx.cell 2 _ rfl; have ex3 := hLx.cell 3 _ rfl; have ex4 := hLx.cell 4 _ rfl; clear hLx; have em0 := hLm.cell 0 _ rfl; have em1 := hLm.cell 1 _ rfl; clear hLm; go_simp; all_goals with_reducible rfl); (try simp only [Act.put, List.setIfInBounds_toArray, List.set_cons_zero, List.set_cons_succ])) | (refine seq_leave (by rfl) ?_; (try simp only [Act.put, List.setIfInBounds_toArray, List.set_cons_zero, List.set_cons_succ])))
      refine seq_end ?_
      refine tail_end rfl rfl ?_
      have em0 := hbm.cell 0 _ rfl
      have fm0 := hbm.free 0 (by simp)
      have em1 := hbm.cell 1 _ rfl
      have fm1 := hbm.free 1 (by simp)
      go_simp
      clear em0 fm0 em1 fm1
      (try go_wp2_with fail)
      (try simp only [Exit.inBlock, Exit.then])
      refine bodyPost_end (results_none rfl _ _ _) rfl ?_
      refine ⟨⟨_, rfl⟩, ?_⟩
      rw [HST.out]
      exact ⟨.slice ao2 (l.length + 1) cap2, ⟨hbm.set 0 _ (by simp), (by rw [List.length_append, List.length_singleton]; exact HO.out.grown (grownBy_set (grownBy_refl _ (some pm)) 0 _) (fun k hk e9 => HN2.out (by rw [hk, ← e9]))), HN2.out, hlow.out⟩, HK.out.set pm 0 _ (.inl (.inl rfl)), HN.out⟩

end Go.Proofs.Ytjcldnkgidfifaa
