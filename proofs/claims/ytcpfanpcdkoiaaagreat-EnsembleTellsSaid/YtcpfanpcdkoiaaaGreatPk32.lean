/-
  Pk32: LawEt (what is needed of them).
-/
import Derived.Test.YtcpfanpcdkoiaaaGreatPk25
import Derived.Test.YtcpfanpcdkoiaaaGreatPk27
import Derived.Test.YtcpfanpcdkoiaaaGreatPk28
import Derived.Test.YtcpfanpcdkoiaaaGreatPk30
import Derived.Test.YtcpfanpcdkoiaaaGreatPk31
set_option maxRecDepth 100000
set_option linter.unusedVariables false
set_option linter.unusedSimpArgs false

namespace Go.Proofs.YtcpfanpcdkoiaaaGreat
open Go.RowKit Go.Shelf


theorem eq_seqnilW (w : World) (a b c d : Nat) : (binOp .eql 84 (.func (.func 107) #[] #[.pointer (some ⟨a, 0, none⟩), .pointer (some ⟨b, 0, none⟩), .pointer (some ⟨c, 0, none⟩), .pointer (some ⟨d, 0, none⟩)]) .nilFunc).run Tryz.prog w = .ok (.bool false) w := by kernel_rfl
theorem IterU.sub {α : Type} {P : Program} {gf : Nat} {lb : Array Value} {Enc : World → Value → α → Prop} {xs : List α} {U V : Nat → Prop} {Kp : World → World → Prop} {w : World} (h : IterU P gf lb Enc xs U Kp w) (hUV : ∀ k, V k → U k) :
  IterU P gf lb Enc xs V Kp w := fun l J Jx S0 W1 hW hS => h l J Jx S0 W1 hW (fun k hk => ⟨hUV k (hS k hk).1, (hS k hk).2⟩)
theorem ints_pre {k : IntKind} {w : World} {ao : Option Addr} {c : Nat} {ns ms : List Int} (h : IntsI k w (.slice ao ns.length c) ns) (hp : ms <+: ns) : IntsI k w (.slice ao ms.length c) ms := by
 obtain ⟨ao', cap, hv, h1, h2, h3⟩ := h
 cases hv
 have hl := hp.length_le
 refine ⟨ao, c, rfl, by omega, h2, ?_⟩
 rcases h3 with h | ⟨b, off, rfl, hb, hc⟩
 ·left
  rw [h] at hp
  exact List.prefix_nil.1 hp
 ·right
  refine ⟨b, off, rfl, hb, fun i hi => ?_⟩
  rw [hc i (by omega)]
  obtain ⟨r, rfl⟩ := hp
  rw [List.getElem?_append_left hi]
theorem patV_natI (ws : List Nat) : patV ws = ivals .u64 (natI ws) := by unfold patV ivals natI; rw [List.map_map]; rfl
theorem natI_len (ws : List Nat) : (natI ws).length = ws.length := by unfold natI; simp
theorem owns_pats {D : Nat} {e : TypeId} {w : World} {v : Value} {ws : List Nat} (h : Owns D e w v (patV ws)) : IntsI .u64 w v (natI ws) := by
 rw [patV_natI] at h
 exact (ints_of_owns h).1
theorem cutW_pre (stop : Int) (ws : List Nat) : cutW stop ws <+: ws := by
 unfold cutW
 split
 ·exact List.take_prefix _ _
 ·exact List.prefix_rfl
theorem cutW_zero (ws : List Nat) : cutW 0 ws = ws := by unfold cutW; rw [if_neg (by omega)]
theorem cutW_len {stop : Int} (ws : List Nat) (h : 0 < stop) : min ((ws.length : Nat) : Int) stop = (((cutW stop ws).length : Nat) : Int) := by
 unfold cutW
 rw [if_pos h, List.length_take]
 omega
theorem natI_pre {a b : List Nat} (h : a <+: b) : natI a <+: natI b := h.map _
theorem below_keepE {B kb : Nat} {w w' : World} (h : Keep (fun k => k = kb) w w') (hk : B ≤ kb) (hB : B ≤ w.heap.size) : Below B w w' := h.below (fun k hk9 => by omega) hB
theorem BkIs.trimE {D kb : Nat} {S : Nat → Prop} {w : World} (h : BkIs D kb S w) : BkIs D kb (fun k => S k ∧ k < w.heap.size) w := by
 obtain ⟨bi, bw, vs, us, ls, a1, a2, a3, a4, a5, a6, a7, a8, a9⟩ := h
 exact ⟨bi, bw, vs, us, ls, a1, a2, a3, a4, a5, fun h => a6 h.1, fun k hk => ⟨a7 k hk, (a2.lt hk).2⟩, fun k hk => ⟨a8 k hk, (a3.lt hk).2⟩, a9⟩
theorem trees_short (ns : List EN) (h : ns.length ≤ 60) : (treesE ns).length ≤ 1000000 := Nat.le_trans (setT_len _) (by simp; omega)
set_option maxHeartbeats 8000000 in
theorem ensTells_e (v : Value) (e : EE) (bo : Option Addr) (bc : Nat) (no : Option Addr) (nc : Nat) (lo : Option Addr) (lc : Nat) (v2 : Value) (f : EE) (bo2 : Option Addr) (bc2 : Nat) (no2 : Option Addr) (nc2 : Nat) (lo2 : Option Addr) (lc2 : Nat) (tr nd tg stop : Int) (w : World) (h : EnsIs w v e bo bc no nc lo lc) (hh : EnsIs w v2 f bo2 bc2 no2 nc2 lo2 lc2) :
  Calls Tryz.prog 4 #[v, v2, .int .i64 tr, .int .i64 nd, .int .i64 tg, .int .i64 stop] w fun e' w' => e' = .returned (.bool true) ∧ Below w.heap.size w w' := by
 obtain ⟨eb, heb⟩ : ∃ b, ensB e = b := ⟨_, rfl⟩
 obtain ⟨fb, hfb⟩ : ∃ b, ensB f = b := ⟨_, rfl⟩
 have HEB := Lib.hid heb
 have HFB := Lib.hid hfb
 clear heb hfb
 have hv := h.val
 have hv2 := hh.val
 subst hv hv2
 have HE0 := Lib.hid h
 have HF0 := Lib.hid hh
 clear h hh
 have hE := fun W (hb : Below w.heap.size w W) => HE0.out.below hb
 have hF := fun W (hb : Below w.heap.size w W) => HF0.out.below hb
 have HEE := Lib.hid hE
 have HFF := Lib.hid hF
 clear hE hF
 obtain ⟨w0, hw0⟩ : ∃ w0, w0 = (w.alloc (.cells #[.int .i64 e.feats, .int .i64 e.tgts, .string ⟨e.agg.toArray⟩, .string ⟨e.post.toArray⟩, .slice bo e.base.length bc, .slice no e.nodes.length nc, .slice lo e.leaves.length lc] 75)).alloc (.cells #[.int .i64 f.feats, .int .i64 f.tgts, .string ⟨f.agg.toArray⟩, .string ⟨f.post.toArray⟩, .slice bo2 f.base.length bc2, .slice no2 f.nodes.length nc2, .slice lo2 f.leaves.length lc2] 75) := ⟨_, rfl⟩
 have hbf : Below w.heap.size w w0 := by rw [hw0]; exact ((Below.refl _ w).alloc (Nat.le_refl _) _).alloc (by simp <;> omega) _
 obtain ⟨pe, hpe⟩ : ∃ p, p = w.heap.size := ⟨_, rfl⟩
 obtain ⟨pf, hpf⟩ : ∃ p, p = w.heap.size + 1 := ⟨_, rfl⟩
 have hbe : BoxL w0 pe [.int .i64 e.feats, .int .i64 e.tgts, .string ⟨e.agg.toArray⟩, .string ⟨e.post.toArray⟩, .slice bo e.base.length bc, .slice no e.nodes.length nc, .slice lo e.leaves.length lc] := by rw [hw0, hpe]; exact BoxL.of7 (by go_simp) (by go_simp) (by go_simp) (by go_simp) (by go_simp) (by go_simp) (by go_simp) (by go_simp) (by go_simp) (by go_simp) (by go_simp) (by go_simp) (by go_simp) (by go_simp)
 have hbg : BoxL w0 pf [.int .i64 f.feats, .int .i64 f.tgts, .string ⟨f.agg.toArray⟩, .string ⟨f.post.toArray⟩, .slice bo2 f.base.length bc2, .slice no2 f.nodes.length nc2, .slice lo2 f.leaves.length lc2] := by rw [hw0, hpf]; exact BoxL.of7 (by go_simp) (by go_simp) (by go_simp) (by go_simp) (by go_simp) (by go_simp) (by go_simp) (by go_simp) (by go_simp) (by go_simp) (by go_simp) (by go_simp) (by go_simp) (by go_simp)
 have HW := Lib.hid hw0; clear hw0
 go_enter Tryz.func4, Tryz.ntmps4
 go_upto_region 1 with fail
 rw [← HW.out, ← hpf, ← hpe]
 clear hpe hpf HW
 obtain ⟨ea0, ea1, ea2, ea3, ea4, ea5, ea6⟩ := hbe.c7
 obtain ⟨eb0, eb1, eb2, eb3, eb4, eb5, eb6⟩ := hbg.c7
 cases eb
 case false =>
  go_wp2_with (first | (go_at_call 26; refine (ens_any _ e _ _ _ _ _ _ _ (HEE.out _ hbf) _ HEB.out).mono ?_; rintro e9 w1 ⟨rfl, hb1⟩; have hbf1 := hbf.trans (hb1.mono hbf.size)) | (go_at_call 27; refine (alive22_any _).mono ?_; rintro e9 w2 ⟨rfl, hb2⟩))
  go_ret
  exact ⟨rfl, hbf1.trans (hb2.mono hbf1.size)⟩
 case true =>
 go_wp2_with fail
 refine (ens_any _ e _ _ _ _ _ _ _ (HEE.out _ hbf) _ HEB.out).mono ?_
 rintro e9 w1 ⟨rfl, hb⟩
 clear ea0 ea1 ea2 ea3 ea4 ea5 ea6 eb0 eb1 eb2 eb3 eb4 eb5 eb6
 replace hbe := hbe.kept hb
 replace hbg := hbg.kept hb
 replace hbf := hbf.trans (hb.mono hbf.size)
 clear hb
 obtain ⟨ea0, ea1, ea2, ea3, ea4, ea5, ea6⟩ := hbe.c7
 obtain ⟨eb0, eb1, eb2, eb3, eb4, eb5, eb6⟩ := hbg.c7
 cases fb
 case false =>
  go_wp2_with (first | (go_at_call 26; refine (ens_any _ f _ _ _ _ _ _ _ (HFF.out _ hbf) _ HFB.out).mono ?_; rintro e9 w2 ⟨rfl, hb1⟩; have hbf1 := hbf.trans (hb1.mono hbf.size)) | (go_at_call 27; refine (alive22_any _).mono ?_; rintro e9 w3 ⟨rfl, hb2⟩))
  go_ret
  exact ⟨rfl, hbf1.trans (hb2.mono hbf1.size)⟩
 case true =>
 go_wp2_with fail
 refine (ens_any _ f _ _ _ _ _ _ _ (HFF.out _ hbf) _ HFB.out).mono ?_
 rintro e9 w2 ⟨rfl, hb⟩
 clear ea0 ea1 ea2 ea3 ea4 ea5 ea6 eb0 eb1 eb2 eb3 eb4 eb5 eb6
 replace hbe := hbe.kept hb
 replace hbg := hbg.kept hb
 replace hbf := hbf.trans (hb.mono hbf.size)
 clear hb
 have HEL : Hid (e.nodes.length ≤ 60 ∧ e.leaves.length ≤ 60 ∧ e.base.length ≤ 30) := Lib.hid (ensB_out HEB.out)
 clear HEB HFB
 go_wp2_with fail
 refine (alive22_any _).mono ?_
 rintro e9 w3 ⟨rfl, hb⟩
 replace hbe := hbe.kept hb
 replace hbg := hbg.kept hb
 replace hbf := hbf.trans (hb.mono hbf.size)
 clear hb
 obtain ⟨c, hc⟩ : ∃ c, checkE e = c := ⟨_, rfl⟩
 have HC := Lib.hid hc
 clear hc
 obtain ⟨ea0, ea1, ea2, ea3, ea4, ea5, ea6⟩ := hbe.c7
 go_wp2_with fail
 (with_reducible refine (check_any _ e _ _ _ _ _ _ _ (HEE.out _ hbf) (by have := HEL.out; omega) c HC).mono ?_)
 rintro e9 w4 ⟨rfl, hb⟩
 clear ea0 ea1 ea2 ea3 ea4 ea5 ea6
 replace hbe := hbe.kept hb
 replace hbg := hbg.kept hb
 replace hbf := hbf.trans (hb.mono hbf.size)
 clear hb
 obtain ⟨ea0, ea1, ea2, ea3, ea4, ea5, ea6⟩ := hbe.c7
 go_wp2_with fail
 (with_reducible refine (rcheck_any _ e _ _ _ _ _ _ c _ (HEE.out _ hbf) (by have := HEL.out; omega) (by have := HEL.out; omega) (by have := HEL.out; omega) HC).mono ?_)
 rintro e9 w5 ⟨rfl, hb⟩
 clear ea0 ea1 ea2 ea3 ea4 ea5 ea6
 replace hbe := hbe.kept hb
 replace hbg := hbg.kept hb
 replace hbf := hbf.trans (hb.mono hbf.size)
 clear hb
 obtain ⟨cs, hcs⟩ : ∃ s, wordE c = s := ⟨_, rfl⟩
 obtain ⟨cb, hcb⟩ : ∃ b, decide (c = 0) = b := ⟨_, rfl⟩
 obtain ⟨sb, hsb⟩ : ∃ b, decide (e = f) = b := ⟨_, rfl⟩
 rw [hcs, hcb]
 have HSB := Lib.hid hsb
 clear hcs hcb hsb HC
 have ncs : (decide (cs = cs)) = true := by simp
 have ncb : (cb != cb) = false := by simp
 have nsb : (sb != sb) = false := by simp
 go_upto_region 5 with fail
 refine wp_region_seq (S := fun w' => BoxL w' pe [.int .i64 e.feats, .int .i64 e.tgts, .string ⟨e.agg.toArray⟩, .string ⟨e.post.toArray⟩, .slice bo e.base.length bc, .slice no e.nodes.length nc, .slice lo e.leaves.length lc] ∧ BoxL w' pf [.int .i64 f.feats, .int .i64 f.tgts, .string ⟨f.agg.toArray⟩, .string ⟨f.post.toArray⟩, .slice bo2 f.base.length bc2, .slice no2 f.nodes.length nc2, .slice lo2 f.leaves.length lc2]) [(true, 0), (true, 1), (true, 2), (true, 3), (true, 4), (true, 5), (true, 6), (true, 7), (true, 8), (true, 9), (true, 10), (true, 12), (true, 13), (false, 11), (false, 14), (true, 15), (true, 16), (true, 17), (true, 18), (true, 19), (false, 20), (true, 21), (true, 22)] (by kernel_rfl) (by kernel_rfl) (by kernel_rfl) (by kernel_rfl) (by kernel_rfl) (fun d _ _ _ _ h => by cases d <;> exact h) ⟨hbe.drew, hbg.drew⟩ (fun _ => ?_)
 simp only [pickOps, List.append_eq, List.cons_append, List.nil_append, List.getElem?_toArray, List.getElem?_cons_succ, List.getElem?_cons_zero]
 have hb : Below w5.heap.size w5 w5.drew := (Below.refl _ _).drew
 generalize w5.drew = wd at hb ⊢
 replace hbe := hbe.kept hb
 replace hbg := hbg.kept hb
 replace hbf := hbf.trans (hb.mono hbf.size)
 clear hb
 repeat (first | (refine seq_take (v := ?_) (by rfl) ?_ ?_; rotate_left; (· intro w hSw; (try dsimp only at hSw); obtain ⟨hL0, hN0⟩ := hSw; obtain ⟨ea0, ea1, ea2, ea3, ea4, ea5, ea6⟩ := hL0.c7; obtain ⟨eb0, eb1, eb2, eb3, eb4, eb5, eb6⟩ := hN0.c7; clear hL0 hN0; go_simp; all_goals with_reducible rfl); (try simp only [Act.put, List.setIfInBounds_toArray, List.set_cons_zero, List.set_cons_succ])) | (refine seq_leave (by rfl) ?_; (try simp only [Act.put, List.setIfInBounds_toArray, List.set_cons_zero, List.set_cons_succ])))
 refine seq_step (by rfl) (fun K hK => ?_)
 go_simp
 go_at_call 30
 (with_reducible refine (same_any _ e _ _ _ _ _ _ _ f _ _ _ _ _ _ _ (HEE.out _ hbf) (HFF.out _ hbf) sb HSB).mono ?_)
 rintro e9 w6 ⟨rfl, hb⟩
 replace hbe := hbe.kept hb
 replace hbg := hbg.kept hb
 replace hbf := hbf.trans (hb.mono hbf.size)
 clear hb
 first | refine hK.out _ _ ⟨hbe, hbg⟩ (fun _ => ?_) | (go_wp2_with fail; refine hK.out _ _ ⟨hbe, hbg⟩ (fun _ => ?_))
 clear hK K
 (try simp only [Act.put, List.setIfInBounds_toArray, List.set_cons_zero, List.set_cons_succ])
 repeat (first | (refine seq_take (v := ?_) (by rfl) ?_ ?_; rotate_left; (· intro w hSw; (try dsimp only at hSw); obtain ⟨hL0, hN0⟩ := hSw; obtain ⟨ea0, ea1, ea2, ea3, ea4, ea5, ea6⟩ := hL0.c7; obtain ⟨eb0, eb1, eb2, eb3, eb4, eb5, eb6⟩ := hN0.c7; clear hL0 hN0; go_simp; all_goals with_reducible rfl); (try simp only [Act.put, List.setIfInBounds_toArray, List.set_cons_zero, List.set_cons_succ])) | (refine seq_leave (by rfl) ?_; (try simp only [Act.put, List.setIfInBounds_toArray, List.set_cons_zero, List.set_cons_succ])))
 refine seq_step (by rfl) (fun K hK => ?_)
 go_simp
 go_at_call 31
 (with_reducible refine (rsame_any _ e _ _ _ _ _ _ _ f _ _ _ _ _ _ _ (HEE.out _ hbf) (HFF.out _ hbf) sb HSB).mono ?_)
 rintro e9 w7 ⟨rfl, hb⟩
 replace hbe := hbe.kept hb
 replace hbg := hbg.kept hb
 replace hbf := hbf.trans (hb.mono hbf.size)
 clear hb
 first | refine hK.out _ _ ⟨hbe, hbg⟩ (fun _ => ?_) | (go_wp2_with fail; refine hK.out _ _ ⟨hbe, hbg⟩ (fun _ => ?_))
 clear hK K
 (try simp only [Act.put, List.setIfInBounds_toArray, List.set_cons_zero, List.set_cons_succ])
 repeat (first | (refine seq_take (v := ?_) (by rfl) ?_ ?_; rotate_left; (· intro w hSw; (try dsimp only at hSw); obtain ⟨hL0, hN0⟩ := hSw; obtain ⟨ea0, ea1, ea2, ea3, ea4, ea5, ea6⟩ := hL0.c7; obtain ⟨eb0, eb1, eb2, eb3, eb4, eb5, eb6⟩ := hN0.c7; clear hL0 hN0; go_simp; all_goals with_reducible rfl); (try simp only [Act.put, List.setIfInBounds_toArray, List.set_cons_zero, List.set_cons_succ])) | (refine seq_leave (by rfl) ?_; (try simp only [Act.put, List.setIfInBounds_toArray, List.set_cons_zero, List.set_cons_succ])))
 refine seq_step (by rfl) (fun K hK => ?_)
 go_simp
 go_at_call 30
 (with_reducible refine (same_any _ e _ _ _ _ _ _ _ e _ _ _ _ _ _ _ (HEE.out _ hbf) (HEE.out _ hbf) true (Lib.hid (decide_eq_true rfl))).mono ?_)
 rintro e9 w8 ⟨rfl, hb⟩
 replace hbe := hbe.kept hb
 replace hbg := hbg.kept hb
 replace hbf := hbf.trans (hb.mono hbf.size)
 clear hb
 first | refine hK.out _ _ ⟨hbe, hbg⟩ (fun _ => ?_) | (go_wp2_with fail; refine hK.out _ _ ⟨hbe, hbg⟩ (fun _ => ?_))
 clear hK K
 (try simp only [Act.put, List.setIfInBounds_toArray, List.set_cons_zero, List.set_cons_succ])
 repeat (first | (refine seq_take (v := ?_) (by rfl) ?_ ?_; rotate_left; (· intro w hSw; (try dsimp only at hSw); obtain ⟨hL0, hN0⟩ := hSw; obtain ⟨ea0, ea1, ea2, ea3, ea4, ea5, ea6⟩ := hL0.c7; obtain ⟨eb0, eb1, eb2, eb3, eb4, eb5, eb6⟩ := hN0.c7; clear hL0 hN0; go_simp; all_goals with_reducible rfl); (try simp only [Act.put, List.setIfInBounds_toArray, List.set_cons_zero, List.set_cons_succ])) | (refine seq_leave (by rfl) ?_; (try simp only [Act.put, List.setIfInBounds_toArray, List.set_cons_zero, List.set_cons_succ])))
 refine seq_end ?_
 clear ncs ncb nsb HSB hbg HFF HF0
 obtain ⟨kb, hkb⟩ : ∃ k, k = w8.heap.size := ⟨_, rfl⟩
 obtain ⟨wk, hwk⟩ : ∃ W, W = w8.alloc (.cells #[.slice none 0 0, .slice none 0 0, .slice none 0 0, .slice none 0 0, .slice none 0 0, .slice none 0 0, .slice none 0 0, .slice none 0 0, .slice none 0 0, .slice none 0 0, .slice none 0 0, .slice none 0 0] 31) := ⟨_, rfl⟩
 have hb : Below w8.heap.size w8 wk := by rw [hwk]; exact (Below.refl _ w8).alloc (Nat.le_refl _) _
 have HBK : Hid (BkIs kb kb (fun _ => False) wk) := Lib.hid (by rw [hwk, hkb]; exact BkIs.new w8 _)
 have HKW : Hid (kb < wk.heap.size) := Lib.hid (by rw [hwk, hkb]; simp)
 have HWK : Hid (w.heap.size ≤ kb ∧ pe < kb) := Lib.hid (by rw [hkb]; exact ⟨hbf.size, hbe.lt⟩)
 have HW := Lib.hid hwk
 clear hwk
 go_upto_region 8 with fail
 rw [← HW.out, ← hkb]
 clear HW hkb
 replace hbe := hbe.kept hb
 replace hbf := hbf.trans (hb.mono hbf.size)
 clear hb
 obtain ⟨D9, hD9⟩ : ∃ d, d = wk.heap.size := ⟨_, rfl⟩
 have HD9 : Hid (D9 = wk.heap.size ∧ kb < D9) := Lib.hid (by have := HKW.out; omega)
 clear hD9
 have HBE := Lib.hid hbe
 have HBF := Lib.hid hbf
 clear hbe hbf
 go_wp2_with fail
 go_loopg [18] 2 (fun gg kv wr => ∃ (k : Nat) (S : Nat → Prop), k + gg = 2 ∧ kv = .int .i64 (k : Int) ∧ Hid (BkIs kb kb S wr) ∧ Hid (∀ j, S j → D9 ≤ j ∧ j < wr.heap.size) ∧ Hid (Keep (fun j => j = kb) wk wr))
 case atStart => exact ⟨0, fun _ => False, by omega, rfl, HBK, Lib.hid (fun j h => h.elim), Lib.hid (Keep.refl _ _)⟩
 clear HBK
 case round =>
  obtain ⟨k, S, hk, rfl, HBK, HSS, HKP⟩ := hrel
  have hb9 : Below w.heap.size w wr := HBF.out.trans (below_keepE HKP.out HWK.out.1 HBF.out.size)
  have hbe := HBE.out.keep HKP.out (fun e => by have := HWK.out.2; omega)
  have hsz : D9 ≤ wr.heap.size := by have := HKP.out.size; have := HD9.out; omega
  by_cases hkl : k < 2
  case pos =>
   obtain ⟨ea0, ea1, ea2, ea3, ea4, ea5, ea6⟩ := hbe.c7
   have hkk : ((k : Nat) : Int) < 2 := by omega
   go_wp2_with fail
   refine (trees_any _ e _ _ _ _ _ _ wr (HEE.out _ hb9) (by have := HEL.out; omega)).mono ?_
   rintro e9 w9 ⟨r, rfl, hO, hb⟩
   obtain ⟨ts, hts⟩ : ∃ l, treesE e.nodes = l := ⟨_, rfl⟩
   rw [hts] at hO
   have HTS := Lib.hid hts
   have hY := icel_owns hO
   obtain ⟨yo, yc, rfl, -, -, -⟩ := hY.slice
   have hbe2 := hbe.kept hb
   have hb92 := hb9.trans (hb.mono hb9.size)
   clear ea0 ea1 ea2 ea3 ea4 ea5 ea6
   have HKN : Hid (∀ j, (Value.slice yo ts.length yc).ownBlock = some j → ¬ S j ∧ j ≠ kb) := Lib.hid (fun j hj => by
    have h1 := (hY.lt j hj).1
    have h3 := HD9.out
    exact ⟨fun hs => by have := (HSS.out j hs).2; omega, fun e => by omega⟩)
   have hcall := bookInts_any kb kb S (.slice yo ts.length yc) ts w9 (HBK.out.kept hb) (by have := hb.size; have := HD9.out; omega) (hY.mono (by have := HD9.out; omega)) (by rw [← hts]; exact trees_short _ HEL.out.1) HKN.out
   have HY := Lib.hid hY
   have HB := Lib.hid hb
   clear hY hO hts hb hbe
   go_wp2_with fail
   refine hcall.mono ?_
   rintro e9 wi ⟨rfl, ⟨S2, hBK2, hS2⟩, hK2⟩
   have hKi : Keep (fun j => j = kb) wk wi := (HKP.out.then_below HB.out).trans (hK2.mono (fun j _ h => h)) (fun j hj h => by rcases h with h | h; exact h; have := (HSS.out j h).1; have := HD9.out; omega)
   have HBK2 : Hid (BkIs kb kb (fun j => S2 j ∧ j < wi.heap.size) wi) := Lib.hid hBK2.trimE
   have HSS2 : Hid (∀ j, S2 j ∧ j < wi.heap.size → D9 ≤ j ∧ j < wi.heap.size) := Lib.hid (fun j hj => ⟨by
     rcases hS2 j hj.1 with h | h | h
     ·exact (HSS.out j h).1
     ·have h1 := (HY.out.lt j h).1; omega
     ·have h8 := HB.out.size; omega, hj.2⟩)
   have j1 : IntsI .i64 wi (.slice yo ts.length yc) ts := (ints_of_owns (owns_icel (HY.out.keep hK2 (fun j hj e => by
    rcases e with e | e
    ·exact (HKN.out j hj).2 e
    ·exact (HKN.out j hj).1 e)))).1
   have hbi : Below w.heap.size w wi := HBF.out.trans (below_keepE hKi HWK.out.1 HBF.out.size)
   have hbe := HBE.out.keep hKi (fun e => by have := HWK.out.2; omega)
   have HKI := Lib.hid hKi
   clear hcall hBK2 hS2 hK2 hKi HKN HY HB hbe2 hb92
   obtain ⟨ea0, ea1, ea2, ea3, ea4, ea5, ea6⟩ := hbe.c7
   go_wp2_with fail
   refine (rtrees_any _ e _ _ _ _ _ _ wi (HEE.out _ hbi) (by have := HEL.out; omega)).mono ?_
   rintro e9 wj ⟨r2, rfl, hO2, hb2⟩
   rw [HTS.out] at hO2
   have j2 := (ints_of_owns hO2).1
   have j1b := j1.below hb2
   obtain ⟨zo, zc, rfl, -⟩ := id j2
   go_wp2_with fail
   (with_reducible refine (same_ints _ _ ts _ j1b j2).mono ?_)
   rintro e9 wl ⟨rfl, hb3⟩
   have HBJ : Hid (Below wi.heap.size wi wl) := Lib.hid (hb2.trans (hb3.mono hb2.size))
   clear ea0 ea1 ea2 ea3 ea4 ea5 ea6
   clear hb2 hb3 j1 j2 j1b hO2 hbe hbi hb9
   go_wp2_with fail
   go_roundg (gk - 1)
   case measure => omega
   case rel => exact ⟨k + 1, fun j => S2 j ∧ j < wi.heap.size, by omega, by go_num, Lib.hid (HBK2.out.kept HBJ.out), Lib.hid (fun j hj => by have h1 := HSS2.out j hj; have h2 := HBJ.out.size; omega), Lib.hid (HKI.out.then_below HBJ.out)⟩
  case neg =>
   have hkk : ¬ ((k : Nat) : Int) < 2 := by omega
   obtain ⟨w9, hwE⟩ : ∃ W, W = wr := ⟨_, rfl⟩
   subst hwE
   have HSZ : Hid (kb < w9.heap.size) := Lib.hid (by have := HD9.out; omega)
   have hbf := hb9
   clear hb9 hsz HSS HKP hkl hk
   obtain ⟨g, hg⟩ : ∃ g, (rootE e.nodes tr).getD 0 = g := ⟨_, rfl⟩
   obtain ⟨gi, hgi⟩ : ∃ b, (rootE e.nodes tr).isSome = b := ⟨_, rfl⟩
   obtain ⟨pl, hpl⟩ : ∃ o, findE e.nodes tr nd = o := ⟨_, rfl⟩
   obtain ⟨pg, hpg⟩ : ∃ g, pl.getD 0 = g := ⟨_, rfl⟩
   obtain ⟨pi, hpi⟩ : ∃ b, pl.isSome = b := ⟨_, rfl⟩
   obtain ⟨pr, hpr⟩ : ∃ r, fidx pl = r := ⟨_, rfl⟩
   have HG := Lib.hid hg
   have HGI := Lib.hid hgi
   have HPG : Hid ((findE e.nodes tr nd).getD 0 = pg) := Lib.hid (by rw [hpl]; exact hpg)
   have HPI : Hid ((findE e.nodes tr nd).isSome = pi) := Lib.hid (by rw [hpl]; exact hpi)
   have HPR : Hid (fidx (findE e.nodes tr nd) = pr) := Lib.hid (by rw [hpl]; exact hpr)
   have HPA : Hid ((pi = true ∧ pr = (pg : Int)) ∨ (pi = false ∧ pr = -1 ∧ pg = 0)) := Lib.hid (by
    cases pl with
    | none => right; exact ⟨hpi.symm, hpr.symm, hpg.symm⟩
    | some k => left; exact ⟨hpi.symm, by rw [← hpr, ← hpg]; rfl⟩)
   clear hg hgi hpl hpg hpi hpr
   obtain ⟨ea0, ea1, ea2, ea3, ea4, ea5, ea6⟩ := hbe.c7
   go_wp2_with fail
   (with_reducible refine (root_any _ e _ _ _ _ _ _ tr _ (HEE.out _ hbf) (by have := HEL.out; omega) g gi HG HGI).mono ?_)
   rintro e9 wa ⟨rfl, hb⟩
   clear ea0 ea1 ea2 ea3 ea4 ea5 ea6
   replace hbe := hbe.kept hb
   replace HBK : Hid (BkIs kb kb S _) := Lib.hid (HBK.out.kept hb)
   replace HSZ : Hid (kb < _) := Lib.hid (Nat.lt_of_lt_of_le HSZ.out hb.size)
   replace hbf := hbf.trans (hb.mono hbf.size)
   clear hb
   obtain ⟨ea0, ea1, ea2, ea3, ea4, ea5, ea6⟩ := hbe.c7
   go_wp2_with fail
   (with_reducible refine (rroot_any _ e _ _ _ _ _ _ tr g gi _ (HEE.out _ hbf) (by have := HEL.out; omega) HG HGI).mono ?_)
   rintro e9 wb ⟨rfl, hb⟩
   clear ea0 ea1 ea2 ea3 ea4 ea5 ea6
   replace hbe := hbe.kept hb
   replace HBK : Hid (BkIs kb kb S _) := Lib.hid (HBK.out.kept hb)
   replace HSZ : Hid (kb < _) := Lib.hid (Nat.lt_of_lt_of_le HSZ.out hb.size)
   replace hbf := hbf.trans (hb.mono hbf.size)
   clear hb
   obtain ⟨ea0, ea1, ea2, ea3, ea4, ea5, ea6⟩ := hbe.c7
   go_wp2_with fail
   (with_reducible refine (find_any _ e _ _ _ _ _ _ tr nd _ (HEE.out _ hbf) pg pi HPG HPI).mono ?_)
   rintro e9 wc9 ⟨rfl, hb⟩
   clear ea0 ea1 ea2 ea3 ea4 ea5 ea6
   replace hbe := hbe.kept hb
   replace HBK : Hid (BkIs kb kb S _) := Lib.hid (HBK.out.kept hb)
   replace HSZ : Hid (kb < _) := Lib.hid (Nat.lt_of_lt_of_le HSZ.out hb.size)
   replace hbf := hbf.trans (hb.mono hbf.size)
   clear hb
   obtain ⟨ea0, ea1, ea2, ea3, ea4, ea5, ea6⟩ := hbe.c7
   go_wp2_with fail
   (with_reducible refine (rplace_any _ e _ _ _ _ _ _ tr nd pr _ (HEE.out _ hbf) HPR).mono ?_)
   rintro e9 wd9 ⟨rfl, hb⟩
   clear ea0 ea1 ea2 ea3 ea4 ea5 ea6
   replace hbe := hbe.kept hb
   replace HBK : Hid (BkIs kb kb S _) := Lib.hid (HBK.out.kept hb)
   replace HSZ : Hid (kb < _) := Lib.hid (Nat.lt_of_lt_of_le HSZ.out hb.size)
   replace hbf := hbf.trans (hb.mono hbf.size)
   clear hb
   have z1 : (((g : Nat) : Int) != ((g : Nat) : Int)) = false := by simp
   have z2 : (gi != gi) = false := by simp
   clear HG HGI HPG HPI HPR
   go_upto_region 19 with fail
   go_cut [144] from 115 to 144 (fun cv wx => cv = .bool false ∧ wx = wd9)
   case first =>
    rcases HPA.out with ⟨rfl, rfl⟩ | ⟨rfl, rfl, rfl⟩
    ·have z3 : ((pg : Nat) : Int) ≥ 0 := by omega
     have z4 : (((pg : Nat) : Int) != ((pg : Nat) : Int)) = false := by simp
     go_wp2_with fail
     go_meet
     case rel => exact ⟨rfl, rfl⟩
    ·go_wp2_with fail
     go_meet
     case rel => exact ⟨rfl, rfl⟩
   case rest =>
   obtain ⟨rfl, hwE⟩ := hcut
   subst hwE
   clear z1 z2 HPA
   obtain ⟨ea0, ea1, ea2, ea3, ea4, ea5, ea6⟩ := hbe.c7
   go_wp2_with fail
   (with_reducible refine (weights_any _ e _ _ _ _ _ _ tr nd tg _ (HEE.out _ hbf)).mono ?_)
   rintro e9 we ⟨qe, qt, qn, qg, rfl, hbq, ct, cn, cg, hq0, hq1, hq2, hq3, hq4, hq5, hq6, hb⟩
   have hrow := (HEE.out _ hbf).leaves
   clear ea0 ea1 ea2 ea3 ea4 ea5 ea6
   have HLB : Hid (∀ b off, lo = some ⟨b, off, none⟩ → e.leaves ≠ [] → b < w.heap.size) := Lib.hid (fun b off e1 e2 => by
    rcases HE0.out.leaves with h | ⟨b', off', e3, h10, _⟩
    ·exact absurd h e2
    ·rw [e1] at e3; cases e3; exact h10)
   replace hbe := hbe.kept hb
   replace HBK : Hid (BkIs kb kb S _) := Lib.hid (HBK.out.kept hb)
   replace HSZ : Hid (kb < _) := Lib.hid (Nat.lt_of_lt_of_le HSZ.out hb.size)
   replace hbf := hbf.trans (hb.mono hbf.size)
   clear hb
   have HRW := Lib.hid (HEE.out _ hbf).leaves
   clear hrow
   have hsn := eq_seqnilW we qe qt qn qg
   obtain ⟨ws, hws⟩ : ∃ l, weightsE e.leaves tr nd tg = l := ⟨_, rfl⟩
   have HWS := Lib.hid hws
   have HWL : Hid (ws.length ≤ 60) := Lib.hid (by rw [← hws]; exact Nat.le_trans (weightsE_le _ _ _ _) HEL.out.2.1)
   have HTD : Hid (∀ (W : World) (st : Int), Below we.heap.size we W → Calls Tryz.prog 40 #[.func (.func 107) #[] #[.pointer (some ⟨qe, 0, none⟩), .pointer (some ⟨qt, 0, none⟩), .pointer (some ⟨qn, 0, none⟩), .pointer (some ⟨qg, 0, none⟩)], .int .i64 st] W fun e w' => ∃ v, e = .returned v ∧ Owns W.heap.size 41 w' v (patV (cutW st ws)) ∧ Below W.heap.size W w') := Lib.hid (fun W st hb => by
    have hit := weights_it e bo bc no nc lo lc tr nd tg qe qt qn qg (fun k => we.heap.size ≤ k) we hbq ct cn cg HRW.out HE0.out.ll (fun k hk => by have := hbq.lt; omega) (fun b off e1 e2 hk => by have h1 := HLB.out b off e1 e2; have h2 := hbf.size; omega)
    rw [hws] at hit
    exact told22_any 107 _ ws st W ((hit.sub (fun k hk => Nat.le_trans hb.size hk)).up hb) enter_weights (by have := HWL.out; omega))
   clear hws hbq ct cn cg hq0 hq1 hq2 hq3 hq4 hq5 hq6 HLB HRW
   obtain ⟨ea0, ea1, ea2, ea3, ea4, ea5, ea6⟩ := hbe.c7
   go_upto_region 24 with fail
   clear hsn
   go_wp2_with fail
   (with_reducible refine (rweights_any _ e _ _ _ _ _ _ tr nd tg ws _ (HEE.out _ hbf) (by have := HEL.out; omega) HWS).mono ?_)
   rintro e9 wf ⟨r3, rfl, hO3, hb⟩
   clear ea0 ea1 ea2 ea3 ea4 ea5 ea6
   have HBQ := Lib.hid hb
   replace hbe := hbe.kept hb
   replace HBK : Hid (BkIs kb kb S _) := Lib.hid (HBK.out.kept hb)
   replace HSZ : Hid (kb < _) := Lib.hid (Nat.lt_of_lt_of_le HSZ.out hb.size)
   replace hbf := hbf.trans (hb.mono hbf.size)
   clear hb
   have hP3 := owns_pats hO3
   obtain ⟨vo, vc, rfl⟩ := hO3.sl
   rw [patV_len] at hP3 ⊢
   obtain ⟨ao9, cap9, hv9, hvc1, hvc2, -⟩ := id hP3
   have ev : vc = cap9 := by injection hv9
   subst ev
   clear hv9
   rw [natI_len] at hvc1
   have HP3 := Lib.hid hP3
   clear hO3 hP3 HWS hbe
   unfold maxLen at hvc2
   go_upto_if 160 with fail
   obtain ⟨X, hX⟩ : ∃ X, X = cutW stop ws := ⟨_, rfl⟩
   have HX := Lib.hid hX
   have HXN : Hid (0 < stop → min ((ws.length : Nat) : Int) stop = ((X.length : Nat) : Int)) := Lib.hid (fun h => by rw [hX]; exact cutW_len ws h)
   have HXZ : Hid (¬ 0 < stop → ((ws.length : Nat) : Int) = ((X.length : Nat) : Int)) := Lib.hid (fun h => by rw [hX]; unfold cutW; rw [if_neg h])
   have hXp : X <+: ws := by rw [hX]; exact cutW_pre _ _
   have hXl := hXp.length_le
   have HXP := Lib.hid hXp
   clear hX hXp
   go_cut [29] from 159 to 163 (fun nv wx => nv = .int .i64 (X.length : Int) ∧ wx = wf)
   case first =>
    by_cases hs : 0 < stop
    ·have H1 := Lib.hid (HXN.out hs)
     go_wp2_with fail
     go_meet
     case rel => exact ⟨congrArg (Value.int .i64) H1.out, rfl⟩
    ·have H1 := Lib.hid (HXZ.out hs)
     go_wp2_with fail
     go_meet
     case rel => exact ⟨congrArg (Value.int .i64) H1.out, rfl⟩
   case rest =>
   obtain ⟨rfl, hwE⟩ := hcut
   subst hwE
   clear HXN HXZ
   obtain ⟨wg, hwE⟩ : ∃ W, W = wc := ⟨_, rfl⟩
   subst hwE
   have q1 : (0 : Int) ≤ ((X.length : Nat) : Int) := by omega
   have q2 : ((X.length : Nat) : Int) ≤ ((vc : Nat) : Int) := by omega
   go_upto_region 28 with fail
   refine wp_region_seq (S := fun w' => True) [(true, 0), (true, 1), (true, 3), (true, 4), (true, 5), (false, 2), (false, 6), (true, 7), (true, 8), (true, 10), (false, 9), (false, 11), (true, 12), (true, 13), (true, 14), (false, 15), (true, 16), (true, 17)] (by kernel_rfl) (by kernel_rfl) (by kernel_rfl) (by kernel_rfl) (by kernel_rfl) (fun d _ _ _ _ h => by cases d <;> exact h) trivial (fun _ => ?_)
   simp only [pickOps, List.append_eq, List.cons_append, List.nil_append, List.getElem?_toArray, List.getElem?_cons_succ, List.getElem?_cons_zero]
   have hb : Below wg.heap.size wg wg.drew := (Below.refl _ _).drew
   generalize wg.drew = wd at hb ⊢
   replace HBK : Hid (BkIs kb kb S _) := Lib.hid (HBK.out.kept hb)
   replace HSZ : Hid (kb < _) := Lib.hid (Nat.lt_of_lt_of_le HSZ.out hb.size)
   replace HP3 : Hid (IntsI .u64 _ (.slice vo ws.length vc) (natI ws)) := Lib.hid (HP3.out.below hb)
   replace HBQ : Hid (Below we.heap.size we _) := Lib.hid (HBQ.out.trans (hb.mono HBQ.out.size))
   replace hbf := hbf.trans (hb.mono hbf.size)
   clear hb
   repeat (first | (refine seq_take (v := ?_) (by rfl) ?_ ?_; rotate_left; (· intro w hSw; (try dsimp only at hSw); skip; go_simp; all_goals with_reducible rfl); (try simp only [Act.put, List.setIfInBounds_toArray, List.set_cons_zero, List.set_cons_succ])) | (refine seq_leave (by rfl) ?_; (try simp only [Act.put, List.setIfInBounds_toArray, List.set_cons_zero, List.set_cons_succ])))
   refine seq_step (by rfl) (fun K hK => ?_)
   go_simp
   go_at_call 40
   refine (HTD.out _ stop HBQ.out).mono ?_
   rintro e9 wh ⟨ra, rfl, hOa, hb⟩
   rw [← HX.out] at hOa
   have HA := Lib.hid (owns_pats hOa)
   obtain ⟨ao, ac, rfl⟩ := hOa.sl
   rw [patV_len] at HA
   rw [patV_len]
   clear hOa
   replace HBK : Hid (BkIs kb kb S _) := Lib.hid (HBK.out.kept hb)
   replace HSZ : Hid (kb < _) := Lib.hid (Nat.lt_of_lt_of_le HSZ.out hb.size)
   replace HP3 : Hid (IntsI .u64 _ (.slice vo ws.length vc) (natI ws)) := Lib.hid (HP3.out.below hb)
   replace HBQ : Hid (Below we.heap.size we _) := Lib.hid (HBQ.out.trans (hb.mono HBQ.out.size))
   replace hbf := hbf.trans (hb.mono hbf.size)
   clear hb
   first | refine hK.out _ _ trivial (fun _ => ?_) | (go_wp2_with fail; refine hK.out _ _ trivial (fun _ => ?_))
   clear hK K
   (try simp only [Act.put, List.setIfInBounds_toArray, List.set_cons_zero, List.set_cons_succ])
   repeat (first | (refine seq_take (v := ?_) (by rfl) ?_ ?_; rotate_left; (· intro w hSw; (try dsimp only at hSw); skip; go_simp; all_goals with_reducible rfl); (try simp only [Act.put, List.setIfInBounds_toArray, List.set_cons_zero, List.set_cons_succ])) | (refine seq_leave (by rfl) ?_; (try simp only [Act.put, List.setIfInBounds_toArray, List.set_cons_zero, List.set_cons_succ])))
   refine seq_step (by rfl) (fun K hK => ?_)
   go_simp
   go_at_call 24
   (with_reducible refine (same_pats _ _ (natI X) _ HA.out (by have h9 := ints_pre (by rw [natI_len]; exact HP3.out) (natI_pre HXP.out); rw [natI_len] at h9; exact h9)).mono ?_)
   rintro e9 wi2 ⟨rfl, hb⟩
   clear HA
   replace HBK : Hid (BkIs kb kb S _) := Lib.hid (HBK.out.kept hb)
   replace HSZ : Hid (kb < _) := Lib.hid (Nat.lt_of_lt_of_le HSZ.out hb.size)
   replace HP3 : Hid (IntsI .u64 _ (.slice vo ws.length vc) (natI ws)) := Lib.hid (HP3.out.below hb)
   replace HBQ : Hid (Below we.heap.size we _) := Lib.hid (HBQ.out.trans (hb.mono HBQ.out.size))
   replace hbf := hbf.trans (hb.mono hbf.size)
   clear hb
   first | refine hK.out _ _ trivial (fun _ => ?_) | (go_wp2_with fail; refine hK.out _ _ trivial (fun _ => ?_))
   clear hK K
   (try simp only [Act.put, List.setIfInBounds_toArray, List.set_cons_zero, List.set_cons_succ])
   repeat (first | (refine seq_take (v := ?_) (by rfl) ?_ ?_; rotate_left; (· intro w hSw; (try dsimp only at hSw); skip; go_simp; all_goals with_reducible rfl); (try simp only [Act.put, List.setIfInBounds_toArray, List.set_cons_zero, List.set_cons_succ])) | (refine seq_leave (by rfl) ?_; (try simp only [Act.put, List.setIfInBounds_toArray, List.set_cons_zero, List.set_cons_succ])))
   refine seq_step (by rfl) (fun K hK => ?_)
   go_simp
   go_at_call 40
   refine (HTD.out _ 0 HBQ.out).mono ?_
   rintro e9 wj2 ⟨rb, rfl, hOb, hb⟩
   rw [cutW_zero] at hOb
   have HB := Lib.hid (owns_pats hOb)
   obtain ⟨bo9, bc9, rfl⟩ := hOb.sl
   rw [patV_len] at HB
   rw [patV_len]
   clear hOb
   replace HBK : Hid (BkIs kb kb S _) := Lib.hid (HBK.out.kept hb)
   replace HSZ : Hid (kb < _) := Lib.hid (Nat.lt_of_lt_of_le HSZ.out hb.size)
   replace HP3 : Hid (IntsI .u64 _ (.slice vo ws.length vc) (natI ws)) := Lib.hid (HP3.out.below hb)
   replace HBQ : Hid (Below we.heap.size we _) := Lib.hid (HBQ.out.trans (hb.mono HBQ.out.size))
   replace hbf := hbf.trans (hb.mono hbf.size)
   clear hb
   first | refine hK.out _ _ trivial (fun _ => ?_) | (go_wp2_with fail; refine hK.out _ _ trivial (fun _ => ?_))
   clear hK K
   (try simp only [Act.put, List.setIfInBounds_toArray, List.set_cons_zero, List.set_cons_succ])
   repeat (first | (refine seq_take (v := ?_) (by rfl) ?_ ?_; rotate_left; (· intro w hSw; (try dsimp only at hSw); skip; go_simp; all_goals with_reducible rfl); (try simp only [Act.put, List.setIfInBounds_toArray, List.set_cons_zero, List.set_cons_succ])) | (refine seq_leave (by rfl) ?_; (try simp only [Act.put, List.setIfInBounds_toArray, List.set_cons_zero, List.set_cons_succ])))
   refine seq_step (by rfl) (fun K hK => ?_)
   go_simp
   go_at_call 24
   (with_reducible refine (same_pats _ _ (natI ws) _ HB.out HP3.out).mono ?_)
   rintro e9 wl2 ⟨rfl, hb⟩
   clear HB
   replace HBK : Hid (BkIs kb kb S _) := Lib.hid (HBK.out.kept hb)
   replace HSZ : Hid (kb < _) := Lib.hid (Nat.lt_of_lt_of_le HSZ.out hb.size)
   replace HP3 : Hid (IntsI .u64 _ (.slice vo ws.length vc) (natI ws)) := Lib.hid (HP3.out.below hb)
   replace HBQ : Hid (Below we.heap.size we _) := Lib.hid (HBQ.out.trans (hb.mono HBQ.out.size))
   replace hbf := hbf.trans (hb.mono hbf.size)
   clear hb
   first | refine hK.out _ _ trivial (fun _ => ?_) | (go_wp2_with fail; refine hK.out _ _ trivial (fun _ => ?_))
   clear hK K
   (try simp only [Act.put, List.setIfInBounds_toArray, List.set_cons_zero, List.set_cons_succ])
   repeat (first | (refine seq_take (v := ?_) (by rfl) ?_ ?_; rotate_left; (· intro w hSw; (try dsimp only at hSw); skip; go_simp; all_goals with_reducible rfl); (try simp only [Act.put, List.setIfInBounds_toArray, List.set_cons_zero, List.set_cons_succ])) | (refine seq_leave (by rfl) ?_; (try simp only [Act.put, List.setIfInBounds_toArray, List.set_cons_zero, List.set_cons_succ])))
   refine seq_step (by rfl) (fun K hK => ?_)
   go_simp
   go_at_call 25
   refine (bookApart_any kb kb S _ HBK.out (Nat.le_of_lt HSZ.out)).mono ?_
   rintro e9 wm ⟨rfl, hbk⟩
   replace hbf := hbf.trans (hbk.mono HWK.out.1)
   first | refine hK.out _ _ trivial (fun _ => ?_) | (go_wp2_with fail; refine hK.out _ _ trivial (fun _ => ?_))
   clear hK K
   (try simp only [Act.put, List.setIfInBounds_toArray, List.set_cons_zero, List.set_cons_succ])
   repeat (first | (refine seq_take (v := ?_) (by rfl) ?_ ?_; rotate_left; (· intro w hSw; (try dsimp only at hSw); skip; go_simp; all_goals with_reducible rfl); (try simp only [Act.put, List.setIfInBounds_toArray, List.set_cons_zero, List.set_cons_succ])) | (refine seq_leave (by rfl) ?_; (try simp only [Act.put, List.setIfInBounds_toArray, List.set_cons_zero, List.set_cons_succ])))
   refine seq_end ?_
   go_wp2_with fail
   go_ret
   exact ⟨rfl, hbf⟩
theorem ensembleTells_walk (v u : Value) (a b c d : Int) (w : World) (h : EnsIn w v) (h2 : EnsIn w u) (_ : (Lit.int .i64 a).wf = true) (_ : (Lit.int .i64 b).wf = true) (_ : (Lit.int .i64 c).wf = true) (_ : (Lit.int .i64 d).wf = true) :
  Calls Tryz.prog 4 #[v, u, .int .i64 a, .int .i64 b, .int .i64 c, .int .i64 d] w fun e' w' => e' = .returned (.bool true) ∧ Below w.heap.size w w' := by
 obtain ⟨e, bo, bc, no, nc, lo, lc, hE, _⟩ := h
 obtain ⟨f, bo2, bc2, no2, nc2, lo2, lc2, hF, _⟩ := h2
 exact ensTells_e v e bo bc no nc lo lc u f bo2 bc2 no2 nc2 lo2 lc2 a b c d w hE hF
end Go.Proofs.YtcpfanpcdkoiaaaGreat
