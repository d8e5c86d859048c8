/-
  nat: walks (3): more, less.
-/
import Derived.Test.YtegneoaoodddoaaDoorNatB
import Derived.Test.YtegneoaoodddoaaDoorMathB
namespace Go.Proofs.YtegneoaoodddoaaDoor
open Go.RowKit
set_option linter.unusedVariables false
set_option linter.unusedSimpArgs false
attribute [local go_sem] and_low

/-- What more leaves: the limbs of xs * m + c. -/
def moreL (xs : List Nat) (m c : Nat) : List Nat := if mulC xs m c = 0 then mulL xs m c else mulL xs m c ++ [mulC xs m c]

set_option maxRecDepth 100000 in
set_option maxHeartbeats 400000 in
theorem more_any (base : Nat) (v : Value) (xs : List Nat) (m c : Nat) (w : World) (hown : Owns base 73 w v (ints .u32 xs)) (hbase : base ≤ w.heap.size)
    (hx : ∀ x ∈ xs, x < 4294967296) (hm : m < 4294967296) (hc : c < 4294967296) (hl : xs.length ≤ 1000000000) :
    Calls Tryd.prog 44 #[v, .int .u32 m, .int .u32 c] w fun e w' =>
      ∃ v', e = .returned v' ∧ Owns base 73 w' v' (ints .u32 (moreL xs m c)) ∧ Below base w w' := by
  rcases hown.shape with ⟨rfl, hnil⟩ | ⟨g, cap, rfl, hg, hgw, hcap, hcapm, hcell, hfr⟩
  · have : xs = [] := by simpa [ints] using hnil
    subst this
    by_cases h0 : 0 < c
    · have hown' : Owns base 73 w (.slice none 0 0) [] := hown
      go_enter Tryd.func44, Tryd.ntmps44
      go_wp2
      refine wp_loop_rounds 1 ?_
      rw [rounds_succ]
      go_wp2_with (at_builtin; refine append1 E32 hown' rfl rfl rfl rfl rfl (by decide) (by decide) hbase ?_; intro v' w1 ho1 hb1 _)
      go_ret
      refine ⟨_, rfl, ?_, hb1⟩
      have e : moreL [] m c = [c] := by unfold moreL; rw [if_neg (by show ¬ c = 0; omega)]; rfl
      rw [e]
      exact ho1
    · obtain rfl : c = 0 := by omega
      go_enter Tryd.func44, Tryd.ntmps44
      go_wp2
      refine wp_loop_rounds 1 ?_
      rw [rounds_succ]
      go_wp2
      go_ret
      exact ⟨_, rfl, hown, Below.refl _ _⟩
  · rw [ints_length] at hcap
    unfold maxLen at hcapm
    rw [ints_length]
    go_enter Tryd.func44, Tryd.ntmps44
    go_wp2
    go_loopw [7, 13] (fun cc i wr => ∃ k : Nat, k ≤ xs.length ∧ i = .int .i64 k ∧ cc = .int .u64 (mulC (xs.take k) m c : Nat) ∧ Owns base 73 wr (.slice (some ⟨g, 0, none⟩) xs.length cap) (ints .u32 (mulL (xs.take k) m c ++ xs.drop k)) ∧ Below base w wr)
      (fun _ i _ => xs.length - (intOf i).toNat)
    case atStart => exact ⟨0, Nat.zero_le _, rfl, by simp [mulC], by simpa [mulL, ints_length] using hown, Below.refl _ _⟩
    case round =>
      obtain ⟨k, hk, rfl, rfl, ho, hb⟩ := hrel
      have hcar := mulC_lt (xs.take k) m c (fun x h => hx x (List.mem_of_mem_take h)) hm hc
      by_cases hlt : k < xs.length
      · have hlen : (mulL (xs.take k) m c ++ xs.drop k).length = xs.length := by simp [mulL_length]; omega
        have HL := Lib.hid hlen
        have hlk : (mulL (xs.take k) m c).length = k := by rw [mulL_length]; simp; omega
        obtain ⟨_, _, hgw', _, hcell', hfr'⟩ := ho.at
        have hck := hcell' k hlt
        rw [get_done hlt hlk] at hck
        have hfk := hfr' k
        have hxk := getD_lt (k := k) hx (by decide)
        have hs1 := mulC_snoc (xs.take k) (xs[k]?.getD 0) m c
        have hs2 := mulL_snoc (xs.take k) (xs[k]?.getD 0) m c
        rw [← take_snoc' xs k hlt] at hs1 hs2
        have hset := set_done (f := fun l => mulL l m c) hlt hlk hs2
        have hmul := (small_mul hxk hm hcar).1
        generalize xs[k]?.getD 0 = x at *
        generalize mulC (xs.take k) m c = cc at *
        clear hcell hfr hcell' hfr'
        have HS := Lib.hid hset; clear hset
        have HS1 := Lib.hid hs1; clear hs1
        clear hs2 hlen hlk
        go_wp2
        go_roundw
        case rel =>
          have hst := ho.stored (by rw [ints_length]; exact HL.out.symm) k (.int .u32 (((cc + x * m) % 4294967296 : Nat) : Int))
          rw [ints_set, HS.out] at hst
          refine ⟨k + 1, by omega, by go_num, by rw [HS1.out]; go_num, ?_, hb.setCell (by exact hg) _⟩
          exact hst
        case measure => simp [intOf]; omega
      · obtain rfl : k = xs.length := by omega
        simp only [List.take_length, List.drop_length, List.append_nil] at ho hcar ⊢
        have hlen : (mulL xs m c).length = xs.length := mulL_length _ _ _
        have hlen' := ints_length .u32 (mulL xs m c)
        by_cases h0 : mulC xs m c = 0
        · have e : moreL xs m c = mulL xs m c := by simp [moreL, h0]
          have HE := Lib.hid e; clear e
          rw [h0]
          clear h0
          go_wp2
          go_ret
          exact ⟨_, rfl, by rw [HE.out]; exact ho, hb⟩
        · have e : moreL xs m c = mulL xs m c ++ [mulC xs m c] := by simp [moreL, h0]
          generalize mulC xs m c = cc at *
          have HE := Lib.hid e; clear e
          have hpos : 0 < cc := by omega
          have hbs := hb.size
          have hone : ints .u32 (mulL xs m c ++ [cc]) = ints .u32 (mulL xs m c) ++ [.int .u32 (cc : Int)] := by simp [ints]
          have H1 := Lib.hid hone; clear hone
          go_wp2_with (at_builtin; refine append1 E32 ho rfl rfl rfl rfl rfl (by simp [hlen']; omega) (by simp [hlen', maxLen]; omega) (by omega) ?_; intro v' w1 ho1 hb1 _)
          go_ret
          exact ⟨_, rfl, by rw [HE.out, H1.out]; exact ho1, hb.trans hb1⟩

theorem moreL_val (xs : List Nat) (m c : Nat) : val (moreL xs m c) = val xs * m + c := by
  have := mul_val xs m c
  unfold moreL
  split
  · rename_i h; rw [h] at this; simpa using this
  · rw [val_append, mulL_length]; simp only [val]; simpa using this
theorem moreL_lt (xs : List Nat) (m c : Nat) (hx : ∀ x ∈ xs, x < 4294967296) (hm : m < 4294967296) (hc : c < 4294967296) : ∀ x ∈ moreL xs m c, x < 4294967296 := by
  have h := mulC_lt xs m c hx hm hc
  intro x hx'
  unfold moreL at hx'
  split at hx'
  · exact mulL_lt xs m c x hx'
  · rcases List.mem_append.1 hx' with h1 | h1
    · exact mulL_lt xs m c x h1
    · simp at h1; omega
theorem moreL_length (xs : List Nat) (m c : Nat) : (moreL xs m c).length ≤ xs.length + 1 := by
  unfold moreL
  split <;> simp [mulL_length]

end Go.Proofs.YtegneoaoodddoaaDoor
