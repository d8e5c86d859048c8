/-
  Library: slices.Reverse of bytes, strings.TrimLeft at one byte.
-/
import Derived.Test.YtegneoaoodddoaaDoorNatB
import Derived.Test.YtegneoaoodddoaaDoorMathC
import Derived.BigRegion
namespace Go.Proofs.YtegneoaoodddoaaDoor
open Go.RowKit
set_option linter.unusedVariables false
set_option linter.unusedSimpArgs false

def strLen : Value → Nat | .string b => b.size | _ => 0

set_option maxRecDepth 100000 in
theorem trimLeftByte_any (l : List UInt8) (c : UInt8) (w : World) (hl : l.length ≤ 1000000000) :
    Calls Tryd.prog 60 #[.string ⟨l.toArray⟩, .int .u8 c.toNat] w fun e w' => e = .returned (.string ⟨(l.dropWhile (· == c)).toArray⟩) ∧ w = w' := by
  go_enter Tryd.func60, Tryd.ntmps60
  go_wp2
  go_loop [0] (fun s => ∃ r : List UInt8, r.length ≤ 1000000000 ∧ s = .string ⟨r.toArray⟩ ∧ r.dropWhile (· == c) = l.dropWhile (· == c)) (fun s => strLen s)
  case atStart => exact ⟨l, hl, rfl, rfl⟩
  case round =>
    obtain ⟨r, hr, rfl, he⟩ := hrel
    have HE := Lib.hid he; clear he
    cases r with
    | nil =>
      go_wp2
      go_ret
      exact ⟨by rw [← HE.out]; rfl, rfl⟩
    | cons x r =>
      have h0 : ∀ h, (((⟨(x :: r).toArray⟩ : ByteArray)[0]'h).toNat : Int) = (x.toNat : Int) := fun _ => rfl
      have hex := bytes_extract (x :: r) 1 (r.length + 1)
      simp only [List.take_succ_cons, List.take_length, List.drop_succ_cons, List.drop_zero] at hex
      simp only [List.length_cons] at hr
      by_cases hx : x = c
      · subst hx
        go_wp2
        go_round
        case rel => exact ⟨r, by omega, rfl, by rw [← HE.out]; simp [List.dropWhile]⟩
        case measure => simp [strLen, ByteArray.size]
      · have hne : ((x.toNat : Int) == (c.toNat : Int)) = false := by
          rw [beq_eq_false_iff_ne]; intro h; exact hx (UInt8.toNat_inj.1 (by omega))
        go_wp2
        go_ret
        refine ⟨ret_one ?_, rfl⟩
        rw [← HE.out]
        have hb : (x == c) = false := by simp [hx]
        simp [List.dropWhile, hb]

set_option maxRecDepth 100000 in
theorem trimLeft0_any (l : List UInt8) (w : World) (hl : l.length ≤ 1000000000) :
    Calls Tryd.prog 49 #[.string ⟨l.toArray⟩, .string ⟨#[48]⟩] w fun e w' => e = .returned (.string ⟨(l.dropWhile (· == 48)).toArray⟩) ∧ w = w' := by
  cases l with
  | nil =>
    go_enter Tryd.func49, Tryd.ntmps49
    go_wp2
    go_ret
    exact ⟨rfl, rfl⟩
  | cons x r =>
    go_enter Tryd.func49, Tryd.ntmps49
    go_wp2_with (go_at_call 60; refine (trimLeftByte_any (x :: r) 48 _ hl).mono ?_; rintro e w' ⟨rfl, rfl⟩)
    go_ret
    exact ⟨rfl, rfl⟩

set_option maxRecDepth 100000 in
set_option maxHeartbeats 400000 in
theorem reverse_any (base : Nat) (v : Value) (xs : List Nat) (w : World) (hown : Owns base 5 w v (ints .u8 xs)) (hl : xs.length ≤ 1000000000) (hbase : base ≤ w.heap.size) :
    Calls Tryd.prog 48 #[v] w fun e w' => e = .returned (.tuple #[]) ∧ Owns base 5 w' v (ints .u8 xs.reverse) ∧ Below base w w' := by
  rcases hown.shape with ⟨rfl, hnil⟩ | ⟨g, cap, rfl, hg, hgw, hcap, hcapm, hcell, hfr⟩
  · have : xs = [] := by simpa [ints] using hnil
    subst this
    go_enter Tryd.func48, Tryd.ntmps48
    go_wp2
    refine wp_loop_rounds 1 ?_
    rw [rounds_succ]
    go_wp2
    go_end0
    exact ⟨rfl, hown, Below.refl _ _⟩
  · rw [ints_length] at hcap hown ⊢
    clear hcell hfr
    go_enter Tryd.func48, Tryd.ntmps48
    go_wp2
    go_loopw [2, 3] (fun i j wr => ∃ (k : Nat) (ys : List Nat), 2 * k ≤ xs.length + 1 ∧ i = .int .i64 k ∧ j = .int .i64 ((xs.length : Int) - 1 - k) ∧ Owns base 5 wr (.slice (some ⟨g, 0, none⟩) xs.length cap) (ints .u8 ys) ∧ RevUp xs ys k ∧ Below base w wr)
      (fun _ j _ => (intOf j + 1).toNat)
    case atStart => exact ⟨0, xs, by omega, rfl, by simp, hown, RevUp.start xs, Below.refl _ _⟩
    case round =>
      obtain ⟨k, ys, hk, rfl, rfl, ho, hr, hb⟩ := hrel
      have HR := Lib.hid hr; clear hr
      by_cases hlt : 2 * k + 1 < xs.length
      · obtain ⟨hln, _, hgw', _, hcell', hfr'⟩ := ho.at
        have c1 := hcell' k (by omega)
        have c2 := hcell' (xs.length - 1 - k) (by omega)
        have f1 := hfr' k
        have f2 := hfr' (xs.length - 1 - k)
        have eidx : ((xs.length : Int) - 1 - (k : Int)).toNat = xs.length - 1 - k := by omega
        have hge : (0 : Int) ≤ (xs.length : Int) - 1 - k := by omega
        have hlt2 : (xs.length : Int) - 1 - k < xs.length := by omega
        have hnn : (k : Int) < xs.length := by omega
        clear hcell' hfr'
        have HN : Hid (RevUp xs ((ys.set k (ys[xs.length - 1 - k]?.getD 0)).set (xs.length - 1 - k) (ys[k]?.getD 0)) (k + 1)) := HR.out.next hlt
        generalize ys[k]?.getD 0 = a at *
        generalize ys[xs.length - 1 - k]?.getD 0 = b at *
        go_wp2
        go_region
        go_wp2
        go_roundw
        case rel =>
          exact ⟨k + 1, _, by omega, by go_num, by go_num, (ho.storedN k b).storedN _ a, HN.out, ((hb.setCell (by exact hg) _).setCell (by exact hg) _).drew⟩
        case measure => simp [intOf]; omega
      · go_wp2
        go_end0
        refine ⟨rfl, ?_, hb⟩
        rw [← HR.out.done (by omega)]
        exact ho
end Go.Proofs.YtegneoaoodddoaaDoor
