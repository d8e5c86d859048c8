/-
  pmsg: walks (12): Uint, Text; what Parse makes of what was laid.
-/
import Derived.Test.YtjcldnkgidfifaaPmK
import Derived.Test.YtjcldnkgidfifaaAli11
namespace Go.Proofs.Ytjcldnkgidfifaa
open Go.RowKit Go.Shelf
set_option linter.unusedVariables false
set_option linter.unusedSimpArgs false
attribute [local go_sem] Oper.semAt_some
theorem uint_at {B0 pm : Nat} {v : Value} {l : List (Fld × Int)} {e : Int} (num : Int) {w : World} (hm : MsgAt B0 w pm v l e) (hll : l.length ≤ 1000000) (o : Option (Fld × Int)) (ho : Hid (lastL l num 0 = o)) :
    Calls Try.prog 30 #[.pointer (some ⟨pm, 0, none⟩), .int .i64 num] w fun e' w' => e' = .returned (.tuple #[.int .u64 (((o.getD (zeroF, 0)).1.val : Nat) : Int), .bool o.isSome]) ∧ Below w.heap.size w w' := by
  generalize hx : o.getD (zeroF, 0) = x
  generalize hb : o.isSome = b
  have HX := Lib.hid hx
  have HB := Lib.hid hb
  clear hx hb
  go_enter Try.func30, Try.ntmps30
  go_wp2_with fail
  refine (last_any B0 pm v l e num 0 _ hm hll).mono ?_
  rintro e' w' ⟨rfl, hs⟩
  rw [ho.out, HX.out, HB.out]
  clear HX HB
  go_wp2_with fail
  go_ret2
  exact ⟨rfl, hs.alloc (by exact hs.size) _⟩
theorem text_at {B0 pm : Nat} {v : Value} {l : List (Fld × Int)} {e : Int} (num : Int) {w : World} (hm : MsgAt B0 w pm v l e) (hll : l.length ≤ 1000000) (o : Option (Fld × Int)) (ho : Hid (lastL l num 2 = o)) :
    Calls Try.prog 25 #[.pointer (some ⟨pm, 0, none⟩), .int .i64 num] w fun e' w' => e' = .returned (.tuple #[.string ⟨(o.getD (zeroF, 0)).1.data.toArray⟩, .int .i64 (o.getD (zeroF, 0)).2, .bool o.isSome]) ∧ Below w.heap.size w w' := by
  generalize hx : o.getD (zeroF, 0) = x
  generalize hb : o.isSome = b
  have HX := Lib.hid hx
  have HB := Lib.hid hb
  clear hx hb
  go_enter Try.func25, Try.ntmps25
  go_wp2_with fail
  refine (last_any B0 pm v l e num 2 _ hm hll).mono ?_
  rintro e' w' ⟨rfl, hs⟩
  rw [ho.out, HX.out, HB.out]
  clear HX HB
  go_wp2_with fail
  go_quiet (fail)
  go_wp2_with fail
  go_ret3
  exact ⟨rfl, below_drewN2 (hs.alloc (by exact hs.size) _) _⟩
/-- The last field laid is the last one told. -/
theorem plc_snoc (f : Fld) : ∀ (l : List Fld) (p : Nat), ∃ q, plc p (l ++ [f]) = plc p l ++ [{ f with place := q }] := by
  intro l
  induction l with
  | nil => intro p; exact ⟨p, rfl⟩
  | cons g l ih =>
    intro p
    obtain ⟨q, hq⟩ := ih (p + (encF g).length)
    exact ⟨q, by simp only [List.cons_append, plc, hq]⟩
theorem last_enc {l : List Fld} {f : Fld} {num kind : Int} (h : ∀ g ∈ l ++ [f], goodF g) (hl : ((l ++ [f]).flatMap encF).length ≤ 60000) (hn : (f.num : Int) = num) (hk : (f.kind : Int) = kind) :
    ∃ q, lastL (msgL ((l ++ [f]).flatMap encF)) num kind = some ({ f with place := q }, (((l ++ [f]).flatMap encF).length : Int) - (f.data.length : Int)) := by
  obtain ⟨q, hq⟩ := plc_snoc f l 0
  refine ⟨q, ?_⟩
  have hfs : (itemsF ((l ++ [f]).flatMap encF)).map (·.f) = plc 0 (l ++ [f]) := by
    rw [itemsF_enc h hl, List.map_map, show ((fun x : Itm => x.f) ∘ itemOf) = id from rfl, List.map_id]
  have hlen : (itemsF ((l ++ [f]).flatMap encF)).length = l.length + 1 := by rw [itemsF_enc h hl, List.length_map, plc_len]; simp
  unfold lastL msgL
  rw [hfs, hlen, dpsN_succ, List.reverse_append, List.reverse_singleton, List.singleton_append, hq]
  have h1 : (plc 0 l ++ [{ f with place := q }])[l.length]? = some { f with place := q } := by
    rw [List.getElem?_append_right (by rw [plc_len]; exact Nat.le_refl _), plc_len]; simp
  have h2 : (plc 0 l ++ [{ f with place := q }])[l.length + 1]? = none := by
    rw [List.getElem?_eq_none]; simp [plc_len]
  rw [List.find?_cons]
  have hd : dp1 ((l ++ [f]).flatMap encF).length (plc 0 l ++ [{ f with place := q }]) l.length = ({ f with place := q }, (((l ++ [f]).flatMap encF).length : Int) - (f.data.length : Int)) := by
    unfold dp1 endAt
    rw [h1, h2]; rfl
  rw [hd]
  simp [hitF, hn, hk]
theorem msgL_len (b : List UInt8) : (msgL b).length ≤ 1000000 := by
  unfold msgL; rw [dpsN_len]; exact Nat.le_trans (itemsF_len _) (by decide)
end Go.Proofs.Ytjcldnkgidfifaa
