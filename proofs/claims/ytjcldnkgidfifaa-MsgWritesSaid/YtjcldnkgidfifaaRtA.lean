/-
  pmsg: what was put and laid is read as it was (plain facts).
-/
import Derived.Test.YtjcldnkgidfifaaPmJ
namespace Go.Proofs.Ytjcldnkgidfifaa
open Go.RowKit Go.Shelf
set_option linter.unusedVariables false
set_option linter.unusedSimpArgs false

theorem i64_u64 {x : Int} (h1 : -9223372036854775808 ≤ x) (h2 : x < 9223372036854775808) : i64 (u64 x) = x := by
  unfold i64 u64
  simp only [IntKind.wrap, IntKind.signed, IntKind.bits] at *
  simp
  omega
theorem getInts_intsD : ∀ (xs : List Int), (∀ x ∈ xs, -9223372036854775808 ≤ x ∧ x < 9223372036854775808) → getInts (intsD xs) = some xs := by
  intro xs
  induction xs with
  | nil => intro _; exact getInts_nil
  | cons x xs ih =>
    intro h
    have hx := h x (List.mem_cons_self ..)
    have e : intsD (x :: xs) = vbytes (u64 x) ++ intsD xs := by simp [intsD]
    have hp := vbytes_pos (u64 x)
    rw [e, getInts, dif_neg (by intro e9; have := (List.append_eq_nil_iff.1 e9).1; rw [this] at hp; simp at hp)]
    have hg := getV_put (u64 x) 0 0 (intsD xs) (by decide) (by have := u64_lt x; simpa using this)
    simp only [Nat.pow_zero, Nat.mul_one, Nat.zero_add] at hg
    rw [hg]
    simp only []
    rw [dif_neg (by omega), List.drop_left' rfl, ih (fun y hy => h y (List.mem_cons_of_mem _ hy)), i64_u64 hx.1 hx.2]
    rfl
def goodF (f : Fld) : Prop := true = rightF (f.num : Int) (f.kind : Int) f.val f.data ∧ f.val < 18446744073709551616 ∧ f.place = 0
theorem oneF_enc {f : Fld} (h : goodF f) (r : List UInt8) : oneF (encF f ++ r) 0 = some (f, (encF f).length) := by
  obtain ⟨hr, hv, hp⟩ := h
  obtain ⟨num, kind, place, val, data⟩ := f
  simp only at hr hv hp
  subst hp
  obtain ⟨n, hn, hn1, hn2, hc⟩ := rightF_yes hr
  have e : n = num := by omega
  subst e
  have hk5 : kind ≤ 5 := by rcases hc with h | h | h | h <;> omega
  have htag : n * 8 + kind < 2 ^ 64 := by omega
  obtain ⟨body, hb⟩ : ∃ b, b = (if kind = 0 then vbytes val else if kind = 1 then littleB 8 val else if kind = 5 then littleB 4 val else vbytes data.length ++ data) := ⟨_, rfl⟩
  have henc : encF ⟨n, kind, 0, val, data⟩ = vbytes (n * 8 + kind) ++ body := by rw [hb]; rfl
  have hg := getV_put (n * 8 + kind) 0 0 (body ++ r) (by decide) (by simpa using htag)
  simp only [Nat.pow_zero, Nat.mul_one, Nat.zero_add] at hg
  rw [henc, List.append_assoc]
  unfold oneF
  rw [hg]
  have hdrop : (vbytes (n * 8 + kind) ++ (body ++ r)).drop (vbytes (n * 8 + kind)).length = body ++ r := List.drop_left' rfl
  simp only []
  rw [if_neg (by omega), hdrop, show (n * 8 + kind) / 8 = n by omega, show (n * 8 + kind) % 8 = kind by omega]
  have hlen : (vbytes (n * 8 + kind) ++ (body ++ r)).length - (vbytes (n * 8 + kind)).length = body.length + r.length := by simp
  rcases hc with ⟨h, hd⟩ | ⟨h, hd⟩ | ⟨h, hd, hv4⟩ | ⟨h, hv0, hdl⟩
  · have hk : kind = 0 := by omega
    subst hk hd
    rw [if_pos rfl] at hb ⊢
    have hg2 := getV_put val 0 0 r (by decide) (by simpa using hv)
    simp only [Nat.pow_zero, Nat.mul_one, Nat.zero_add] at hg2
    rw [hb, hg2]
    simp
  · have hk : kind = 1 := by omega
    subst hk hd
    rw [if_neg (by decide), if_pos rfl] at hb ⊢
    have hl : body.length = 8 := by rw [hb, littleB_len]
    rw [hlen, if_neg (by omega), List.take_left' hl, hb, highB_little 8 val (by simpa using hv)]
    simp [littleB_len]
  · have hk : kind = 5 := by omega
    subst hk hd
    rw [if_neg (by decide), if_neg (by decide), if_pos rfl] at hb ⊢
    have hl : body.length = 4 := by rw [hb, littleB_len]
    rw [hlen, if_neg (by omega), List.take_left' hl, hb, highB_little 4 val (by simpa using hv4)]
    simp [littleB_len]
  · have hk : kind = 2 := by omega
    subst hk hv0
    rw [if_neg (by decide), if_neg (by decide), if_neg (by decide)] at hb ⊢
    rw [if_pos rfl, hb, List.append_assoc]
    have hg2 := getV_put data.length 0 0 (data ++ r) (by decide) (by simp; omega)
    simp only [Nat.pow_zero, Nat.mul_one, Nat.zero_add] at hg2
    rw [hg2]
    simp only []
    have hd2 : (vbytes (n * 8 + 2) ++ (vbytes data.length ++ (data ++ r))).drop ((vbytes (n * 8 + 2)).length + (vbytes data.length).length) = data ++ r := by
      rw [← List.append_assoc]; exact List.drop_left' (by simp)
    rw [hd2, List.take_left' rfl, if_neg (by simp; omega)]
    simp; omega
/-- Fields in their places. -/
def plc : Nat → List Fld → List Fld
  | _, [] => []
  | p, f :: l => { f with place := p } :: plc (p + (encF f).length) l
theorem encF_pos (f : Fld) : 1 ≤ (encF f).length := by
  unfold encF; rw [List.length_append]; have := vbytes_pos (f.num * 8 + f.kind); omega
theorem plc_len (l : List Fld) : ∀ p, (plc p l).length = l.length := by
  induction l with
  | nil => intro p; rfl
  | cons f l ih => intro p; simp [plc, ih]
def itemOf (f : Fld) : Itm := ⟨f, 0, 0, []⟩
theorem itemsW_enc : ∀ (l : List Fld) (pre b : List UInt8), b = pre ++ l.flatMap encF → (∀ f ∈ l, goodF f) → itemsW b pre.length = (plc pre.length l).map itemOf := by
  intro l
  induction l with
  | nil => intro pre b hb _; rw [itemsW_end (by rw [hb]; simp)]; rfl
  | cons f l ih =>
    intro pre b hb h
    have hf := h f (List.mem_cons_self ..)
    have hpos := encF_pos f
    have hb2 : b = (pre ++ encF f) ++ l.flatMap encF := by rw [hb]; simp
    have hd : b.drop pre.length = encF f ++ l.flatMap encF := by rw [hb]; simp
    have ho : some (f, (encF f).length) = oneF (b.drop pre.length) 0 := by rw [hd, oneF_enc hf]
    have hlt : pre.length < b.length := by rw [hb2]; simp; omega
    rw [itemsW_good hlt ho]
    have h9 := ih (pre ++ encF f) b hb2 (fun g hg => h g (List.mem_cons_of_mem _ hg))
    rw [List.length_append] at h9
    rw [h9]
    rfl
theorem itemsF_enc {l : List Fld} (h : ∀ f ∈ l, goodF f) (hl : (l.flatMap encF).length ≤ 60000) : itemsF (l.flatMap encF) = (plc 0 l).map itemOf := by
  unfold itemsF
  rw [if_neg (by omega)]
  exact itemsW_enc l [] _ rfl h
theorem badI_enc {l : List Fld} (h : ∀ f ∈ l, goodF f) (hl : (l.flatMap encF).length ≤ 60000) : badI (itemsF (l.flatMap encF)) = none := badI_none (by
  rw [itemsF_enc h hl]; intro y hy; obtain ⟨f, _, rfl⟩ := List.mem_map.1 hy; rfl)
theorem bytesD_enc {l : List (Fld × Int)} (h : ∀ x ∈ l, goodF x.1) : bytesD l = (l.map (·.1)).flatMap encF := by
  unfold bytesD
  rw [List.flatMap_map]
  induction l with
  | nil => rfl
  | cons x l ih =>
    rw [List.flatMap_cons, List.flatMap_cons, ih (fun y hy => h y (List.mem_cons_of_mem _ hy))]
    congr 1
    have hx := h x (List.mem_cons_self ..)
    unfold encM
    rw [putR_yes hx.1]
    obtain ⟨⟨n, k, p, v, d⟩, e⟩ := x
    obtain ⟨_, _, h3⟩ := hx
    simp only at h3
    subst h3
    rfl
theorem msgL_fst {l : List Fld} (h : ∀ f ∈ l, goodF f) (hl : (l.flatMap encF).length ≤ 60000) : (msgL (l.flatMap encF)).map (·.1) = plc 0 l := by
  unfold msgL dpsN
  rw [itemsF_enc h hl, List.map_map, List.map_map]
  have e1 : List.map ((fun x : Itm => x.f) ∘ itemOf) (plc 0 l) = plc 0 l := by
    rw [show ((fun x : Itm => x.f) ∘ itemOf) = id from rfl, List.map_id]
  rw [e1, List.length_map]
  apply List.ext_getElem
  · simp
  · intro i h1 h2
    simp [dp1, h2]
def intsF (f : Fld) : List Int := if f.kind = 0 then [i64 f.val] else if f.kind = 2 then (getInts f.data).getD [] else []
theorem intsE_fst (l : List (Fld × Int)) : intsE l = (l.map (·.1)).flatMap intsF := by
  unfold intsE; rw [List.flatMap_map]; rfl
theorem itemsE_fst (l : List (Fld × Int)) (num : Int) : (itemsE l num).map (·.1) = (l.map (·.1)).filter (fun f => decide ((f.num : Int) = num)) := by
  unfold itemsE; rw [List.filter_map]; rfl
theorem plc_filter (num : Int) {α : Type} (g : Fld → List α) (hg : ∀ f p, g { f with place := p } = g f) : ∀ (l : List Fld) (p : Nat), ((plc p l).filter (fun f => decide ((f.num : Int) = num))).flatMap g = (l.filter (fun f => decide ((f.num : Int) = num))).flatMap g := by
  intro l
  induction l with
  | nil => intro p; rfl
  | cons f l ih =>
    intro p
    unfold plc
    by_cases hn : ((f.num : Nat) : Int) = num
    · rw [List.filter_cons_of_pos (by simp [hn]), List.filter_cons_of_pos (by simp [hn]), List.flatMap_cons, List.flatMap_cons, ih, hg]
    · rw [List.filter_cons_of_neg (by simp [hn]), List.filter_cons_of_neg (by simp [hn]), ih]
theorem intsE_msg {l : List Fld} (num : Int) (h : ∀ f ∈ l, goodF f) (hl : (l.flatMap encF).length ≤ 60000) : intsE (itemsE (msgL (l.flatMap encF)) num) = (l.filter (fun f => decide ((f.num : Int) = num))).flatMap intsF := by
  rw [intsE_fst, itemsE_fst, msgL_fst h hl, plc_filter num intsF (fun f p => rfl)]
theorem plc_mem {l : List Fld} : ∀ {p : Nat} {f : Fld}, f ∈ plc p l → ∃ g ∈ l, f.num = g.num ∧ f.kind = g.kind ∧ f.val = g.val ∧ f.data = g.data := by
  induction l with
  | nil => intro p f h; cases h
  | cons g l ih =>
    intro p f h
    unfold plc at h
    rcases List.mem_cons.1 h with rfl | h
    · exact ⟨g, List.mem_cons_self .., rfl, rfl, rfl, rfl⟩
    · obtain ⟨g', h1, h2⟩ := ih h
      exact ⟨g', List.mem_cons_of_mem _ h1, h2⟩
theorem msg_mem {l : List Fld} {num : Int} (h : ∀ f ∈ l, goodF f) (hl : (l.flatMap encF).length ≤ 60000) {x : Fld × Int} (hx : x ∈ itemsE (msgL (l.flatMap encF)) num) : ∃ g ∈ l, (g.num : Int) = num ∧ x.1.kind = g.kind ∧ x.1.val = g.val ∧ x.1.data = g.data := by
  have h1 : x.1 ∈ (itemsE (msgL (l.flatMap encF)) num).map (·.1) := List.mem_map_of_mem hx
  rw [itemsE_fst, msgL_fst h hl, List.mem_filter] at h1
  obtain ⟨h2, h3⟩ := h1
  obtain ⟨g, hg, e1, e2, e3, e4⟩ := plc_mem h2
  simp at h3
  exact ⟨g, hg, by omega, e2, e3, e4⟩
end Go.Proofs.Ytjcldnkgidfifaa
