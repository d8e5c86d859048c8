/-
  RatLaws: the walk.
-/
import Derived.Test.YtacflncmbnildaaDoorLawT
import Derived.Test.YtacflncmbnildaaDoorSeqB
namespace Go.Proofs.YtacflncmbnildaaDoor
open Go.RowKit
set_option linter.unusedVariables false
set_option linter.unusedSimpArgs false
attribute [local go_sem] field_nat

set_option maxRecDepth 100000 in
set_option maxHeartbeats 1000000 in
theorem ratLaws_early (l m n : List UInt8) (w : World) (h : 100 < l.length ∨ 100 < m.length ∨ 100 < n.length) :
    Calls Tryd.prog 6 #[.string ⟨l.toArray⟩, .string ⟨m.toArray⟩, .string ⟨n.toArray⟩] w fun e w' => e = .returned (.bool true) ∧ Below w.heap.size w w' := by
  by_cases h1 : (100 : Int) < ((l.length : Nat) : Int)
  · clear h
    go_enter Tryd.func6, Tryd.ntmps6
    go_wp2_with (go_at_call 11; refine (alive2_any _).mono ?_; rintro e w' ⟨rfl, hb⟩)
    go_ret
    exact ⟨rfl, hb⟩
  by_cases h2 : (100 : Int) < ((m.length : Nat) : Int)
  · clear h
    go_enter Tryd.func6, Tryd.ntmps6
    go_wp2_with (go_at_call 11; refine (alive2_any _).mono ?_; rintro e w' ⟨rfl, hb⟩)
    go_ret
    exact ⟨rfl, hb⟩
  by_cases h3 : (100 : Int) < ((n.length : Nat) : Int)
  · clear h
    go_enter Tryd.func6, Tryd.ntmps6
    go_wp2_with (go_at_call 11; refine (alive2_any _).mono ?_; rintro e w' ⟨rfl, hb⟩)
    go_ret
    exact ⟨rfl, hb⟩
  omega

set_option maxRecDepth 100000 in
set_option maxHeartbeats 1000000 in
/-- RatLaws, qval m = 0. -/
theorem ratLaws_zero (l m n : List UInt8) (w : World) (hl : l.length ≤ 100) (hm : m.length ≤ 100) (hn : n.length ≤ 100) (hb0 : qval m = 0) :
    Calls Tryd.prog 6 #[.string ⟨l.toArray⟩, .string ⟨m.toArray⟩, .string ⟨n.toArray⟩] w fun e w' => e = .returned (.bool true) ∧ Below w.heap.size w w' := by
  have k1 : ¬ (100 : Int) < ((l.length : Nat) : Int) := by omega
  have k2 : ¬ (100 : Int) < ((m.length : Nat) : Int) := by omega
  have k3 : ¬ (100 : Int) < ((n.length : Nat) : Int) := by omega
  have hqa := QB.val (l := l) (K := 101) (by omega)
  obtain ⟨a, hae⟩ : ∃ a, a = qval l := ⟨_, rfl⟩
  obtain ⟨ka, hac⟩ : ∃ c, c = qcode l := ⟨_, rfl⟩
  have hak := qcode_cases l
  rw [← hac] at hak
  rw [← hae] at hqa
  have HaE := Lib.hid hae
  have HaC := Lib.hid hac
  have HaK := Lib.hid hak
  clear hae hac hak
  have hqb := QB.val (l := m) (K := 101) (by omega)
  obtain ⟨b, hbe⟩ : ∃ a, a = qval m := ⟨_, rfl⟩
  obtain ⟨kb, hbc⟩ : ∃ c, c = qcode m := ⟨_, rfl⟩
  have hbk := qcode_cases m
  rw [← hbc] at hbk
  rw [← hbe] at hqb hb0
  have HbE := Lib.hid hbe
  have HbC := Lib.hid hbc
  have HbK := Lib.hid hbk
  clear hbe hbc hbk
  have hqc := QB.val (l := n) (K := 101) (by omega)
  obtain ⟨c, hce⟩ : ∃ a, a = qval n := ⟨_, rfl⟩
  obtain ⟨kc, hcc⟩ : ∃ c, c = qcode n := ⟨_, rfl⟩
  have hck := qcode_cases n
  rw [← hcc] at hck
  rw [← hce] at hqc
  have HcE := Lib.hid hce
  have HcC := Lib.hid hcc
  have HcK := Lib.hid hck
  clear hce hcc hck
  go_enter Tryd.func6, Tryd.ntmps6
  go_wp2_with fail
  refine (alive2_any _).mono ?_
  rintro e w1 ⟨rfl, hb⟩
  have hbf := hb
  clear hb
  go_wp2_with fail
  refine (qparse_main l _ a ka HaE HaC (by omega)).mono ?_
  rintro e w2 hq9
  obtain ⟨aB, axO, axL, axC, ayO, ayL, ayC, rfl, hS, hax, hay, ha, hb⟩ := hq9.out
  have HaS := Lib.hid hS; clear hS
  replace hbf := hbf.trans (hb.mono hbf.size)
  clear hb
  obtain ⟨w3, hwE⟩ : ∃ W, W = (w2.alloc (.cells #[.bool aB, .slice axO axL axC, .slice ayO ayL ayC] 27)) := ⟨_, rfl⟩
  have hb : Below w2.heap.size w2 w3 := by rw [hwE]; exact ((Below.refl _ w2).alloc (Nat.le_refl _) _)
  obtain ⟨pa, hpa⟩ : ∃ p, p = w2.heap.size := ⟨_, rfl⟩
  have hba : Box3 w3 pa (Value.bool aB) (Value.slice axO axL axC) (Value.slice ayO ayL ayC) := by rw [hwE, hpa]; exact ⟨by go_simp, by go_simp, by go_simp, by go_simp, by go_simp, by go_simp⟩
  have HP : Hid (w.heap.size ≤ pa) := Lib.hid (by have h9 := hbf.size; omega)
  have HW := Lib.hid hwE; clear hwE
  go_upto_region 4 with fail
  rw [← HW.out, ← hpa]
  clear hpa HW
  replace hax := hax.below hb
  replace hay := hay.below hb
  replace ha := ha.below hb
  replace hbf := hbf.trans (hb.mono hbf.size)
  clear hb
  go_wp2_with fail
  refine (qparse_main m _ b kb HbE HbC (by omega)).mono ?_
  rintro e w4 hq9
  obtain ⟨vB, vxO, vxL, vxC, vyO, vyL, vyC, rfl, hS, hvx, hvy, hv, hb⟩ := hq9.out
  have HvS := Lib.hid hS; clear hS
  replace hba := hba.kept hb
  replace hax := hax.below hb
  replace hay := hay.below hb
  replace ha := ha.below hb
  replace hbf := hbf.trans (hb.mono hbf.size)
  clear hb
  obtain ⟨w5, hwE⟩ : ∃ W, W = (w4.alloc (.cells #[.bool vB, .slice vxO vxL vxC, .slice vyO vyL vyC] 27)) := ⟨_, rfl⟩
  have hb : Below w4.heap.size w4 w5 := by rw [hwE]; exact ((Below.refl _ w4).alloc (Nat.le_refl _) _)
  obtain ⟨pv, hpv⟩ : ∃ p, p = w4.heap.size := ⟨_, rfl⟩
  have hbv : Box3 w5 pv (Value.bool vB) (Value.slice vxO vxL vxC) (Value.slice vyO vyL vyC) := by rw [hwE, hpv]; exact ⟨by go_simp, by go_simp, by go_simp, by go_simp, by go_simp, by go_simp⟩
  replace HP : Hid (w.heap.size ≤ pa ∧ pa < pv) := Lib.hid (by have h1 := HP.out; have h9 := hbf.size; have h2a := hba.lt; omega)
  have HW := Lib.hid hwE; clear hwE
  go_upto_region 5 with fail
  rw [← HW.out, ← hpv]
  clear hpv HW
  replace hba := hba.kept hb
  replace hax := hax.below hb
  replace hay := hay.below hb
  replace ha := ha.below hb
  replace hvx := hvx.below hb
  replace hvy := hvy.below hb
  replace hv := hv.below hb
  replace hbf := hbf.trans (hb.mono hbf.size)
  clear hb
  go_wp2_with fail
  refine (qparse_main n _ c kc HcE HcC (by omega)).mono ?_
  rintro e w6 hq9
  obtain ⟨cB, cxO, cxL, cxC, cyO, cyL, cyC, rfl, hS, hcx, hcy, hc, hb⟩ := hq9.out
  have HcS := Lib.hid hS; clear hS
  replace hba := hba.kept hb
  replace hbv := hbv.kept hb
  replace hax := hax.below hb
  replace hay := hay.below hb
  replace ha := ha.below hb
  replace hvx := hvx.below hb
  replace hvy := hvy.below hb
  replace hv := hv.below hb
  replace hbf := hbf.trans (hb.mono hbf.size)
  clear hb
  obtain ⟨w7, hwE⟩ : ∃ W, W = (w6.alloc (.cells #[.bool cB, .slice cxO cxL cxC, .slice cyO cyL cyC] 27)) := ⟨_, rfl⟩
  have hb : Below w6.heap.size w6 w7 := by rw [hwE]; exact ((Below.refl _ w6).alloc (Nat.le_refl _) _)
  obtain ⟨pc, hpc⟩ : ∃ p, p = w6.heap.size := ⟨_, rfl⟩
  have hbc : Box3 w7 pc (Value.bool cB) (Value.slice cxO cxL cxC) (Value.slice cyO cyL cyC) := by rw [hwE, hpc]; exact ⟨by go_simp, by go_simp, by go_simp, by go_simp, by go_simp, by go_simp⟩
  replace HP : Hid (w.heap.size ≤ pa ∧ pa < pv ∧ pv < pc) := Lib.hid (by have h1 := HP.out; have h9 := hbf.size; have h2v := hbv.lt; omega)
  have HW := Lib.hid hwE; clear hwE
  go_upto_region 6 with fail
  rw [← HW.out, ← hpc]
  clear hpc HW
  replace hba := hba.kept hb
  replace hbv := hbv.kept hb
  replace hax := hax.below hb
  replace hay := hay.below hb
  replace ha := ha.below hb
  replace hvx := hvx.below hb
  replace hvy := hvy.below hb
  replace hv := hv.below hb
  replace hcx := hcx.below hb
  replace hcy := hcy.below hb
  replace hc := hc.below hb
  replace hbf := hbf.trans (hb.mono hbf.size)
  clear hb
  by_cases ha0 : ka = 0
  rotate_left
  · rcases HaK.out with rfl | rfl | rfl
    · exact (ha0 rfl).elim
    all_goals
      clear ha0
      go_wp2_with fail
      go_ret
      exact ⟨rfl, hbf⟩
  subst ha0
  by_cases hb0 : kb = 0
  rotate_left
  · rcases HbK.out with rfl | rfl | rfl
    · exact (hb0 rfl).elim
    all_goals
      clear hb0
      go_wp2_with fail
      go_ret
      exact ⟨rfl, hbf⟩
  subst hb0
  by_cases hc0 : kc = 0
  rotate_left
  · rcases HcK.out with rfl | rfl | rfl
    · exact (hc0 rfl).elim
    all_goals
      clear hc0
      go_wp2_with fail
      go_ret
      exact ⟨rfl, hbf⟩
  subst hc0
  go_upto_region 8 with fail
  have ea0 := hba.c0
  have ea1 := hba.c1
  have ea2 := hba.c2
  have ev0 := hbv.c0
  have ev1 := hbv.c1
  have ev2 := hbv.c2
  go_wp2_with fail
  refine (qdiv_zero _ _ a b 101 101 _ ha hv hqa hqb (by decide) hb0).mono ?_
  rintro e w8 hq9
  obtain ⟨qB, qxO, qxL, qxC, qyO, qyL, qyC, rfl, hS, hqx, hqy, hq, hb⟩ := hq9.out
  have HqS := Lib.hid hS; clear hS
  clear ea0 ea1 ea2 ev0 ev1 ev2
  replace hba := hba.kept hb
  replace hbv := hbv.kept hb
  replace hbc := hbc.kept hb
  replace hax := hax.below hb
  replace hay := hay.below hb
  replace ha := ha.below hb
  replace hvx := hvx.below hb
  replace hvy := hvy.below hb
  replace hv := hv.below hb
  replace hcx := hcx.below hb
  replace hcy := hcy.below hb
  replace hc := hc.below hb
  replace hbf := hbf.trans (hb.mono hbf.size)
  clear hb
  clear hb0
  obtain ⟨w9, hwE⟩ : ∃ W, W = (w8.alloc (.cells #[.bool qB, .slice qxO qxL qxC, .slice qyO qyL qyC] 27)) := ⟨_, rfl⟩
  have hb : Below w8.heap.size w8 w9 := by rw [hwE]; exact ((Below.refl _ w8).alloc (Nat.le_refl _) _)
  obtain ⟨pq, hpq⟩ : ∃ p, p = w8.heap.size := ⟨_, rfl⟩
  have hbq : Box3 w9 pq (Value.bool qB) (Value.slice qxO qxL qxC) (Value.slice qyO qyL qyC) := by rw [hwE, hpq]; exact ⟨by go_simp, by go_simp, by go_simp, by go_simp, by go_simp, by go_simp⟩
  replace HP : Hid (w.heap.size ≤ pa ∧ pa < pv ∧ pv < pc ∧ pc < pq) := Lib.hid (by have h1 := HP.out; have h9 := hbf.size; have h2c := hbc.lt; omega)
  have HW := Lib.hid hwE; clear hwE
  go_upto_region 9 with fail
  rw [← HW.out, ← hpq]
  clear hpq HW
  replace hba := hba.kept hb
  replace hbv := hbv.kept hb
  replace hbc := hbc.kept hb
  replace hax := hax.below hb
  replace hay := hay.below hb
  replace ha := ha.below hb
  replace hvx := hvx.below hb
  replace hvy := hvy.below hb
  replace hv := hv.below hb
  replace hcx := hcx.below hb
  replace hcy := hcy.below hb
  replace hc := hc.below hb
  replace hqx := hqx.below hb
  replace hqy := hqy.below hb
  replace hq := hq.below hb
  replace hbf := hbf.trans (hb.mono hbf.size)
  clear hb
  have hq0 := QB.zero 1 (by decide)
  have hq1 : QB ((1 : Int) : Rat) 2 := QB.int (by decide) (by decide)
  have Qbc := hqb.add hqc
  have Qab := hqa.mul hqb
  have Qac := hqa.mul hqc
  have Qabc := hqa.mul Qbc
  have Qsum := Qab.add Qac
  have Qsub := hqa.sub hqb
  have Qback := Qsub.add hqb
  have Qfl := hqa.floor
  have Qfl1 := Qfl.add hq1
  have Qcl := hqa.neg.floor.neg
  have Qself := hqa.sub hqa
  have L1 : Hid (a * (b + c) = a * b + a * c) := Lib.hid (law_dist a b c)
  have L2 : Hid (a - b + b = a) := Lib.hid (law_back a b)
  have L4 : Hid (a - a = 0) := Lib.hid (law_self a)
  obtain ⟨c1, hc1⟩ : ∃ k, k = qcmp (a.floor : Rat) a := ⟨_, rfl⟩
  have hc1l : c1 ≤ 0 := by rw [hc1]; exact qcmp_le (floor_near a).1
  have C1 := Lib.hid hc1.symm; clear hc1
  have C2 : Hid (qcmp a ((a.floor : Rat) + ((1 : Int) : Rat)) = -1) := Lib.hid (qcmp_lt (floor_near a).2)
  obtain ⟨c3, hc3⟩ : ∃ k, k = qcmp (-((-a).floor : Rat)) a := ⟨_, rfl⟩
  have hc3l : 0 ≤ c3 := by rw [hc3]; exact qcmp_ge (ceil_near a)
  have C3 := Lib.hid hc3.symm; clear hc3
  obtain ⟨c4, hc4⟩ : ∃ k, k = qcmp a b := ⟨_, rfl⟩
  have C5 : Hid (qcmp (a - b) 0 = c4) := Lib.hid (by rw [hc4]; exact qcmp_sub a b)
  have C6 : Hid (qcmp b a = -c4) := Lib.hid (by rw [hc4]; exact qcmp_anti a b)
  have CT : Hid (c4 = -1 ∨ c4 = 0 ∨ c4 = 1) := Lib.hid (by rw [hc4]; exact qcmp_three a b)
  have C4 := Lib.hid hc4.symm; clear hc4
  obtain ⟨w10, hwE⟩ : ∃ W, W = (w9.alloc (.cells #[.bool false, .slice none 0 0, .slice none 0 0] 27)) := ⟨_, rfl⟩
  have hb : Below w9.heap.size w9 w10 := by rw [hwE]; exact ((Below.refl _ w9).alloc (Nat.le_refl _) _)
  obtain ⟨pz, hpz⟩ : ∃ p, p = w9.heap.size := ⟨_, rfl⟩
  have hbz : Box3 w10 pz (Value.bool false) (Value.slice none 0 0) (Value.slice none 0 0) := by rw [hwE, hpz]; exact ⟨by go_simp, by go_simp, by go_simp, by go_simp, by go_simp, by go_simp⟩
  replace HP : Hid (w.heap.size ≤ pa ∧ pa < pv ∧ pv < pc ∧ pc < pq ∧ pq < pz) := Lib.hid (by have h1 := HP.out; have h9 := hbf.size; have h2q := hbq.lt; omega)
  have HW := Lib.hid hwE; clear hwE
  go_upto_region 10 with fail
  rw [← HW.out, ← hpz]
  clear hpz HW
  replace hba := hba.kept hb
  replace hbv := hbv.kept hb
  replace hbc := hbc.kept hb
  replace hbq := hbq.kept hb
  replace hax := hax.below hb
  replace hay := hay.below hb
  replace ha := ha.below hb
  replace hvx := hvx.below hb
  replace hvy := hvy.below hb
  replace hv := hv.below hb
  replace hcx := hcx.below hb
  replace hcy := hcy.below hb
  replace hc := hc.below hb
  replace hqx := hqx.below hb
  replace hqy := hqy.below hb
  replace hq := hq.below hb
  replace hbf := hbf.trans (hb.mono hbf.size)
  clear hb
  simp only [List.append_eq, List.cons_append, List.nil_append]
  refine wp_region_seqQ (S := fun w' => Box3 w' pa (Value.bool aB) (Value.slice axO axL axC) (Value.slice ayO ayL ayC) ∧ Box3 w' pv (Value.bool vB) (Value.slice vxO vxL vxC) (Value.slice vyO vyL vyC) ∧ Box3 w' pc (Value.bool cB) (Value.slice cxO cxL cxC) (Value.slice cyO cyL cyC) ∧ Box3 w' pz (Value.bool false) (Value.slice none 0 0) (Value.slice none 0 0)) [(0, 128, some 66), (0, 512, some 67), (0, 2048, some 68), (6, 442721857769029238784, some 69), (9, 664082786653543858176, some 70), (0, 128, some 71), (0, 512, some 72), (112, 7083549724304467820544, some 73), (0, 128, some 74), (0, 2048, some 75), (896, 56668397794435742564352, some 76), (1152, 85002596691653613846528, some 77), (2064, 152296319072546058141696, some 78), (4096, 302231454903657293676544, some 79), (8192, 604462909807314587353216, some 80), (8192, 604462909807314587353600, some 81), (57344, 4231240368651202111471616, some 82), (8192, 604462909807314587353600, some 83), (204800, 15111572745182864683827200, some 84), (8192, 604462909807314587353216, some 85), (794624, 58632902251309514973249536, some 86), (1056768, 77975715365143581768548352, some 87), (3145728, 154742504910672534362390528, some 88), (4194304, 309485009821345068724797440, some 89), (12582912, 928455029464035206174343168, some 90), (20971520, 1547425049106725343623905280, some 91), (33554432, 2475880078570760549798256640, some 92), (33554432, 2475880078570760549798248960, some 93), (234881024, 17331160549995323848587739136, some 94), (33554432, 2475880078570760549798248576, some 95), (838860800, 61897001964269013744956211200, some 96), (1111490560, 82013527602656443212066979840, some 97), (2151677952, 158765810038350020255812681728, some 98), (5368709120, 316912650057057350374175801344, some 99), (8589934592, 633825300114114700748351602816, some 100), (25769803776, 1901475900342344102245054808064, some 101), (8589934592, 633825300114114700748351602816, some 102), (111669149696, 8239728901483491109728570834944, some 103), (146028888064, 10775030101939949912721977245696, some 104), (283467841536, 20916234903765785124695602888704, some 105), (687194767360, 40564819207303340847894502572032, some 106), (1099511627776, 81129638414606681695789005144192, some 107), (1099511627776, 81129638414606681695789005144192, some 108), (5497558138880, 405648192073033408478945025720320, some 109), (9895604649984, 81129638414606681695789005144064, some 110), (27487790694400, 2028240960365167042394725128601600, some 111), (38482906972160, 2839537344511233859352615180042240, some 112), (71468255805440, 5273426496949434310226285334364160, some 113), (141836999983104, 10465723355484261938756781663584256, some 114), (351843720888320, 20769187434139310514121985316880384, some 115), (562949953421312, 41538374868278621028243970633760896, some 116), (1688849860263936, 124615124604835863084731911901282304, some 117), (562949953421312, 41538374868278621028243970633760896, some 118), (7318349394477056, 539998873287622073367171618238889984, some 119), (9570149208162304, 706152372760736557480147500773933056, some 120), (18577348462903296, 1370766370653194493932051030914105344, some 121), (45035996273704960, 2658455991569831745807614120560689152, some 122), (72057594037927936, 5316911983139663491615228241121378432, some 123), (72057594037927936, 5316911983139663491615228241121378432, some 124), (504403158265495552, 37218383881977644441306597687849648128, some 125), (72057594037927936, 5316911983139663491615228241121411072, some 126), (1801439850948198400, 132922799578491587290380706028034457600, some 127), (2377900603251621888, 175458095443608895223302531957005484032, some 128), (6917529027641081856, 340282366920938463463374607431768211456, some 129), (9223372036854775808, 680564733841876926926749214863536423040, some 130), (9223372036854775808, 680564733841876926926749214863536423424, some 131), (64563604257983430656, 4763953136893138488487244504044754960384, some 132), (83010348331692982272, 6125082604576892342340742933771827806208, some 133), (9223372036854775808, 680564733841876926926749214863536423040, some 134), (9223372036854775808, 680564733841876926926749214863536423424, some 135), (968454063869751459840, 66014779182662061911894673841763033022464, some 136), (9223372036854775808, 680564733841876926926749214863536455680, some 137), (3550998234189088686080, 262017422529122616866798447722461522821120, some 138), (4731589854906499989504, 349129708460882863513422347224994184953856, some 139), (9601530290365821616128, 708467887929393880930745932672941416251392, some 140), (18898689303515435630592, 1394477139642005823272909141255386130546688, some 141), (42501298345826806923264, 2787593149816327892691964784081045188247552, some 142), (75557863725914323419136, 5575186299632655785383929568162090376495232, some 143), (75557863725914323419136, 5575186299632655785383929568162090376495616, some 144), (528905046081400263933952, 39026304097428590497687506977134632635465728, some 145), (75557863725914323419136, 5575186299632655785383929568162090376495616, some 146), (75557863725914323419136, 5575186299632655785383929568162090376495232, some 147), (4306798232377116434890752, 273184128682000133483812548839942428448260096, some 148), (4911261142184431022243840, 362387109476122626049955421930535874472181760, some 149), (10351427330450262308421632, 763800523049673842597598350838206381579829248, some 150), (19418370977559981118717952, 1432822879005592536843669899017657226759241728, some 151), (77371252455336267181195263, 2854495385411919762116571938898990272765493248, some 6)] [(true, 0), (true, 1), (true, 2), (true, 5), (true, 6), (true, 8), (true, 9), (false, 3), (false, 4), (false, 7), (false, 10), (false, 11), (false, 12), (true, 13), (true, 14), (true, 15), (true, 17), (true, 19), (false, 16), (false, 18), (false, 20), (true, 21), (true, 22), (true, 23), (true, 24), (true, 25), (true, 26), (true, 27), (true, 29), (false, 28), (false, 30), (true, 31), (true, 32), (true, 33), (true, 34), (true, 36), (false, 35), (false, 37), (true, 38), (true, 39), (true, 40), (true, 41), (true, 42), (false, 43), (false, 44), (false, 45), (false, 46), (true, 47), (true, 48), (true, 49), (true, 50), (true, 52), (false, 51), (false, 53), (true, 54), (true, 55), (true, 56), (true, 57), (true, 58), (true, 60), (false, 59), (false, 61), (true, 62), (true, 63), (true, 64), (true, 65), (true, 68), (true, 69), (true, 71), (false, 66), (true, 67), (false, 70), (false, 72), (true, 73), (true, 74), (true, 75), (true, 76), (true, 77), (true, 78), (true, 80), (true, 81), (false, 79), (false, 82), (true, 83), (true, 84), (true, 85), (true, 86)] (by kernel_rfl) (by kernel_rfl) (by kernel_rfl) (by kernel_rfl) (by kernel_rfl) (by kernel_rfl) (fun d _ _ _ _ h => by cases d <;> exact h) ⟨hba.drew, hbv.drew, hbc.drew, hbz.drew⟩ (fun _ => ?_)
  simp only [pickOps, List.append_eq, List.cons_append, List.nil_append, List.getElem?_toArray, List.getElem?_cons_succ, List.getElem?_cons_zero]
  have hb : Below w10.heap.size w10 w10.drew := (Below.refl _ _).drew
  generalize w10.drew = w11 at hb ⊢
  replace hba := hba.kept hb
  replace hbv := hbv.kept hb
  replace hbc := hbc.kept hb
  replace hbq := hbq.kept hb
  replace hbz := hbz.kept hb
  replace hax := hax.below hb
  replace hay := hay.below hb
  replace ha := ha.below hb
  replace hvx := hvx.below hb
  replace hvy := hvy.below hb
  replace hv := hv.below hb
  replace hcx := hcx.below hb
  replace hcy := hcy.below hb
  replace hc := hc.below hb
  replace hqx := hqx.below hb
  replace hqy := hqy.below hb
  replace hq := hq.below hb
  replace hbf := hbf.trans (hb.mono hbf.size)
  clear hb
  repeat (first | (refine seq_take (v := ?_) (by rfl) ?_ ?_; rotate_left; (· intro w hSw; (try dsimp only at hSw); obtain ⟨⟨ea0, ea1, ea2, _, _, _⟩, ⟨ev0, ev1, ev2, _, _, _⟩, ⟨ec0, ec1, ec2, _, _, _⟩, ⟨ez0, ez1, ez2, _, _, _⟩⟩ := hSw; go_simp; all_goals with_reducible rfl); (try simp only [Act.put, List.setIfInBounds_toArray, List.set_cons_zero, List.set_cons_succ])) | (refine seq_leave (by rfl) ?_; (try simp only [Act.put, List.setIfInBounds_toArray, List.set_cons_zero, List.set_cons_succ])))
  refine seq_step (by rfl) (fun K hK => ?_)
  go_simp
  go_at_call 33
  (with_reducible refine (qadd_any _ _ b c 101 101 _ hv hc hqb hqc (by decide)).mono ?_)
  rintro e w12 hq9
  obtain ⟨dB, dxO, dxL, dxC, dyO, dyL, dyC, rfl, hS, hdx, hdy, hd, hb⟩ := hq9.out
  have HdS := Lib.hid hS; clear hS
  replace hba := hba.kept hb
  replace hbv := hbv.kept hb
  replace hbc := hbc.kept hb
  replace hbq := hbq.kept hb
  replace hbz := hbz.kept hb
  replace hax := hax.below hb
  replace hay := hay.below hb
  replace ha := ha.below hb
  replace hvx := hvx.below hb
  replace hvy := hvy.below hb
  replace hv := hv.below hb
  replace hcx := hcx.below hb
  replace hcy := hcy.below hb
  replace hc := hc.below hb
  replace hqx := hqx.below hb
  replace hqy := hqy.below hb
  replace hq := hq.below hb
  replace hbf := hbf.trans (hb.mono hbf.size)
  clear hb
  first | refine hK.out _ _ ⟨hba, hbv, hbc, hbz⟩ (fun _ => ?_) | (go_wp2_with fail; refine hK.out _ _ ⟨hba, hbv, hbc, hbz⟩ (fun _ => ?_))
  clear hK K
  (try simp only [Act.put, List.setIfInBounds_toArray, List.set_cons_zero, List.set_cons_succ])
  refine seq_step (by rfl) (fun K hK => ?_)
  go_simp
  go_at_call 32
  (with_reducible refine (qmul_any _ _ a (b + c) 101 203 _ ha hd hqa Qbc (by decide)).mono ?_)
  rintro e w13 hq9
  obtain ⟨eB, exO, exL, exC, eyO, eyL, eyC, rfl, hS, hex, hey, he, hb⟩ := hq9.out
  have HeS := Lib.hid hS; clear hS
  replace hba := hba.kept hb
  replace hbv := hbv.kept hb
  replace hbc := hbc.kept hb
  replace hbq := hbq.kept hb
  replace hbz := hbz.kept hb
  replace hax := hax.below hb
  replace hay := hay.below hb
  replace ha := ha.below hb
  replace hvx := hvx.below hb
  replace hvy := hvy.below hb
  replace hv := hv.below hb
  replace hcx := hcx.below hb
  replace hcy := hcy.below hb
  replace hc := hc.below hb
  replace hqx := hqx.below hb
  replace hqy := hqy.below hb
  replace hq := hq.below hb
  replace hdx := hdx.below hb
  replace hdy := hdy.below hb
  replace hd := hd.below hb
  replace hbf := hbf.trans (hb.mono hbf.size)
  clear hb
  first | refine hK.out _ _ ⟨hba, hbv, hbc, hbz⟩ (fun _ => ?_) | (go_wp2_with fail; refine hK.out _ _ ⟨hba, hbv, hbc, hbz⟩ (fun _ => ?_))
  clear hK K
  (try simp only [Act.put, List.setIfInBounds_toArray, List.set_cons_zero, List.set_cons_succ])
  refine seq_step (by rfl) (fun K hK => ?_)
  go_simp
  go_at_call 32
  (with_reducible refine (qmul_any _ _ a b 101 101 _ ha hv hqa hqb (by decide)).mono ?_)
  rintro e w14 hq9
  obtain ⟨fB, fxO, fxL, fxC, fyO, fyL, fyC, rfl, hS, hfx, hfy, hf, hb⟩ := hq9.out
  have HfS := Lib.hid hS; clear hS
  replace hba := hba.kept hb
  replace hbv := hbv.kept hb
  replace hbc := hbc.kept hb
  replace hbq := hbq.kept hb
  replace hbz := hbz.kept hb
  replace hax := hax.below hb
  replace hay := hay.below hb
  replace ha := ha.below hb
  replace hvx := hvx.below hb
  replace hvy := hvy.below hb
  replace hv := hv.below hb
  replace hcx := hcx.below hb
  replace hcy := hcy.below hb
  replace hc := hc.below hb
  replace hqx := hqx.below hb
  replace hqy := hqy.below hb
  replace hq := hq.below hb
  replace hdx := hdx.below hb
  replace hdy := hdy.below hb
  replace hd := hd.below hb
  replace hex := hex.below hb
  replace hey := hey.below hb
  replace he := he.below hb
  replace hbf := hbf.trans (hb.mono hbf.size)
  clear hb
  first | refine hK.out _ _ ⟨hba, hbv, hbc, hbz⟩ (fun _ => ?_) | (go_wp2_with fail; refine hK.out _ _ ⟨hba, hbv, hbc, hbz⟩ (fun _ => ?_))
  clear hK K
  (try simp only [Act.put, List.setIfInBounds_toArray, List.set_cons_zero, List.set_cons_succ])
  refine seq_step (by rfl) (fun K hK => ?_)
  go_simp
  go_at_call 32
  (with_reducible refine (qmul_any _ _ a c 101 101 _ ha hc hqa hqc (by decide)).mono ?_)
  rintro e w15 hq9
  obtain ⟨gB, gxO, gxL, gxC, gyO, gyL, gyC, rfl, hS, hgx, hgy, hg, hb⟩ := hq9.out
  have HgS := Lib.hid hS; clear hS
  replace hba := hba.kept hb
  replace hbv := hbv.kept hb
  replace hbc := hbc.kept hb
  replace hbq := hbq.kept hb
  replace hbz := hbz.kept hb
  replace hax := hax.below hb
  replace hay := hay.below hb
  replace ha := ha.below hb
  replace hvx := hvx.below hb
  replace hvy := hvy.below hb
  replace hv := hv.below hb
  replace hcx := hcx.below hb
  replace hcy := hcy.below hb
  replace hc := hc.below hb
  replace hqx := hqx.below hb
  replace hqy := hqy.below hb
  replace hq := hq.below hb
  replace hdx := hdx.below hb
  replace hdy := hdy.below hb
  replace hd := hd.below hb
  replace hex := hex.below hb
  replace hey := hey.below hb
  replace he := he.below hb
  replace hfx := hfx.below hb
  replace hfy := hfy.below hb
  replace hf := hf.below hb
  replace hbf := hbf.trans (hb.mono hbf.size)
  clear hb
  first | refine hK.out _ _ ⟨hba, hbv, hbc, hbz⟩ (fun _ => ?_) | (go_wp2_with fail; refine hK.out _ _ ⟨hba, hbv, hbc, hbz⟩ (fun _ => ?_))
  clear hK K
  (try simp only [Act.put, List.setIfInBounds_toArray, List.set_cons_zero, List.set_cons_succ])
  refine seq_step (by rfl) (fun K hK => ?_)
  go_simp
  go_at_call 33
  (with_reducible refine (qadd_any _ _ (a * b) (a * c) 202 202 _ hf hg Qab Qac (by decide)).mono ?_)
  rintro e w16 hq9
  obtain ⟨hB, hxO, hxL, hxC, hyO, hyL, hyC, rfl, hS, hhx, hhy, hh, hb⟩ := hq9.out
  have HhS := Lib.hid hS; clear hS
  replace hba := hba.kept hb
  replace hbv := hbv.kept hb
  replace hbc := hbc.kept hb
  replace hbq := hbq.kept hb
  replace hbz := hbz.kept hb
  replace hax := hax.below hb
  replace hay := hay.below hb
  replace ha := ha.below hb
  replace hvx := hvx.below hb
  replace hvy := hvy.below hb
  replace hv := hv.below hb
  replace hcx := hcx.below hb
  replace hcy := hcy.below hb
  replace hc := hc.below hb
  replace hqx := hqx.below hb
  replace hqy := hqy.below hb
  replace hq := hq.below hb
  replace hdx := hdx.below hb
  replace hdy := hdy.below hb
  replace hd := hd.below hb
  replace hex := hex.below hb
  replace hey := hey.below hb
  replace he := he.below hb
  replace hfx := hfx.below hb
  replace hfy := hfy.below hb
  replace hf := hf.below hb
  replace hgx := hgx.below hb
  replace hgy := hgy.below hb
  replace hg := hg.below hb
  replace hbf := hbf.trans (hb.mono hbf.size)
  clear hb
  first | refine hK.out _ _ ⟨hba, hbv, hbc, hbz⟩ (fun _ => ?_) | (go_wp2_with fail; refine hK.out _ _ ⟨hba, hbv, hbc, hbz⟩ (fun _ => ?_))
  clear hK K
  (try simp only [Act.put, List.setIfInBounds_toArray, List.set_cons_zero, List.set_cons_succ])
  refine seq_step (by rfl) (fun K hK => ?_)
  go_simp
  go_at_call 20
  (with_reducible refine (same_eq _ _ _ _ 304 405 _ he hh Qabc Qsum (by decide) L1).mono ?_)
  rintro e w17 ⟨rfl, hb⟩
  replace hba := hba.kept hb
  replace hbv := hbv.kept hb
  replace hbc := hbc.kept hb
  replace hbq := hbq.kept hb
  replace hbz := hbz.kept hb
  replace hax := hax.below hb
  replace hay := hay.below hb
  replace ha := ha.below hb
  replace hvx := hvx.below hb
  replace hvy := hvy.below hb
  replace hv := hv.below hb
  replace hcx := hcx.below hb
  replace hcy := hcy.below hb
  replace hc := hc.below hb
  replace hqx := hqx.below hb
  replace hqy := hqy.below hb
  replace hq := hq.below hb
  replace hdx := hdx.below hb
  replace hdy := hdy.below hb
  replace hd := hd.below hb
  replace hex := hex.below hb
  replace hey := hey.below hb
  replace he := he.below hb
  replace hfx := hfx.below hb
  replace hfy := hfy.below hb
  replace hf := hf.below hb
  replace hgx := hgx.below hb
  replace hgy := hgy.below hb
  replace hg := hg.below hb
  replace hhx := hhx.below hb
  replace hhy := hhy.below hb
  replace hh := hh.below hb
  replace hbf := hbf.trans (hb.mono hbf.size)
  clear hb
  first | refine hK.out _ _ ⟨hba, hbv, hbc, hbz⟩ (fun _ => ?_) | (go_wp2_with fail; refine hK.out _ _ ⟨hba, hbv, hbc, hbz⟩ (fun _ => ?_))
  clear hK K
  (try simp only [Act.put, List.setIfInBounds_toArray, List.set_cons_zero, List.set_cons_succ])
  repeat (first | (refine seq_take (v := ?_) (by rfl) ?_ ?_; rotate_left; (· intro w hSw; (try dsimp only at hSw); obtain ⟨⟨ea0, ea1, ea2, _, _, _⟩, ⟨ev0, ev1, ev2, _, _, _⟩, ⟨ec0, ec1, ec2, _, _, _⟩, ⟨ez0, ez1, ez2, _, _, _⟩⟩ := hSw; go_simp; all_goals with_reducible rfl); (try simp only [Act.put, List.setIfInBounds_toArray, List.set_cons_zero, List.set_cons_succ])) | (refine seq_leave (by rfl) ?_; (try simp only [Act.put, List.setIfInBounds_toArray, List.set_cons_zero, List.set_cons_succ])))
  refine seq_step (by rfl) (fun K hK => ?_)
  go_simp
  go_at_call 25
  (with_reducible refine (qsub_any _ _ a b 101 101 _ ha hv hqa hqb (by decide)).mono ?_)
  rintro e w18 hq9
  obtain ⟨iB, ixO, ixL, ixC, iyO, iyL, iyC, rfl, hS, hix, hiy, hi, hb⟩ := hq9.out
  have HiS := Lib.hid hS; clear hS
  replace hba := hba.kept hb
  replace hbv := hbv.kept hb
  replace hbc := hbc.kept hb
  replace hbq := hbq.kept hb
  replace hbz := hbz.kept hb
  replace hax := hax.below hb
  replace hay := hay.below hb
  replace ha := ha.below hb
  replace hvx := hvx.below hb
  replace hvy := hvy.below hb
  replace hv := hv.below hb
  replace hcx := hcx.below hb
  replace hcy := hcy.below hb
  replace hc := hc.below hb
  replace hqx := hqx.below hb
  replace hqy := hqy.below hb
  replace hq := hq.below hb
  replace hdx := hdx.below hb
  replace hdy := hdy.below hb
  replace hd := hd.below hb
  replace hex := hex.below hb
  replace hey := hey.below hb
  replace he := he.below hb
  replace hfx := hfx.below hb
  replace hfy := hfy.below hb
  replace hf := hf.below hb
  replace hgx := hgx.below hb
  replace hgy := hgy.below hb
  replace hg := hg.below hb
  replace hhx := hhx.below hb
  replace hhy := hhy.below hb
  replace hh := hh.below hb
  replace hbf := hbf.trans (hb.mono hbf.size)
  clear hb
  first | refine hK.out _ _ ⟨hba, hbv, hbc, hbz⟩ (fun _ => ?_) | (go_wp2_with fail; refine hK.out _ _ ⟨hba, hbv, hbc, hbz⟩ (fun _ => ?_))
  clear hK K
  (try simp only [Act.put, List.setIfInBounds_toArray, List.set_cons_zero, List.set_cons_succ])
  refine seq_step (by rfl) (fun K hK => ?_)
  go_simp
  go_at_call 33
  (with_reducible refine (qadd_any _ _ (a - b) b 203 101 _ hi hv Qsub hqb (by decide)).mono ?_)
  rintro e w19 hq9
  obtain ⟨jB, jxO, jxL, jxC, jyO, jyL, jyC, rfl, hS, hjx, hjy, hj, hb⟩ := hq9.out
  have HjS := Lib.hid hS; clear hS
  replace hba := hba.kept hb
  replace hbv := hbv.kept hb
  replace hbc := hbc.kept hb
  replace hbq := hbq.kept hb
  replace hbz := hbz.kept hb
  replace hax := hax.below hb
  replace hay := hay.below hb
  replace ha := ha.below hb
  replace hvx := hvx.below hb
  replace hvy := hvy.below hb
  replace hv := hv.below hb
  replace hcx := hcx.below hb
  replace hcy := hcy.below hb
  replace hc := hc.below hb
  replace hqx := hqx.below hb
  replace hqy := hqy.below hb
  replace hq := hq.below hb
  replace hdx := hdx.below hb
  replace hdy := hdy.below hb
  replace hd := hd.below hb
  replace hex := hex.below hb
  replace hey := hey.below hb
  replace he := he.below hb
  replace hfx := hfx.below hb
  replace hfy := hfy.below hb
  replace hf := hf.below hb
  replace hgx := hgx.below hb
  replace hgy := hgy.below hb
  replace hg := hg.below hb
  replace hhx := hhx.below hb
  replace hhy := hhy.below hb
  replace hh := hh.below hb
  replace hix := hix.below hb
  replace hiy := hiy.below hb
  replace hi := hi.below hb
  replace hbf := hbf.trans (hb.mono hbf.size)
  clear hb
  first | refine hK.out _ _ ⟨hba, hbv, hbc, hbz⟩ (fun _ => ?_) | (go_wp2_with fail; refine hK.out _ _ ⟨hba, hbv, hbc, hbz⟩ (fun _ => ?_))
  clear hK K
  (try simp only [Act.put, List.setIfInBounds_toArray, List.set_cons_zero, List.set_cons_succ])
  refine seq_step (by rfl) (fun K hK => ?_)
  go_simp
  go_at_call 20
  (with_reducible refine (same_eq _ _ _ a 305 101 _ hj ha Qback hqa (by decide) L2).mono ?_)
  rintro e w20 ⟨rfl, hb⟩
  replace hba := hba.kept hb
  replace hbv := hbv.kept hb
  replace hbc := hbc.kept hb
  replace hbq := hbq.kept hb
  replace hbz := hbz.kept hb
  replace hax := hax.below hb
  replace hay := hay.below hb
  replace ha := ha.below hb
  replace hvx := hvx.below hb
  replace hvy := hvy.below hb
  replace hv := hv.below hb
  replace hcx := hcx.below hb
  replace hcy := hcy.below hb
  replace hc := hc.below hb
  replace hqx := hqx.below hb
  replace hqy := hqy.below hb
  replace hq := hq.below hb
  replace hdx := hdx.below hb
  replace hdy := hdy.below hb
  replace hd := hd.below hb
  replace hex := hex.below hb
  replace hey := hey.below hb
  replace he := he.below hb
  replace hfx := hfx.below hb
  replace hfy := hfy.below hb
  replace hf := hf.below hb
  replace hgx := hgx.below hb
  replace hgy := hgy.below hb
  replace hg := hg.below hb
  replace hhx := hhx.below hb
  replace hhy := hhy.below hb
  replace hh := hh.below hb
  replace hix := hix.below hb
  replace hiy := hiy.below hb
  replace hi := hi.below hb
  replace hjx := hjx.below hb
  replace hjy := hjy.below hb
  replace hj := hj.below hb
  replace hbf := hbf.trans (hb.mono hbf.size)
  clear hb
  first | refine hK.out _ _ ⟨hba, hbv, hbc, hbz⟩ (fun _ => ?_) | (go_wp2_with fail; refine hK.out _ _ ⟨hba, hbv, hbc, hbz⟩ (fun _ => ?_))
  clear hK K
  (try simp only [Act.put, List.setIfInBounds_toArray, List.set_cons_zero, List.set_cons_succ])
  repeat (first | (refine seq_take (v := ?_) (by rfl) ?_ ?_; rotate_left; (· intro w hSw; (try dsimp only at hSw); obtain ⟨⟨ea0, ea1, ea2, _, _, _⟩, ⟨ev0, ev1, ev2, _, _, _⟩, ⟨ec0, ec1, ec2, _, _, _⟩, ⟨ez0, ez1, ez2, _, _, _⟩⟩ := hSw; go_simp; all_goals with_reducible rfl); (try simp only [Act.put, List.setIfInBounds_toArray, List.set_cons_zero, List.set_cons_succ])) | (refine seq_leave (by rfl) ?_; (try simp only [Act.put, List.setIfInBounds_toArray, List.set_cons_zero, List.set_cons_succ])))
  refine seq_pass (by rfl) ⟨hba, hbv, hbc, hbz⟩ ?_
  (try simp only [Act.put, List.setIfInBounds_toArray, List.set_cons_zero, List.set_cons_succ])
  refine seq_pass (by rfl) ⟨hba, hbv, hbc, hbz⟩ ?_
  (try simp only [Act.put, List.setIfInBounds_toArray, List.set_cons_zero, List.set_cons_succ])
  repeat (first | (refine seq_take (v := ?_) (by rfl) ?_ ?_; rotate_left; (· intro w hSw; (try dsimp only at hSw); obtain ⟨⟨ea0, ea1, ea2, _, _, _⟩, ⟨ev0, ev1, ev2, _, _, _⟩, ⟨ec0, ec1, ec2, _, _, _⟩, ⟨ez0, ez1, ez2, _, _, _⟩⟩ := hSw; go_simp; all_goals with_reducible rfl); (try simp only [Act.put, List.setIfInBounds_toArray, List.set_cons_zero, List.set_cons_succ])) | (refine seq_leave (by rfl) ?_; (try simp only [Act.put, List.setIfInBounds_toArray, List.set_cons_zero, List.set_cons_succ])))
  refine seq_step (by rfl) (fun K hK => ?_)
  go_simp
  go_at_call 29
  (with_reducible refine (floor_any _ a 101 _ ha hqa (by decide) (by decide)).mono ?_)
  rintro e w21 hq9
  obtain ⟨lB, lxO, lxL, lxC, lyO, lyL, lyC, rfl, hS, hlx, hly, hl, hb⟩ := hq9.out
  have HlS := Lib.hid hS; clear hS
  replace hba := hba.kept hb
  replace hbv := hbv.kept hb
  replace hbc := hbc.kept hb
  replace hbq := hbq.kept hb
  replace hbz := hbz.kept hb
  replace hax := hax.below hb
  replace hay := hay.below hb
  replace ha := ha.below hb
  replace hvx := hvx.below hb
  replace hvy := hvy.below hb
  replace hv := hv.below hb
  replace hcx := hcx.below hb
  replace hcy := hcy.below hb
  replace hc := hc.below hb
  replace hqx := hqx.below hb
  replace hqy := hqy.below hb
  replace hq := hq.below hb
  replace hdx := hdx.below hb
  replace hdy := hdy.below hb
  replace hd := hd.below hb
  replace hex := hex.below hb
  replace hey := hey.below hb
  replace he := he.below hb
  replace hfx := hfx.below hb
  replace hfy := hfy.below hb
  replace hf := hf.below hb
  replace hgx := hgx.below hb
  replace hgy := hgy.below hb
  replace hg := hg.below hb
  replace hhx := hhx.below hb
  replace hhy := hhy.below hb
  replace hh := hh.below hb
  replace hix := hix.below hb
  replace hiy := hiy.below hb
  replace hi := hi.below hb
  replace hjx := hjx.below hb
  replace hjy := hjy.below hb
  replace hj := hj.below hb
  replace hbf := hbf.trans (hb.mono hbf.size)
  clear hb
  first | refine hK.out _ _ ⟨hba, hbv, hbc, hbz⟩ (fun _ => ?_) | (go_wp2_with fail; refine hK.out _ _ ⟨hba, hbv, hbc, hbz⟩ (fun _ => ?_))
  clear hK K
  (try simp only [Act.put, List.setIfInBounds_toArray, List.set_cons_zero, List.set_cons_succ])
  refine seq_step (by rfl) (fun K hK => ?_)
  go_simp
  go_at_call 28
  (with_reducible refine (cmp_c _ _ _ a c1 102 101 _ hl ha Qfl hqa (by decide) C1).mono ?_)
  rintro e w22 ⟨rfl, hb⟩
  replace hba := hba.kept hb
  replace hbv := hbv.kept hb
  replace hbc := hbc.kept hb
  replace hbq := hbq.kept hb
  replace hbz := hbz.kept hb
  replace hax := hax.below hb
  replace hay := hay.below hb
  replace ha := ha.below hb
  replace hvx := hvx.below hb
  replace hvy := hvy.below hb
  replace hv := hv.below hb
  replace hcx := hcx.below hb
  replace hcy := hcy.below hb
  replace hc := hc.below hb
  replace hqx := hqx.below hb
  replace hqy := hqy.below hb
  replace hq := hq.below hb
  replace hdx := hdx.below hb
  replace hdy := hdy.below hb
  replace hd := hd.below hb
  replace hex := hex.below hb
  replace hey := hey.below hb
  replace he := he.below hb
  replace hfx := hfx.below hb
  replace hfy := hfy.below hb
  replace hf := hf.below hb
  replace hgx := hgx.below hb
  replace hgy := hgy.below hb
  replace hg := hg.below hb
  replace hhx := hhx.below hb
  replace hhy := hhy.below hb
  replace hh := hh.below hb
  replace hix := hix.below hb
  replace hiy := hiy.below hb
  replace hi := hi.below hb
  replace hjx := hjx.below hb
  replace hjy := hjy.below hb
  replace hj := hj.below hb
  replace hlx := hlx.below hb
  replace hly := hly.below hb
  replace hl := hl.below hb
  replace hbf := hbf.trans (hb.mono hbf.size)
  clear hb
  first | refine hK.out _ _ ⟨hba, hbv, hbc, hbz⟩ (fun _ => ?_) | (go_wp2_with fail; refine hK.out _ _ ⟨hba, hbv, hbc, hbz⟩ (fun _ => ?_))
  clear hK K
  (try simp only [Act.put, List.setIfInBounds_toArray, List.set_cons_zero, List.set_cons_succ])
  repeat (first | (refine seq_take (v := ?_) (by rfl) ?_ ?_; rotate_left; (· intro w hSw; (try dsimp only at hSw); obtain ⟨⟨ea0, ea1, ea2, _, _, _⟩, ⟨ev0, ev1, ev2, _, _, _⟩, ⟨ec0, ec1, ec2, _, _, _⟩, ⟨ez0, ez1, ez2, _, _, _⟩⟩ := hSw; go_simp; all_goals with_reducible rfl); (try simp only [Act.put, List.setIfInBounds_toArray, List.set_cons_zero, List.set_cons_succ])) | (refine seq_leave (by rfl) ?_; (try simp only [Act.put, List.setIfInBounds_toArray, List.set_cons_zero, List.set_cons_succ])))
  refine seq_step (by rfl) (fun K hK => ?_)
  go_simp
  go_at_call 29
  (with_reducible refine (floor_any _ a 101 _ ha hqa (by decide) (by decide)).mono ?_)
  rintro e w23 hq9
  obtain ⟨mB, mxO, mxL, mxC, myO, myL, myC, rfl, hS, hmx, hmy, hm, hb⟩ := hq9.out
  have HmS := Lib.hid hS; clear hS
  replace hba := hba.kept hb
  replace hbv := hbv.kept hb
  replace hbc := hbc.kept hb
  replace hbq := hbq.kept hb
  replace hbz := hbz.kept hb
  replace hax := hax.below hb
  replace hay := hay.below hb
  replace ha := ha.below hb
  replace hvx := hvx.below hb
  replace hvy := hvy.below hb
  replace hv := hv.below hb
  replace hcx := hcx.below hb
  replace hcy := hcy.below hb
  replace hc := hc.below hb
  replace hqx := hqx.below hb
  replace hqy := hqy.below hb
  replace hq := hq.below hb
  replace hdx := hdx.below hb
  replace hdy := hdy.below hb
  replace hd := hd.below hb
  replace hex := hex.below hb
  replace hey := hey.below hb
  replace he := he.below hb
  replace hfx := hfx.below hb
  replace hfy := hfy.below hb
  replace hf := hf.below hb
  replace hgx := hgx.below hb
  replace hgy := hgy.below hb
  replace hg := hg.below hb
  replace hhx := hhx.below hb
  replace hhy := hhy.below hb
  replace hh := hh.below hb
  replace hix := hix.below hb
  replace hiy := hiy.below hb
  replace hi := hi.below hb
  replace hjx := hjx.below hb
  replace hjy := hjy.below hb
  replace hj := hj.below hb
  replace hlx := hlx.below hb
  replace hly := hly.below hb
  replace hl := hl.below hb
  replace hbf := hbf.trans (hb.mono hbf.size)
  clear hb
  first | refine hK.out _ _ ⟨hba, hbv, hbc, hbz⟩ (fun _ => ?_) | (go_wp2_with fail; refine hK.out _ _ ⟨hba, hbv, hbc, hbz⟩ (fun _ => ?_))
  clear hK K
  (try simp only [Act.put, List.setIfInBounds_toArray, List.set_cons_zero, List.set_cons_succ])
  refine seq_step (by rfl) (fun K hK => ?_)
  go_simp
  go_at_call 16
  (with_reducible refine (of_q 1 _ (by decide) (by decide)).mono ?_)
  rintro e w24 hq9
  obtain ⟨nB, nxO, nxL, nxC, nyO, nyL, nyC, rfl, hS, hnx, hny, hn, hb⟩ := hq9.out
  have HnS := Lib.hid hS; clear hS
  replace hba := hba.kept hb
  replace hbv := hbv.kept hb
  replace hbc := hbc.kept hb
  replace hbq := hbq.kept hb
  replace hbz := hbz.kept hb
  replace hax := hax.below hb
  replace hay := hay.below hb
  replace ha := ha.below hb
  replace hvx := hvx.below hb
  replace hvy := hvy.below hb
  replace hv := hv.below hb
  replace hcx := hcx.below hb
  replace hcy := hcy.below hb
  replace hc := hc.below hb
  replace hqx := hqx.below hb
  replace hqy := hqy.below hb
  replace hq := hq.below hb
  replace hdx := hdx.below hb
  replace hdy := hdy.below hb
  replace hd := hd.below hb
  replace hex := hex.below hb
  replace hey := hey.below hb
  replace he := he.below hb
  replace hfx := hfx.below hb
  replace hfy := hfy.below hb
  replace hf := hf.below hb
  replace hgx := hgx.below hb
  replace hgy := hgy.below hb
  replace hg := hg.below hb
  replace hhx := hhx.below hb
  replace hhy := hhy.below hb
  replace hh := hh.below hb
  replace hix := hix.below hb
  replace hiy := hiy.below hb
  replace hi := hi.below hb
  replace hjx := hjx.below hb
  replace hjy := hjy.below hb
  replace hj := hj.below hb
  replace hlx := hlx.below hb
  replace hly := hly.below hb
  replace hl := hl.below hb
  replace hmx := hmx.below hb
  replace hmy := hmy.below hb
  replace hm := hm.below hb
  replace hbf := hbf.trans (hb.mono hbf.size)
  clear hb
  first | refine hK.out _ _ ⟨hba, hbv, hbc, hbz⟩ (fun _ => ?_) | (go_wp2_with fail; refine hK.out _ _ ⟨hba, hbv, hbc, hbz⟩ (fun _ => ?_))
  clear hK K
  (try simp only [Act.put, List.setIfInBounds_toArray, List.set_cons_zero, List.set_cons_succ])
  refine seq_step (by rfl) (fun K hK => ?_)
  go_simp
  go_at_call 33
  (with_reducible refine (qadd_any _ _ _ _ 102 2 _ hm hn Qfl hq1 (by decide)).mono ?_)
  rintro e w25 hq9
  obtain ⟨oB, oxO, oxL, oxC, oyO, oyL, oyC, rfl, hS, hox, hoy, ho, hb⟩ := hq9.out
  have HoS := Lib.hid hS; clear hS
  replace hba := hba.kept hb
  replace hbv := hbv.kept hb
  replace hbc := hbc.kept hb
  replace hbq := hbq.kept hb
  replace hbz := hbz.kept hb
  replace hax := hax.below hb
  replace hay := hay.below hb
  replace ha := ha.below hb
  replace hvx := hvx.below hb
  replace hvy := hvy.below hb
  replace hv := hv.below hb
  replace hcx := hcx.below hb
  replace hcy := hcy.below hb
  replace hc := hc.below hb
  replace hqx := hqx.below hb
  replace hqy := hqy.below hb
  replace hq := hq.below hb
  replace hdx := hdx.below hb
  replace hdy := hdy.below hb
  replace hd := hd.below hb
  replace hex := hex.below hb
  replace hey := hey.below hb
  replace he := he.below hb
  replace hfx := hfx.below hb
  replace hfy := hfy.below hb
  replace hf := hf.below hb
  replace hgx := hgx.below hb
  replace hgy := hgy.below hb
  replace hg := hg.below hb
  replace hhx := hhx.below hb
  replace hhy := hhy.below hb
  replace hh := hh.below hb
  replace hix := hix.below hb
  replace hiy := hiy.below hb
  replace hi := hi.below hb
  replace hjx := hjx.below hb
  replace hjy := hjy.below hb
  replace hj := hj.below hb
  replace hlx := hlx.below hb
  replace hly := hly.below hb
  replace hl := hl.below hb
  replace hmx := hmx.below hb
  replace hmy := hmy.below hb
  replace hm := hm.below hb
  replace hnx := hnx.below hb
  replace hny := hny.below hb
  replace hn := hn.below hb
  replace hbf := hbf.trans (hb.mono hbf.size)
  clear hb
  first | refine hK.out _ _ ⟨hba, hbv, hbc, hbz⟩ (fun _ => ?_) | (go_wp2_with fail; refine hK.out _ _ ⟨hba, hbv, hbc, hbz⟩ (fun _ => ?_))
  clear hK K
  (try simp only [Act.put, List.setIfInBounds_toArray, List.set_cons_zero, List.set_cons_succ])
  refine seq_step (by rfl) (fun K hK => ?_)
  go_simp
  go_at_call 28
  (with_reducible refine (cmp_c _ _ a _ (-1) 101 105 _ ha ho hqa Qfl1 (by decide) C2).mono ?_)
  rintro e w26 ⟨rfl, hb⟩
  replace hba := hba.kept hb
  replace hbv := hbv.kept hb
  replace hbc := hbc.kept hb
  replace hbq := hbq.kept hb
  replace hbz := hbz.kept hb
  replace hax := hax.below hb
  replace hay := hay.below hb
  replace ha := ha.below hb
  replace hvx := hvx.below hb
  replace hvy := hvy.below hb
  replace hv := hv.below hb
  replace hcx := hcx.below hb
  replace hcy := hcy.below hb
  replace hc := hc.below hb
  replace hqx := hqx.below hb
  replace hqy := hqy.below hb
  replace hq := hq.below hb
  replace hdx := hdx.below hb
  replace hdy := hdy.below hb
  replace hd := hd.below hb
  replace hex := hex.below hb
  replace hey := hey.below hb
  replace he := he.below hb
  replace hfx := hfx.below hb
  replace hfy := hfy.below hb
  replace hf := hf.below hb
  replace hgx := hgx.below hb
  replace hgy := hgy.below hb
  replace hg := hg.below hb
  replace hhx := hhx.below hb
  replace hhy := hhy.below hb
  replace hh := hh.below hb
  replace hix := hix.below hb
  replace hiy := hiy.below hb
  replace hi := hi.below hb
  replace hjx := hjx.below hb
  replace hjy := hjy.below hb
  replace hj := hj.below hb
  replace hlx := hlx.below hb
  replace hly := hly.below hb
  replace hl := hl.below hb
  replace hmx := hmx.below hb
  replace hmy := hmy.below hb
  replace hm := hm.below hb
  replace hnx := hnx.below hb
  replace hny := hny.below hb
  replace hn := hn.below hb
  replace hox := hox.below hb
  replace hoy := hoy.below hb
  replace ho := ho.below hb
  replace hbf := hbf.trans (hb.mono hbf.size)
  clear hb
  first | refine hK.out _ _ ⟨hba, hbv, hbc, hbz⟩ (fun _ => ?_) | (go_wp2_with fail; refine hK.out _ _ ⟨hba, hbv, hbc, hbz⟩ (fun _ => ?_))
  clear hK K
  (try simp only [Act.put, List.setIfInBounds_toArray, List.set_cons_zero, List.set_cons_succ])
  repeat (first | (refine seq_take (v := ?_) (by rfl) ?_ ?_; rotate_left; (· intro w hSw; (try dsimp only at hSw); obtain ⟨⟨ea0, ea1, ea2, _, _, _⟩, ⟨ev0, ev1, ev2, _, _, _⟩, ⟨ec0, ec1, ec2, _, _, _⟩, ⟨ez0, ez1, ez2, _, _, _⟩⟩ := hSw; go_simp; all_goals with_reducible rfl); (try simp only [Act.put, List.setIfInBounds_toArray, List.set_cons_zero, List.set_cons_succ])) | (refine seq_leave (by rfl) ?_; (try simp only [Act.put, List.setIfInBounds_toArray, List.set_cons_zero, List.set_cons_succ])))
  refine seq_step (by rfl) (fun K hK => ?_)
  go_simp
  go_at_call 30
  (with_reducible refine (ceil_any _ a 101 _ ha hqa (by decide) (by decide)).mono ?_)
  rintro e w27 hq9
  obtain ⟨pB, pxO, pxL, pxC, pyO, pyL, pyC, rfl, hS, hpx, hpy, hp, hb⟩ := hq9.out
  have HpS := Lib.hid hS; clear hS
  replace hba := hba.kept hb
  replace hbv := hbv.kept hb
  replace hbc := hbc.kept hb
  replace hbq := hbq.kept hb
  replace hbz := hbz.kept hb
  replace hax := hax.below hb
  replace hay := hay.below hb
  replace ha := ha.below hb
  replace hvx := hvx.below hb
  replace hvy := hvy.below hb
  replace hv := hv.below hb
  replace hcx := hcx.below hb
  replace hcy := hcy.below hb
  replace hc := hc.below hb
  replace hqx := hqx.below hb
  replace hqy := hqy.below hb
  replace hq := hq.below hb
  replace hdx := hdx.below hb
  replace hdy := hdy.below hb
  replace hd := hd.below hb
  replace hex := hex.below hb
  replace hey := hey.below hb
  replace he := he.below hb
  replace hfx := hfx.below hb
  replace hfy := hfy.below hb
  replace hf := hf.below hb
  replace hgx := hgx.below hb
  replace hgy := hgy.below hb
  replace hg := hg.below hb
  replace hhx := hhx.below hb
  replace hhy := hhy.below hb
  replace hh := hh.below hb
  replace hix := hix.below hb
  replace hiy := hiy.below hb
  replace hi := hi.below hb
  replace hjx := hjx.below hb
  replace hjy := hjy.below hb
  replace hj := hj.below hb
  replace hlx := hlx.below hb
  replace hly := hly.below hb
  replace hl := hl.below hb
  replace hmx := hmx.below hb
  replace hmy := hmy.below hb
  replace hm := hm.below hb
  replace hnx := hnx.below hb
  replace hny := hny.below hb
  replace hn := hn.below hb
  replace hox := hox.below hb
  replace hoy := hoy.below hb
  replace ho := ho.below hb
  replace hbf := hbf.trans (hb.mono hbf.size)
  clear hb
  first | refine hK.out _ _ ⟨hba, hbv, hbc, hbz⟩ (fun _ => ?_) | (go_wp2_with fail; refine hK.out _ _ ⟨hba, hbv, hbc, hbz⟩ (fun _ => ?_))
  clear hK K
  (try simp only [Act.put, List.setIfInBounds_toArray, List.set_cons_zero, List.set_cons_succ])
  refine seq_step (by rfl) (fun K hK => ?_)
  go_simp
  go_at_call 28
  (with_reducible refine (cmp_c _ _ _ a c3 102 101 _ hp ha Qcl hqa (by decide) C3).mono ?_)
  rintro e w28 ⟨rfl, hb⟩
  replace hba := hba.kept hb
  replace hbv := hbv.kept hb
  replace hbc := hbc.kept hb
  replace hbq := hbq.kept hb
  replace hbz := hbz.kept hb
  replace hax := hax.below hb
  replace hay := hay.below hb
  replace ha := ha.below hb
  replace hvx := hvx.below hb
  replace hvy := hvy.below hb
  replace hv := hv.below hb
  replace hcx := hcx.below hb
  replace hcy := hcy.below hb
  replace hc := hc.below hb
  replace hqx := hqx.below hb
  replace hqy := hqy.below hb
  replace hq := hq.below hb
  replace hdx := hdx.below hb
  replace hdy := hdy.below hb
  replace hd := hd.below hb
  replace hex := hex.below hb
  replace hey := hey.below hb
  replace he := he.below hb
  replace hfx := hfx.below hb
  replace hfy := hfy.below hb
  replace hf := hf.below hb
  replace hgx := hgx.below hb
  replace hgy := hgy.below hb
  replace hg := hg.below hb
  replace hhx := hhx.below hb
  replace hhy := hhy.below hb
  replace hh := hh.below hb
  replace hix := hix.below hb
  replace hiy := hiy.below hb
  replace hi := hi.below hb
  replace hjx := hjx.below hb
  replace hjy := hjy.below hb
  replace hj := hj.below hb
  replace hlx := hlx.below hb
  replace hly := hly.below hb
  replace hl := hl.below hb
  replace hmx := hmx.below hb
  replace hmy := hmy.below hb
  replace hm := hm.below hb
  replace hnx := hnx.below hb
  replace hny := hny.below hb
  replace hn := hn.below hb
  replace hox := hox.below hb
  replace hoy := hoy.below hb
  replace ho := ho.below hb
  replace hpx := hpx.below hb
  replace hpy := hpy.below hb
  replace hp := hp.below hb
  replace hbf := hbf.trans (hb.mono hbf.size)
  clear hb
  first | refine hK.out _ _ ⟨hba, hbv, hbc, hbz⟩ (fun _ => ?_) | (go_wp2_with fail; refine hK.out _ _ ⟨hba, hbv, hbc, hbz⟩ (fun _ => ?_))
  clear hK K
  (try simp only [Act.put, List.setIfInBounds_toArray, List.set_cons_zero, List.set_cons_succ])
  repeat (first | (refine seq_take (v := ?_) (by rfl) ?_ ?_; rotate_left; (· intro w hSw; (try dsimp only at hSw); obtain ⟨⟨ea0, ea1, ea2, _, _, _⟩, ⟨ev0, ev1, ev2, _, _, _⟩, ⟨ec0, ec1, ec2, _, _, _⟩, ⟨ez0, ez1, ez2, _, _, _⟩⟩ := hSw; go_simp; all_goals with_reducible rfl); (try simp only [Act.put, List.setIfInBounds_toArray, List.set_cons_zero, List.set_cons_succ])) | (refine seq_leave (by rfl) ?_; (try simp only [Act.put, List.setIfInBounds_toArray, List.set_cons_zero, List.set_cons_succ])))
  refine seq_step (by rfl) (fun K hK => ?_)
  go_simp
  go_at_call 25
  (with_reducible refine (qsub_any _ _ a a 101 101 _ ha ha hqa hqa (by decide)).mono ?_)
  rintro e w29 hq9
  obtain ⟨rB, rxO, rxL, rxC, ryO, ryL, ryC, rfl, hS, hrx, hry, hr, hb⟩ := hq9.out
  have HrS := Lib.hid hS; clear hS
  replace hba := hba.kept hb
  replace hbv := hbv.kept hb
  replace hbc := hbc.kept hb
  replace hbq := hbq.kept hb
  replace hbz := hbz.kept hb
  replace hax := hax.below hb
  replace hay := hay.below hb
  replace ha := ha.below hb
  replace hvx := hvx.below hb
  replace hvy := hvy.below hb
  replace hv := hv.below hb
  replace hcx := hcx.below hb
  replace hcy := hcy.below hb
  replace hc := hc.below hb
  replace hqx := hqx.below hb
  replace hqy := hqy.below hb
  replace hq := hq.below hb
  replace hdx := hdx.below hb
  replace hdy := hdy.below hb
  replace hd := hd.below hb
  replace hex := hex.below hb
  replace hey := hey.below hb
  replace he := he.below hb
  replace hfx := hfx.below hb
  replace hfy := hfy.below hb
  replace hf := hf.below hb
  replace hgx := hgx.below hb
  replace hgy := hgy.below hb
  replace hg := hg.below hb
  replace hhx := hhx.below hb
  replace hhy := hhy.below hb
  replace hh := hh.below hb
  replace hix := hix.below hb
  replace hiy := hiy.below hb
  replace hi := hi.below hb
  replace hjx := hjx.below hb
  replace hjy := hjy.below hb
  replace hj := hj.below hb
  replace hlx := hlx.below hb
  replace hly := hly.below hb
  replace hl := hl.below hb
  replace hmx := hmx.below hb
  replace hmy := hmy.below hb
  replace hm := hm.below hb
  replace hnx := hnx.below hb
  replace hny := hny.below hb
  replace hn := hn.below hb
  replace hox := hox.below hb
  replace hoy := hoy.below hb
  replace ho := ho.below hb
  replace hpx := hpx.below hb
  replace hpy := hpy.below hb
  replace hp := hp.below hb
  replace hbf := hbf.trans (hb.mono hbf.size)
  clear hb
  first | refine hK.out _ _ ⟨hba, hbv, hbc, hbz⟩ (fun _ => ?_) | (go_wp2_with fail; refine hK.out _ _ ⟨hba, hbv, hbc, hbz⟩ (fun _ => ?_))
  clear hK K
  (try simp only [Act.put, List.setIfInBounds_toArray, List.set_cons_zero, List.set_cons_succ])
  refine seq_step (by rfl) (fun K hK => ?_)
  go_simp
  go_at_call 20
  (with_reducible refine (same_eq _ _ _ 0 203 1 _ hr (QIs.zero _) Qself hq0 (by decide) L4).mono ?_)
  rintro e w30 ⟨rfl, hb⟩
  replace hba := hba.kept hb
  replace hbv := hbv.kept hb
  replace hbc := hbc.kept hb
  replace hbq := hbq.kept hb
  replace hbz := hbz.kept hb
  replace hax := hax.below hb
  replace hay := hay.below hb
  replace ha := ha.below hb
  replace hvx := hvx.below hb
  replace hvy := hvy.below hb
  replace hv := hv.below hb
  replace hcx := hcx.below hb
  replace hcy := hcy.below hb
  replace hc := hc.below hb
  replace hqx := hqx.below hb
  replace hqy := hqy.below hb
  replace hq := hq.below hb
  replace hdx := hdx.below hb
  replace hdy := hdy.below hb
  replace hd := hd.below hb
  replace hex := hex.below hb
  replace hey := hey.below hb
  replace he := he.below hb
  replace hfx := hfx.below hb
  replace hfy := hfy.below hb
  replace hf := hf.below hb
  replace hgx := hgx.below hb
  replace hgy := hgy.below hb
  replace hg := hg.below hb
  replace hhx := hhx.below hb
  replace hhy := hhy.below hb
  replace hh := hh.below hb
  replace hix := hix.below hb
  replace hiy := hiy.below hb
  replace hi := hi.below hb
  replace hjx := hjx.below hb
  replace hjy := hjy.below hb
  replace hj := hj.below hb
  replace hlx := hlx.below hb
  replace hly := hly.below hb
  replace hl := hl.below hb
  replace hmx := hmx.below hb
  replace hmy := hmy.below hb
  replace hm := hm.below hb
  replace hnx := hnx.below hb
  replace hny := hny.below hb
  replace hn := hn.below hb
  replace hox := hox.below hb
  replace hoy := hoy.below hb
  replace ho := ho.below hb
  replace hpx := hpx.below hb
  replace hpy := hpy.below hb
  replace hp := hp.below hb
  replace hrx := hrx.below hb
  replace hry := hry.below hb
  replace hr := hr.below hb
  replace hbf := hbf.trans (hb.mono hbf.size)
  clear hb
  first | refine hK.out _ _ ⟨hba, hbv, hbc, hbz⟩ (fun _ => ?_) | (go_wp2_with fail; refine hK.out _ _ ⟨hba, hbv, hbc, hbz⟩ (fun _ => ?_))
  clear hK K
  (try simp only [Act.put, List.setIfInBounds_toArray, List.set_cons_zero, List.set_cons_succ])
  repeat (first | (refine seq_take (v := ?_) (by rfl) ?_ ?_; rotate_left; (· intro w hSw; (try dsimp only at hSw); obtain ⟨⟨ea0, ea1, ea2, _, _, _⟩, ⟨ev0, ev1, ev2, _, _, _⟩, ⟨ec0, ec1, ec2, _, _, _⟩, ⟨ez0, ez1, ez2, _, _, _⟩⟩ := hSw; go_simp; all_goals with_reducible rfl); (try simp only [Act.put, List.setIfInBounds_toArray, List.set_cons_zero, List.set_cons_succ])) | (refine seq_leave (by rfl) ?_; (try simp only [Act.put, List.setIfInBounds_toArray, List.set_cons_zero, List.set_cons_succ])))
  refine seq_step (by rfl) (fun K hK => ?_)
  go_simp
  go_at_call 28
  (with_reducible refine (cmp_c _ _ a b c4 101 101 _ ha hv hqa hqb (by decide) C4).mono ?_)
  rintro e w31 ⟨rfl, hb⟩
  replace hba := hba.kept hb
  replace hbv := hbv.kept hb
  replace hbc := hbc.kept hb
  replace hbq := hbq.kept hb
  replace hbz := hbz.kept hb
  replace hax := hax.below hb
  replace hay := hay.below hb
  replace ha := ha.below hb
  replace hvx := hvx.below hb
  replace hvy := hvy.below hb
  replace hv := hv.below hb
  replace hcx := hcx.below hb
  replace hcy := hcy.below hb
  replace hc := hc.below hb
  replace hqx := hqx.below hb
  replace hqy := hqy.below hb
  replace hq := hq.below hb
  replace hdx := hdx.below hb
  replace hdy := hdy.below hb
  replace hd := hd.below hb
  replace hex := hex.below hb
  replace hey := hey.below hb
  replace he := he.below hb
  replace hfx := hfx.below hb
  replace hfy := hfy.below hb
  replace hf := hf.below hb
  replace hgx := hgx.below hb
  replace hgy := hgy.below hb
  replace hg := hg.below hb
  replace hhx := hhx.below hb
  replace hhy := hhy.below hb
  replace hh := hh.below hb
  replace hix := hix.below hb
  replace hiy := hiy.below hb
  replace hi := hi.below hb
  replace hjx := hjx.below hb
  replace hjy := hjy.below hb
  replace hj := hj.below hb
  replace hlx := hlx.below hb
  replace hly := hly.below hb
  replace hl := hl.below hb
  replace hmx := hmx.below hb
  replace hmy := hmy.below hb
  replace hm := hm.below hb
  replace hnx := hnx.below hb
  replace hny := hny.below hb
  replace hn := hn.below hb
  replace hox := hox.below hb
  replace hoy := hoy.below hb
  replace ho := ho.below hb
  replace hpx := hpx.below hb
  replace hpy := hpy.below hb
  replace hp := hp.below hb
  replace hrx := hrx.below hb
  replace hry := hry.below hb
  replace hr := hr.below hb
  replace hbf := hbf.trans (hb.mono hbf.size)
  clear hb
  first | refine hK.out _ _ ⟨hba, hbv, hbc, hbz⟩ (fun _ => ?_) | (go_wp2_with fail; refine hK.out _ _ ⟨hba, hbv, hbc, hbz⟩ (fun _ => ?_))
  clear hK K
  (try simp only [Act.put, List.setIfInBounds_toArray, List.set_cons_zero, List.set_cons_succ])
  repeat (first | (refine seq_take (v := ?_) (by rfl) ?_ ?_; rotate_left; (· intro w hSw; (try dsimp only at hSw); obtain ⟨⟨ea0, ea1, ea2, _, _, _⟩, ⟨ev0, ev1, ev2, _, _, _⟩, ⟨ec0, ec1, ec2, _, _, _⟩, ⟨ez0, ez1, ez2, _, _, _⟩⟩ := hSw; go_simp; all_goals with_reducible rfl); (try simp only [Act.put, List.setIfInBounds_toArray, List.set_cons_zero, List.set_cons_succ])) | (refine seq_leave (by rfl) ?_; (try simp only [Act.put, List.setIfInBounds_toArray, List.set_cons_zero, List.set_cons_succ])))
  refine seq_step (by rfl) (fun K hK => ?_)
  go_simp
  go_at_call 25
  (with_reducible refine (qsub_any _ _ a b 101 101 _ ha hv hqa hqb (by decide)).mono ?_)
  rintro e w32 hq9
  obtain ⟨sB, sxO, sxL, sxC, syO, syL, syC, rfl, hS, hsx, hsy, hs, hb⟩ := hq9.out
  have HsS := Lib.hid hS; clear hS
  replace hba := hba.kept hb
  replace hbv := hbv.kept hb
  replace hbc := hbc.kept hb
  replace hbq := hbq.kept hb
  replace hbz := hbz.kept hb
  replace hax := hax.below hb
  replace hay := hay.below hb
  replace ha := ha.below hb
  replace hvx := hvx.below hb
  replace hvy := hvy.below hb
  replace hv := hv.below hb
  replace hcx := hcx.below hb
  replace hcy := hcy.below hb
  replace hc := hc.below hb
  replace hqx := hqx.below hb
  replace hqy := hqy.below hb
  replace hq := hq.below hb
  replace hdx := hdx.below hb
  replace hdy := hdy.below hb
  replace hd := hd.below hb
  replace hex := hex.below hb
  replace hey := hey.below hb
  replace he := he.below hb
  replace hfx := hfx.below hb
  replace hfy := hfy.below hb
  replace hf := hf.below hb
  replace hgx := hgx.below hb
  replace hgy := hgy.below hb
  replace hg := hg.below hb
  replace hhx := hhx.below hb
  replace hhy := hhy.below hb
  replace hh := hh.below hb
  replace hix := hix.below hb
  replace hiy := hiy.below hb
  replace hi := hi.below hb
  replace hjx := hjx.below hb
  replace hjy := hjy.below hb
  replace hj := hj.below hb
  replace hlx := hlx.below hb
  replace hly := hly.below hb
  replace hl := hl.below hb
  replace hmx := hmx.below hb
  replace hmy := hmy.below hb
  replace hm := hm.below hb
  replace hnx := hnx.below hb
  replace hny := hny.below hb
  replace hn := hn.below hb
  replace hox := hox.below hb
  replace hoy := hoy.below hb
  replace ho := ho.below hb
  replace hpx := hpx.below hb
  replace hpy := hpy.below hb
  replace hp := hp.below hb
  replace hrx := hrx.below hb
  replace hry := hry.below hb
  replace hr := hr.below hb
  replace hbf := hbf.trans (hb.mono hbf.size)
  clear hb
  first | refine hK.out _ _ ⟨hba, hbv, hbc, hbz⟩ (fun _ => ?_) | (go_wp2_with fail; refine hK.out _ _ ⟨hba, hbv, hbc, hbz⟩ (fun _ => ?_))
  clear hK K
  (try simp only [Act.put, List.setIfInBounds_toArray, List.set_cons_zero, List.set_cons_succ])
  refine seq_step (by rfl) (fun K hK => ?_)
  go_simp
  go_at_call 28
  (with_reducible refine (cmp_c _ _ _ 0 c4 203 1 _ hs (QIs.zero _) Qsub hq0 (by decide) C5).mono ?_)
  rintro e w33 ⟨rfl, hb⟩
  replace hba := hba.kept hb
  replace hbv := hbv.kept hb
  replace hbc := hbc.kept hb
  replace hbq := hbq.kept hb
  replace hbz := hbz.kept hb
  replace hax := hax.below hb
  replace hay := hay.below hb
  replace ha := ha.below hb
  replace hvx := hvx.below hb
  replace hvy := hvy.below hb
  replace hv := hv.below hb
  replace hcx := hcx.below hb
  replace hcy := hcy.below hb
  replace hc := hc.below hb
  replace hqx := hqx.below hb
  replace hqy := hqy.below hb
  replace hq := hq.below hb
  replace hdx := hdx.below hb
  replace hdy := hdy.below hb
  replace hd := hd.below hb
  replace hex := hex.below hb
  replace hey := hey.below hb
  replace he := he.below hb
  replace hfx := hfx.below hb
  replace hfy := hfy.below hb
  replace hf := hf.below hb
  replace hgx := hgx.below hb
  replace hgy := hgy.below hb
  replace hg := hg.below hb
  replace hhx := hhx.below hb
  replace hhy := hhy.below hb
  replace hh := hh.below hb
  replace hix := hix.below hb
  replace hiy := hiy.below hb
  replace hi := hi.below hb
  replace hjx := hjx.below hb
  replace hjy := hjy.below hb
  replace hj := hj.below hb
  replace hlx := hlx.below hb
  replace hly := hly.below hb
  replace hl := hl.below hb
  replace hmx := hmx.below hb
  replace hmy := hmy.below hb
  replace hm := hm.below hb
  replace hnx := hnx.below hb
  replace hny := hny.below hb
  replace hn := hn.below hb
  replace hox := hox.below hb
  replace hoy := hoy.below hb
  replace ho := ho.below hb
  replace hpx := hpx.below hb
  replace hpy := hpy.below hb
  replace hp := hp.below hb
  replace hrx := hrx.below hb
  replace hry := hry.below hb
  replace hr := hr.below hb
  replace hsx := hsx.below hb
  replace hsy := hsy.below hb
  replace hs := hs.below hb
  replace hbf := hbf.trans (hb.mono hbf.size)
  clear hb
  first | refine hK.out _ _ ⟨hba, hbv, hbc, hbz⟩ (fun _ => ?_) | (go_wp2_with fail; refine hK.out _ _ ⟨hba, hbv, hbc, hbz⟩ (fun _ => ?_))
  clear hK K
  (try simp only [Act.put, List.setIfInBounds_toArray, List.set_cons_zero, List.set_cons_succ])
  repeat (first | (refine seq_take (v := ?_) (by rfl) ?_ ?_; rotate_left; (· intro w hSw; (try dsimp only at hSw); obtain ⟨⟨ea0, ea1, ea2, _, _, _⟩, ⟨ev0, ev1, ev2, _, _, _⟩, ⟨ec0, ec1, ec2, _, _, _⟩, ⟨ez0, ez1, ez2, _, _, _⟩⟩ := hSw; go_simp; all_goals with_reducible rfl); (try simp only [Act.put, List.setIfInBounds_toArray, List.set_cons_zero, List.set_cons_succ])) | (refine seq_leave (by rfl) ?_; (try simp only [Act.put, List.setIfInBounds_toArray, List.set_cons_zero, List.set_cons_succ])))
  refine seq_step (by rfl) (fun K hK => ?_)
  go_simp
  go_at_call 28
  (with_reducible refine (cmp_c _ _ a b c4 101 101 _ ha hv hqa hqb (by decide) C4).mono ?_)
  rintro e w34 ⟨rfl, hb⟩
  replace hba := hba.kept hb
  replace hbv := hbv.kept hb
  replace hbc := hbc.kept hb
  replace hbq := hbq.kept hb
  replace hbz := hbz.kept hb
  replace hax := hax.below hb
  replace hay := hay.below hb
  replace ha := ha.below hb
  replace hvx := hvx.below hb
  replace hvy := hvy.below hb
  replace hv := hv.below hb
  replace hcx := hcx.below hb
  replace hcy := hcy.below hb
  replace hc := hc.below hb
  replace hqx := hqx.below hb
  replace hqy := hqy.below hb
  replace hq := hq.below hb
  replace hdx := hdx.below hb
  replace hdy := hdy.below hb
  replace hd := hd.below hb
  replace hex := hex.below hb
  replace hey := hey.below hb
  replace he := he.below hb
  replace hfx := hfx.below hb
  replace hfy := hfy.below hb
  replace hf := hf.below hb
  replace hgx := hgx.below hb
  replace hgy := hgy.below hb
  replace hg := hg.below hb
  replace hhx := hhx.below hb
  replace hhy := hhy.below hb
  replace hh := hh.below hb
  replace hix := hix.below hb
  replace hiy := hiy.below hb
  replace hi := hi.below hb
  replace hjx := hjx.below hb
  replace hjy := hjy.below hb
  replace hj := hj.below hb
  replace hlx := hlx.below hb
  replace hly := hly.below hb
  replace hl := hl.below hb
  replace hmx := hmx.below hb
  replace hmy := hmy.below hb
  replace hm := hm.below hb
  replace hnx := hnx.below hb
  replace hny := hny.below hb
  replace hn := hn.below hb
  replace hox := hox.below hb
  replace hoy := hoy.below hb
  replace ho := ho.below hb
  replace hpx := hpx.below hb
  replace hpy := hpy.below hb
  replace hp := hp.below hb
  replace hrx := hrx.below hb
  replace hry := hry.below hb
  replace hr := hr.below hb
  replace hsx := hsx.below hb
  replace hsy := hsy.below hb
  replace hs := hs.below hb
  replace hbf := hbf.trans (hb.mono hbf.size)
  clear hb
  first | refine hK.out _ _ ⟨hba, hbv, hbc, hbz⟩ (fun _ => ?_) | (go_wp2_with fail; refine hK.out _ _ ⟨hba, hbv, hbc, hbz⟩ (fun _ => ?_))
  clear hK K
  (try simp only [Act.put, List.setIfInBounds_toArray, List.set_cons_zero, List.set_cons_succ])
  refine seq_step (by rfl) (fun K hK => ?_)
  go_simp
  go_at_call 28
  (with_reducible refine (cmp_c _ _ b a (-c4) 101 101 _ hv ha hqb hqa (by decide) C6).mono ?_)
  rintro e w35 ⟨rfl, hb⟩
  replace hba := hba.kept hb
  replace hbv := hbv.kept hb
  replace hbc := hbc.kept hb
  replace hbq := hbq.kept hb
  replace hbz := hbz.kept hb
  replace hax := hax.below hb
  replace hay := hay.below hb
  replace ha := ha.below hb
  replace hvx := hvx.below hb
  replace hvy := hvy.below hb
  replace hv := hv.below hb
  replace hcx := hcx.below hb
  replace hcy := hcy.below hb
  replace hc := hc.below hb
  replace hqx := hqx.below hb
  replace hqy := hqy.below hb
  replace hq := hq.below hb
  replace hdx := hdx.below hb
  replace hdy := hdy.below hb
  replace hd := hd.below hb
  replace hex := hex.below hb
  replace hey := hey.below hb
  replace he := he.below hb
  replace hfx := hfx.below hb
  replace hfy := hfy.below hb
  replace hf := hf.below hb
  replace hgx := hgx.below hb
  replace hgy := hgy.below hb
  replace hg := hg.below hb
  replace hhx := hhx.below hb
  replace hhy := hhy.below hb
  replace hh := hh.below hb
  replace hix := hix.below hb
  replace hiy := hiy.below hb
  replace hi := hi.below hb
  replace hjx := hjx.below hb
  replace hjy := hjy.below hb
  replace hj := hj.below hb
  replace hlx := hlx.below hb
  replace hly := hly.below hb
  replace hl := hl.below hb
  replace hmx := hmx.below hb
  replace hmy := hmy.below hb
  replace hm := hm.below hb
  replace hnx := hnx.below hb
  replace hny := hny.below hb
  replace hn := hn.below hb
  replace hox := hox.below hb
  replace hoy := hoy.below hb
  replace ho := ho.below hb
  replace hpx := hpx.below hb
  replace hpy := hpy.below hb
  replace hp := hp.below hb
  replace hrx := hrx.below hb
  replace hry := hry.below hb
  replace hr := hr.below hb
  replace hsx := hsx.below hb
  replace hsy := hsy.below hb
  replace hs := hs.below hb
  replace hbf := hbf.trans (hb.mono hbf.size)
  clear hb
  first | refine hK.out _ _ ⟨hba, hbv, hbc, hbz⟩ (fun _ => ?_) | (go_wp2_with fail; refine hK.out _ _ ⟨hba, hbv, hbc, hbz⟩ (fun _ => ?_))
  clear hK K
  (try simp only [Act.put, List.setIfInBounds_toArray, List.set_cons_zero, List.set_cons_succ])
  repeat (first | (refine seq_take (v := ?_) (by rfl) ?_ ?_; rotate_left; (· intro w hSw; (try dsimp only at hSw); obtain ⟨⟨ea0, ea1, ea2, _, _, _⟩, ⟨ev0, ev1, ev2, _, _, _⟩, ⟨ec0, ec1, ec2, _, _, _⟩, ⟨ez0, ez1, ez2, _, _, _⟩⟩ := hSw; go_simp; all_goals with_reducible rfl); (try simp only [Act.put, List.setIfInBounds_toArray, List.set_cons_zero, List.set_cons_succ])) | (refine seq_leave (by rfl) ?_; (try simp only [Act.put, List.setIfInBounds_toArray, List.set_cons_zero, List.set_cons_succ])))
  refine seq_end ?_
  rcases CT.out with rfl | rfl | rfl
  all_goals
    go_wp2_with fail
    go_ret
    exact ⟨rfl, hbf⟩

set_option maxRecDepth 100000 in
set_option maxHeartbeats 1000000 in
/-- RatLaws, qval m ≠ 0. -/
theorem ratLaws_div (l m n : List UInt8) (w : World) (hl : l.length ≤ 100) (hm : m.length ≤ 100) (hn : n.length ≤ 100) (hb0 : qval m ≠ 0) :
    Calls Tryd.prog 6 #[.string ⟨l.toArray⟩, .string ⟨m.toArray⟩, .string ⟨n.toArray⟩] w fun e w' => e = .returned (.bool true) ∧ Below w.heap.size w w' := by
  have k1 : ¬ (100 : Int) < ((l.length : Nat) : Int) := by omega
  have k2 : ¬ (100 : Int) < ((m.length : Nat) : Int) := by omega
  have k3 : ¬ (100 : Int) < ((n.length : Nat) : Int) := by omega
  have hqa := QB.val (l := l) (K := 101) (by omega)
  obtain ⟨a, hae⟩ : ∃ a, a = qval l := ⟨_, rfl⟩
  obtain ⟨ka, hac⟩ : ∃ c, c = qcode l := ⟨_, rfl⟩
  have hak := qcode_cases l
  rw [← hac] at hak
  rw [← hae] at hqa
  have HaE := Lib.hid hae
  have HaC := Lib.hid hac
  have HaK := Lib.hid hak
  clear hae hac hak
  have hqb := QB.val (l := m) (K := 101) (by omega)
  obtain ⟨b, hbe⟩ : ∃ a, a = qval m := ⟨_, rfl⟩
  obtain ⟨kb, hbc⟩ : ∃ c, c = qcode m := ⟨_, rfl⟩
  have hbk := qcode_cases m
  rw [← hbc] at hbk
  rw [← hbe] at hqb hb0
  have HbE := Lib.hid hbe
  have HbC := Lib.hid hbc
  have HbK := Lib.hid hbk
  clear hbe hbc hbk
  have hqc := QB.val (l := n) (K := 101) (by omega)
  obtain ⟨c, hce⟩ : ∃ a, a = qval n := ⟨_, rfl⟩
  obtain ⟨kc, hcc⟩ : ∃ c, c = qcode n := ⟨_, rfl⟩
  have hck := qcode_cases n
  rw [← hcc] at hck
  rw [← hce] at hqc
  have HcE := Lib.hid hce
  have HcC := Lib.hid hcc
  have HcK := Lib.hid hck
  clear hce hcc hck
  go_enter Tryd.func6, Tryd.ntmps6
  go_wp2_with fail
  refine (alive2_any _).mono ?_
  rintro e w1 ⟨rfl, hb⟩
  have hbf := hb
  clear hb
  go_wp2_with fail
  refine (qparse_main l _ a ka HaE HaC (by omega)).mono ?_
  rintro e w2 hq9
  obtain ⟨aB, axO, axL, axC, ayO, ayL, ayC, rfl, hS, hax, hay, ha, hb⟩ := hq9.out
  have HaS := Lib.hid hS; clear hS
  replace hbf := hbf.trans (hb.mono hbf.size)
  clear hb
  obtain ⟨w3, hwE⟩ : ∃ W, W = (w2.alloc (.cells #[.bool aB, .slice axO axL axC, .slice ayO ayL ayC] 27)) := ⟨_, rfl⟩
  have hb : Below w2.heap.size w2 w3 := by rw [hwE]; exact ((Below.refl _ w2).alloc (Nat.le_refl _) _)
  obtain ⟨pa, hpa⟩ : ∃ p, p = w2.heap.size := ⟨_, rfl⟩
  have hba : Box3 w3 pa (Value.bool aB) (Value.slice axO axL axC) (Value.slice ayO ayL ayC) := by rw [hwE, hpa]; exact ⟨by go_simp, by go_simp, by go_simp, by go_simp, by go_simp, by go_simp⟩
  have HP : Hid (w.heap.size ≤ pa) := Lib.hid (by have h9 := hbf.size; omega)
  have HW := Lib.hid hwE; clear hwE
  go_upto_region 4 with fail
  rw [← HW.out, ← hpa]
  clear hpa HW
  replace hax := hax.below hb
  replace hay := hay.below hb
  replace ha := ha.below hb
  replace hbf := hbf.trans (hb.mono hbf.size)
  clear hb
  go_wp2_with fail
  refine (qparse_main m _ b kb HbE HbC (by omega)).mono ?_
  rintro e w4 hq9
  obtain ⟨vB, vxO, vxL, vxC, vyO, vyL, vyC, rfl, hS, hvx, hvy, hv, hb⟩ := hq9.out
  have HvS := Lib.hid hS; clear hS
  replace hba := hba.kept hb
  replace hax := hax.below hb
  replace hay := hay.below hb
  replace ha := ha.below hb
  replace hbf := hbf.trans (hb.mono hbf.size)
  clear hb
  obtain ⟨w5, hwE⟩ : ∃ W, W = (w4.alloc (.cells #[.bool vB, .slice vxO vxL vxC, .slice vyO vyL vyC] 27)) := ⟨_, rfl⟩
  have hb : Below w4.heap.size w4 w5 := by rw [hwE]; exact ((Below.refl _ w4).alloc (Nat.le_refl _) _)
  obtain ⟨pv, hpv⟩ : ∃ p, p = w4.heap.size := ⟨_, rfl⟩
  have hbv : Box3 w5 pv (Value.bool vB) (Value.slice vxO vxL vxC) (Value.slice vyO vyL vyC) := by rw [hwE, hpv]; exact ⟨by go_simp, by go_simp, by go_simp, by go_simp, by go_simp, by go_simp⟩
  replace HP : Hid (w.heap.size ≤ pa ∧ pa < pv) := Lib.hid (by have h1 := HP.out; have h9 := hbf.size; have h2a := hba.lt; omega)
  have HW := Lib.hid hwE; clear hwE
  go_upto_region 5 with fail
  rw [← HW.out, ← hpv]
  clear hpv HW
  replace hba := hba.kept hb
  replace hax := hax.below hb
  replace hay := hay.below hb
  replace ha := ha.below hb
  replace hvx := hvx.below hb
  replace hvy := hvy.below hb
  replace hv := hv.below hb
  replace hbf := hbf.trans (hb.mono hbf.size)
  clear hb
  go_wp2_with fail
  refine (qparse_main n _ c kc HcE HcC (by omega)).mono ?_
  rintro e w6 hq9
  obtain ⟨cB, cxO, cxL, cxC, cyO, cyL, cyC, rfl, hS, hcx, hcy, hc, hb⟩ := hq9.out
  have HcS := Lib.hid hS; clear hS
  replace hba := hba.kept hb
  replace hbv := hbv.kept hb
  replace hax := hax.below hb
  replace hay := hay.below hb
  replace ha := ha.below hb
  replace hvx := hvx.below hb
  replace hvy := hvy.below hb
  replace hv := hv.below hb
  replace hbf := hbf.trans (hb.mono hbf.size)
  clear hb
  obtain ⟨w7, hwE⟩ : ∃ W, W = (w6.alloc (.cells #[.bool cB, .slice cxO cxL cxC, .slice cyO cyL cyC] 27)) := ⟨_, rfl⟩
  have hb : Below w6.heap.size w6 w7 := by rw [hwE]; exact ((Below.refl _ w6).alloc (Nat.le_refl _) _)
  obtain ⟨pc, hpc⟩ : ∃ p, p = w6.heap.size := ⟨_, rfl⟩
  have hbc : Box3 w7 pc (Value.bool cB) (Value.slice cxO cxL cxC) (Value.slice cyO cyL cyC) := by rw [hwE, hpc]; exact ⟨by go_simp, by go_simp, by go_simp, by go_simp, by go_simp, by go_simp⟩
  replace HP : Hid (w.heap.size ≤ pa ∧ pa < pv ∧ pv < pc) := Lib.hid (by have h1 := HP.out; have h9 := hbf.size; have h2v := hbv.lt; omega)
  have HW := Lib.hid hwE; clear hwE
  go_upto_region 6 with fail
  rw [← HW.out, ← hpc]
  clear hpc HW
  replace hba := hba.kept hb
  replace hbv := hbv.kept hb
  replace hax := hax.below hb
  replace hay := hay.below hb
  replace ha := ha.below hb
  replace hvx := hvx.below hb
  replace hvy := hvy.below hb
  replace hv := hv.below hb
  replace hcx := hcx.below hb
  replace hcy := hcy.below hb
  replace hc := hc.below hb
  replace hbf := hbf.trans (hb.mono hbf.size)
  clear hb
  by_cases ha0 : ka = 0
  rotate_left
  · rcases HaK.out with rfl | rfl | rfl
    · exact (ha0 rfl).elim
    all_goals
      clear ha0
      go_wp2_with fail
      go_ret
      exact ⟨rfl, hbf⟩
  subst ha0
  by_cases hb0 : kb = 0
  rotate_left
  · rcases HbK.out with rfl | rfl | rfl
    · exact (hb0 rfl).elim
    all_goals
      clear hb0
      go_wp2_with fail
      go_ret
      exact ⟨rfl, hbf⟩
  subst hb0
  by_cases hc0 : kc = 0
  rotate_left
  · rcases HcK.out with rfl | rfl | rfl
    · exact (hc0 rfl).elim
    all_goals
      clear hc0
      go_wp2_with fail
      go_ret
      exact ⟨rfl, hbf⟩
  subst hc0
  go_upto_region 8 with fail
  have L3 : Hid (a / b * b = a) := Lib.hid (law_div hb0)
  have hdv := hqa.div hqb hb0
  have ea0 := hba.c0
  have ea1 := hba.c1
  have ea2 := hba.c2
  have ev0 := hbv.c0
  have ev1 := hbv.c1
  have ev2 := hbv.c2
  go_wp2_with fail
  refine (qdiv_ok _ _ a b 101 101 _ ha hv hqa hqb (by decide) hb0).mono ?_
  rintro e w8 hq9
  obtain ⟨qB, qxO, qxL, qxC, qyO, qyL, qyC, rfl, hS, hqx, hqy, hq, hb⟩ := hq9.out
  have HqS := Lib.hid hS; clear hS
  clear ea0 ea1 ea2 ev0 ev1 ev2
  replace hba := hba.kept hb
  replace hbv := hbv.kept hb
  replace hbc := hbc.kept hb
  replace hax := hax.below hb
  replace hay := hay.below hb
  replace ha := ha.below hb
  replace hvx := hvx.below hb
  replace hvy := hvy.below hb
  replace hv := hv.below hb
  replace hcx := hcx.below hb
  replace hcy := hcy.below hb
  replace hc := hc.below hb
  replace hbf := hbf.trans (hb.mono hbf.size)
  clear hb
  clear hb0
  obtain ⟨w9, hwE⟩ : ∃ W, W = (w8.alloc (.cells #[.bool qB, .slice qxO qxL qxC, .slice qyO qyL qyC] 27)) := ⟨_, rfl⟩
  have hb : Below w8.heap.size w8 w9 := by rw [hwE]; exact ((Below.refl _ w8).alloc (Nat.le_refl _) _)
  obtain ⟨pq, hpq⟩ : ∃ p, p = w8.heap.size := ⟨_, rfl⟩
  have hbq : Box3 w9 pq (Value.bool qB) (Value.slice qxO qxL qxC) (Value.slice qyO qyL qyC) := by rw [hwE, hpq]; exact ⟨by go_simp, by go_simp, by go_simp, by go_simp, by go_simp, by go_simp⟩
  replace HP : Hid (w.heap.size ≤ pa ∧ pa < pv ∧ pv < pc ∧ pc < pq) := Lib.hid (by have h1 := HP.out; have h9 := hbf.size; have h2c := hbc.lt; omega)
  have HW := Lib.hid hwE; clear hwE
  go_upto_region 9 with fail
  rw [← HW.out, ← hpq]
  clear hpq HW
  replace hba := hba.kept hb
  replace hbv := hbv.kept hb
  replace hbc := hbc.kept hb
  replace hax := hax.below hb
  replace hay := hay.below hb
  replace ha := ha.below hb
  replace hvx := hvx.below hb
  replace hvy := hvy.below hb
  replace hv := hv.below hb
  replace hcx := hcx.below hb
  replace hcy := hcy.below hb
  replace hc := hc.below hb
  replace hqx := hqx.below hb
  replace hqy := hqy.below hb
  replace hq := hq.below hb
  replace hbf := hbf.trans (hb.mono hbf.size)
  clear hb
  have hq0 := QB.zero 1 (by decide)
  have hq1 : QB ((1 : Int) : Rat) 2 := QB.int (by decide) (by decide)
  have Qbc := hqb.add hqc
  have Qab := hqa.mul hqb
  have Qac := hqa.mul hqc
  have Qabc := hqa.mul Qbc
  have Qsum := Qab.add Qac
  have Qsub := hqa.sub hqb
  have Qback := Qsub.add hqb
  have Qfl := hqa.floor
  have Qfl1 := Qfl.add hq1
  have Qcl := hqa.neg.floor.neg
  have Qself := hqa.sub hqa
  have L1 : Hid (a * (b + c) = a * b + a * c) := Lib.hid (law_dist a b c)
  have L2 : Hid (a - b + b = a) := Lib.hid (law_back a b)
  have L4 : Hid (a - a = 0) := Lib.hid (law_self a)
  obtain ⟨c1, hc1⟩ : ∃ k, k = qcmp (a.floor : Rat) a := ⟨_, rfl⟩
  have hc1l : c1 ≤ 0 := by rw [hc1]; exact qcmp_le (floor_near a).1
  have C1 := Lib.hid hc1.symm; clear hc1
  have C2 : Hid (qcmp a ((a.floor : Rat) + ((1 : Int) : Rat)) = -1) := Lib.hid (qcmp_lt (floor_near a).2)
  obtain ⟨c3, hc3⟩ : ∃ k, k = qcmp (-((-a).floor : Rat)) a := ⟨_, rfl⟩
  have hc3l : 0 ≤ c3 := by rw [hc3]; exact qcmp_ge (ceil_near a)
  have C3 := Lib.hid hc3.symm; clear hc3
  obtain ⟨c4, hc4⟩ : ∃ k, k = qcmp a b := ⟨_, rfl⟩
  have C5 : Hid (qcmp (a - b) 0 = c4) := Lib.hid (by rw [hc4]; exact qcmp_sub a b)
  have C6 : Hid (qcmp b a = -c4) := Lib.hid (by rw [hc4]; exact qcmp_anti a b)
  have CT : Hid (c4 = -1 ∨ c4 = 0 ∨ c4 = 1) := Lib.hid (by rw [hc4]; exact qcmp_three a b)
  have C4 := Lib.hid hc4.symm; clear hc4
  obtain ⟨w10, hwE⟩ : ∃ W, W = (w9.alloc (.cells #[.bool false, .slice none 0 0, .slice none 0 0] 27)) := ⟨_, rfl⟩
  have hb : Below w9.heap.size w9 w10 := by rw [hwE]; exact ((Below.refl _ w9).alloc (Nat.le_refl _) _)
  obtain ⟨pz, hpz⟩ : ∃ p, p = w9.heap.size := ⟨_, rfl⟩
  have hbz : Box3 w10 pz (Value.bool false) (Value.slice none 0 0) (Value.slice none 0 0) := by rw [hwE, hpz]; exact ⟨by go_simp, by go_simp, by go_simp, by go_simp, by go_simp, by go_simp⟩
  replace HP : Hid (w.heap.size ≤ pa ∧ pa < pv ∧ pv < pc ∧ pc < pq ∧ pq < pz) := Lib.hid (by have h1 := HP.out; have h9 := hbf.size; have h2q := hbq.lt; omega)
  have HW := Lib.hid hwE; clear hwE
  go_upto_region 10 with fail
  rw [← HW.out, ← hpz]
  clear hpz HW
  replace hba := hba.kept hb
  replace hbv := hbv.kept hb
  replace hbc := hbc.kept hb
  replace hbq := hbq.kept hb
  replace hax := hax.below hb
  replace hay := hay.below hb
  replace ha := ha.below hb
  replace hvx := hvx.below hb
  replace hvy := hvy.below hb
  replace hv := hv.below hb
  replace hcx := hcx.below hb
  replace hcy := hcy.below hb
  replace hc := hc.below hb
  replace hqx := hqx.below hb
  replace hqy := hqy.below hb
  replace hq := hq.below hb
  replace hbf := hbf.trans (hb.mono hbf.size)
  clear hb
  simp only [List.append_eq, List.cons_append, List.nil_append]
  have Qdm := hdv.mul hqb
  refine wp_region_seqQ (S := fun w' => Box3 w' pa (Value.bool aB) (Value.slice axO axL axC) (Value.slice ayO ayL ayC) ∧ Box3 w' pv (Value.bool vB) (Value.slice vxO vxL vxC) (Value.slice vyO vyL vyC) ∧ Box3 w' pc (Value.bool cB) (Value.slice cxO cxL cxC) (Value.slice cyO cyL cyC) ∧ Box3 w' pz (Value.bool false) (Value.slice none 0 0) (Value.slice none 0 0) ∧ Box3 w' pq (Value.bool qB) (Value.slice qxO qxL qxC) (Value.slice qyO qyL qyC)) [(0, 128, some 66), (0, 512, some 67), (0, 2048, some 68), (6, 442721857769029238784, some 69), (9, 664082786653543858176, some 70), (0, 128, some 71), (0, 512, some 72), (112, 7083549724304467820544, some 73), (0, 128, some 74), (0, 2048, some 75), (896, 56668397794435742564352, some 76), (1152, 85002596691653613846528, some 77), (2064, 152296319072546058141696, some 78), (4096, 302231454903657293676544, some 79), (8192, 604462909807314587353216, some 80), (8192, 604462909807314587353600, some 81), (57344, 4231240368651202111471616, some 82), (8192, 604462909807314587353600, some 83), (204800, 15111572745182864683827200, some 84), (8192, 604462909807314587353216, some 85), (794624, 58632902251309514973249536, some 86), (1056768, 77975715365143581768548352, some 87), (3145728, 154742504910672534362390528, some 88), (4194304, 309485009821345068724797440, some 89), (12582912, 928455029464035206174343168, some 90), (20971520, 1547425049106725343623905280, some 91), (33554432, 2475880078570760549798256640, some 92), (33554432, 2475880078570760549798248960, some 93), (234881024, 17331160549995323848587739136, some 94), (33554432, 2475880078570760549798248576, some 95), (838860800, 61897001964269013744956211200, some 96), (1111490560, 82013527602656443212066979840, some 97), (2151677952, 158765810038350020255812681728, some 98), (5368709120, 316912650057057350374175801344, some 99), (8589934592, 633825300114114700748351602816, some 100), (25769803776, 1901475900342344102245054808064, some 101), (8589934592, 633825300114114700748351602816, some 102), (111669149696, 8239728901483491109728570834944, some 103), (146028888064, 10775030101939949912721977245696, some 104), (283467841536, 20916234903765785124695602888704, some 105), (687194767360, 40564819207303340847894502572032, some 106), (1099511627776, 81129638414606681695789005144192, some 107), (1099511627776, 81129638414606681695789005144192, some 108), (5497558138880, 405648192073033408478945025720320, some 109), (9895604649984, 81129638414606681695789005144064, some 110), (27487790694400, 2028240960365167042394725128601600, some 111), (38482906972160, 2839537344511233859352615180042240, some 112), (71468255805440, 5273426496949434310226285334364160, some 113), (141836999983104, 10465723355484261938756781663584256, some 114), (351843720888320, 20769187434139310514121985316880384, some 115), (562949953421312, 41538374868278621028243970633760896, some 116), (1688849860263936, 124615124604835863084731911901282304, some 117), (562949953421312, 41538374868278621028243970633760896, some 118), (7318349394477056, 539998873287622073367171618238889984, some 119), (9570149208162304, 706152372760736557480147500773933056, some 120), (18577348462903296, 1370766370653194493932051030914105344, some 121), (45035996273704960, 2658455991569831745807614120560689152, some 122), (72057594037927936, 5316911983139663491615228241121378432, some 123), (72057594037927936, 5316911983139663491615228241121378432, some 124), (504403158265495552, 37218383881977644441306597687849648128, some 125), (72057594037927936, 5316911983139663491615228241121411072, some 126), (1801439850948198400, 132922799578491587290380706028034457600, some 127), (2377900603251621888, 175458095443608895223302531957005484032, some 128), (6917529027641081856, 340282366920938463463374607431768211456, some 129), (9223372036854775808, 680564733841876926926749214863536423040, some 130), (9223372036854775808, 680564733841876926926749214863536423424, some 131), (64563604257983430656, 4763953136893138488487244504044754960384, some 132), (83010348331692982272, 6125082604576892342340742933771827806208, some 133), (9223372036854775808, 680564733841876926926749214863536423040, some 134), (9223372036854775808, 680564733841876926926749214863536423424, some 135), (968454063869751459840, 66014779182662061911894673841763033022464, some 136), (9223372036854775808, 680564733841876926926749214863536455680, some 137), (3550998234189088686080, 262017422529122616866798447722461522821120, some 138), (4731589854906499989504, 349129708460882863513422347224994184953856, some 139), (9601530290365821616128, 708467887929393880930745932672941416251392, some 140), (18898689303515435630592, 1394477139642005823272909141255386130546688, some 141), (42501298345826806923264, 2787593149816327892691964784081045188247552, some 142), (75557863725914323419136, 5575186299632655785383929568162090376495232, some 143), (75557863725914323419136, 5575186299632655785383929568162090376495616, some 144), (528905046081400263933952, 39026304097428590497687506977134632635465728, some 145), (75557863725914323419136, 5575186299632655785383929568162090376495616, some 146), (75557863725914323419136, 5575186299632655785383929568162090376495232, some 147), (4306798232377116434890752, 273184128682000133483812548839942428448260096, some 148), (4911261142184431022243840, 362387109476122626049955421930535874472181760, some 149), (10351427330450262308421632, 763800523049673842597598350838206381579829248, some 150), (19418370977559981118717952, 1432822879005592536843669899017657226759241728, some 151), (77371252455336267181195263, 2854495385411919762116571938898990272765493248, some 6)] [(true, 0), (true, 1), (true, 2), (true, 5), (true, 6), (true, 8), (true, 9), (false, 3), (false, 4), (false, 7), (false, 10), (false, 11), (false, 12), (true, 13), (true, 14), (true, 15), (true, 17), (true, 19), (false, 16), (false, 18), (false, 20), (true, 21), (true, 22), (true, 23), (true, 24), (true, 25), (true, 26), (true, 27), (true, 29), (false, 28), (false, 30), (true, 31), (true, 32), (true, 33), (true, 34), (true, 36), (false, 35), (false, 37), (true, 38), (true, 39), (true, 40), (true, 41), (true, 42), (false, 43), (false, 44), (false, 45), (false, 46), (true, 47), (true, 48), (true, 49), (true, 50), (true, 52), (false, 51), (false, 53), (true, 54), (true, 55), (true, 56), (true, 57), (true, 58), (true, 60), (false, 59), (false, 61), (true, 62), (true, 63), (true, 64), (true, 65), (true, 68), (true, 69), (true, 71), (false, 66), (true, 67), (false, 70), (false, 72), (true, 73), (true, 74), (true, 75), (true, 76), (true, 77), (true, 78), (true, 80), (true, 81), (false, 79), (false, 82), (true, 83), (true, 84), (true, 85), (true, 86)] (by kernel_rfl) (by kernel_rfl) (by kernel_rfl) (by kernel_rfl) (by kernel_rfl) (by kernel_rfl) (fun d _ _ _ _ h => by cases d <;> exact h) ⟨hba.drew, hbv.drew, hbc.drew, hbz.drew, hbq.drew⟩ (fun _ => ?_)
  simp only [pickOps, List.append_eq, List.cons_append, List.nil_append, List.getElem?_toArray, List.getElem?_cons_succ, List.getElem?_cons_zero]
  have hb : Below w10.heap.size w10 w10.drew := (Below.refl _ _).drew
  generalize w10.drew = w11 at hb ⊢
  replace hba := hba.kept hb
  replace hbv := hbv.kept hb
  replace hbc := hbc.kept hb
  replace hbq := hbq.kept hb
  replace hbz := hbz.kept hb
  replace hax := hax.below hb
  replace hay := hay.below hb
  replace ha := ha.below hb
  replace hvx := hvx.below hb
  replace hvy := hvy.below hb
  replace hv := hv.below hb
  replace hcx := hcx.below hb
  replace hcy := hcy.below hb
  replace hc := hc.below hb
  replace hqx := hqx.below hb
  replace hqy := hqy.below hb
  replace hq := hq.below hb
  replace hbf := hbf.trans (hb.mono hbf.size)
  clear hb
  repeat (first | (refine seq_take (v := ?_) (by rfl) ?_ ?_; rotate_left; (· intro w hSw; (try dsimp only at hSw); obtain ⟨⟨ea0, ea1, ea2, _, _, _⟩, ⟨ev0, ev1, ev2, _, _, _⟩, ⟨ec0, ec1, ec2, _, _, _⟩, ⟨ez0, ez1, ez2, _, _, _⟩, ⟨eq0, eq1, eq2, _, _, _⟩⟩ := hSw; go_simp; all_goals with_reducible rfl); (try simp only [Act.put, List.setIfInBounds_toArray, List.set_cons_zero, List.set_cons_succ])) | (refine seq_leave (by rfl) ?_; (try simp only [Act.put, List.setIfInBounds_toArray, List.set_cons_zero, List.set_cons_succ])))
  refine seq_step (by rfl) (fun K hK => ?_)
  go_simp
  go_at_call 33
  (with_reducible refine (qadd_any _ _ b c 101 101 _ hv hc hqb hqc (by decide)).mono ?_)
  rintro e w12 hq9
  obtain ⟨dB, dxO, dxL, dxC, dyO, dyL, dyC, rfl, hS, hdx, hdy, hd, hb⟩ := hq9.out
  have HdS := Lib.hid hS; clear hS
  replace hba := hba.kept hb
  replace hbv := hbv.kept hb
  replace hbc := hbc.kept hb
  replace hbq := hbq.kept hb
  replace hbz := hbz.kept hb
  replace hax := hax.below hb
  replace hay := hay.below hb
  replace ha := ha.below hb
  replace hvx := hvx.below hb
  replace hvy := hvy.below hb
  replace hv := hv.below hb
  replace hcx := hcx.below hb
  replace hcy := hcy.below hb
  replace hc := hc.below hb
  replace hqx := hqx.below hb
  replace hqy := hqy.below hb
  replace hq := hq.below hb
  replace hbf := hbf.trans (hb.mono hbf.size)
  clear hb
  first | refine hK.out _ _ ⟨hba, hbv, hbc, hbz, hbq⟩ (fun _ => ?_) | (go_wp2_with fail; refine hK.out _ _ ⟨hba, hbv, hbc, hbz, hbq⟩ (fun _ => ?_))
  clear hK K
  (try simp only [Act.put, List.setIfInBounds_toArray, List.set_cons_zero, List.set_cons_succ])
  refine seq_step (by rfl) (fun K hK => ?_)
  go_simp
  go_at_call 32
  (with_reducible refine (qmul_any _ _ a (b + c) 101 203 _ ha hd hqa Qbc (by decide)).mono ?_)
  rintro e w13 hq9
  obtain ⟨eB, exO, exL, exC, eyO, eyL, eyC, rfl, hS, hex, hey, he, hb⟩ := hq9.out
  have HeS := Lib.hid hS; clear hS
  replace hba := hba.kept hb
  replace hbv := hbv.kept hb
  replace hbc := hbc.kept hb
  replace hbq := hbq.kept hb
  replace hbz := hbz.kept hb
  replace hax := hax.below hb
  replace hay := hay.below hb
  replace ha := ha.below hb
  replace hvx := hvx.below hb
  replace hvy := hvy.below hb
  replace hv := hv.below hb
  replace hcx := hcx.below hb
  replace hcy := hcy.below hb
  replace hc := hc.below hb
  replace hqx := hqx.below hb
  replace hqy := hqy.below hb
  replace hq := hq.below hb
  replace hdx := hdx.below hb
  replace hdy := hdy.below hb
  replace hd := hd.below hb
  replace hbf := hbf.trans (hb.mono hbf.size)
  clear hb
  first | refine hK.out _ _ ⟨hba, hbv, hbc, hbz, hbq⟩ (fun _ => ?_) | (go_wp2_with fail; refine hK.out _ _ ⟨hba, hbv, hbc, hbz, hbq⟩ (fun _ => ?_))
  clear hK K
  (try simp only [Act.put, List.setIfInBounds_toArray, List.set_cons_zero, List.set_cons_succ])
  refine seq_step (by rfl) (fun K hK => ?_)
  go_simp
  go_at_call 32
  (with_reducible refine (qmul_any _ _ a b 101 101 _ ha hv hqa hqb (by decide)).mono ?_)
  rintro e w14 hq9
  obtain ⟨fB, fxO, fxL, fxC, fyO, fyL, fyC, rfl, hS, hfx, hfy, hf, hb⟩ := hq9.out
  have HfS := Lib.hid hS; clear hS
  replace hba := hba.kept hb
  replace hbv := hbv.kept hb
  replace hbc := hbc.kept hb
  replace hbq := hbq.kept hb
  replace hbz := hbz.kept hb
  replace hax := hax.below hb
  replace hay := hay.below hb
  replace ha := ha.below hb
  replace hvx := hvx.below hb
  replace hvy := hvy.below hb
  replace hv := hv.below hb
  replace hcx := hcx.below hb
  replace hcy := hcy.below hb
  replace hc := hc.below hb
  replace hqx := hqx.below hb
  replace hqy := hqy.below hb
  replace hq := hq.below hb
  replace hdx := hdx.below hb
  replace hdy := hdy.below hb
  replace hd := hd.below hb
  replace hex := hex.below hb
  replace hey := hey.below hb
  replace he := he.below hb
  replace hbf := hbf.trans (hb.mono hbf.size)
  clear hb
  first | refine hK.out _ _ ⟨hba, hbv, hbc, hbz, hbq⟩ (fun _ => ?_) | (go_wp2_with fail; refine hK.out _ _ ⟨hba, hbv, hbc, hbz, hbq⟩ (fun _ => ?_))
  clear hK K
  (try simp only [Act.put, List.setIfInBounds_toArray, List.set_cons_zero, List.set_cons_succ])
  refine seq_step (by rfl) (fun K hK => ?_)
  go_simp
  go_at_call 32
  (with_reducible refine (qmul_any _ _ a c 101 101 _ ha hc hqa hqc (by decide)).mono ?_)
  rintro e w15 hq9
  obtain ⟨gB, gxO, gxL, gxC, gyO, gyL, gyC, rfl, hS, hgx, hgy, hg, hb⟩ := hq9.out
  have HgS := Lib.hid hS; clear hS
  replace hba := hba.kept hb
  replace hbv := hbv.kept hb
  replace hbc := hbc.kept hb
  replace hbq := hbq.kept hb
  replace hbz := hbz.kept hb
  replace hax := hax.below hb
  replace hay := hay.below hb
  replace ha := ha.below hb
  replace hvx := hvx.below hb
  replace hvy := hvy.below hb
  replace hv := hv.below hb
  replace hcx := hcx.below hb
  replace hcy := hcy.below hb
  replace hc := hc.below hb
  replace hqx := hqx.below hb
  replace hqy := hqy.below hb
  replace hq := hq.below hb
  replace hdx := hdx.below hb
  replace hdy := hdy.below hb
  replace hd := hd.below hb
  replace hex := hex.below hb
  replace hey := hey.below hb
  replace he := he.below hb
  replace hfx := hfx.below hb
  replace hfy := hfy.below hb
  replace hf := hf.below hb
  replace hbf := hbf.trans (hb.mono hbf.size)
  clear hb
  first | refine hK.out _ _ ⟨hba, hbv, hbc, hbz, hbq⟩ (fun _ => ?_) | (go_wp2_with fail; refine hK.out _ _ ⟨hba, hbv, hbc, hbz, hbq⟩ (fun _ => ?_))
  clear hK K
  (try simp only [Act.put, List.setIfInBounds_toArray, List.set_cons_zero, List.set_cons_succ])
  refine seq_step (by rfl) (fun K hK => ?_)
  go_simp
  go_at_call 33
  (with_reducible refine (qadd_any _ _ (a * b) (a * c) 202 202 _ hf hg Qab Qac (by decide)).mono ?_)
  rintro e w16 hq9
  obtain ⟨hB, hxO, hxL, hxC, hyO, hyL, hyC, rfl, hS, hhx, hhy, hh, hb⟩ := hq9.out
  have HhS := Lib.hid hS; clear hS
  replace hba := hba.kept hb
  replace hbv := hbv.kept hb
  replace hbc := hbc.kept hb
  replace hbq := hbq.kept hb
  replace hbz := hbz.kept hb
  replace hax := hax.below hb
  replace hay := hay.below hb
  replace ha := ha.below hb
  replace hvx := hvx.below hb
  replace hvy := hvy.below hb
  replace hv := hv.below hb
  replace hcx := hcx.below hb
  replace hcy := hcy.below hb
  replace hc := hc.below hb
  replace hqx := hqx.below hb
  replace hqy := hqy.below hb
  replace hq := hq.below hb
  replace hdx := hdx.below hb
  replace hdy := hdy.below hb
  replace hd := hd.below hb
  replace hex := hex.below hb
  replace hey := hey.below hb
  replace he := he.below hb
  replace hfx := hfx.below hb
  replace hfy := hfy.below hb
  replace hf := hf.below hb
  replace hgx := hgx.below hb
  replace hgy := hgy.below hb
  replace hg := hg.below hb
  replace hbf := hbf.trans (hb.mono hbf.size)
  clear hb
  first | refine hK.out _ _ ⟨hba, hbv, hbc, hbz, hbq⟩ (fun _ => ?_) | (go_wp2_with fail; refine hK.out _ _ ⟨hba, hbv, hbc, hbz, hbq⟩ (fun _ => ?_))
  clear hK K
  (try simp only [Act.put, List.setIfInBounds_toArray, List.set_cons_zero, List.set_cons_succ])
  refine seq_step (by rfl) (fun K hK => ?_)
  go_simp
  go_at_call 20
  (with_reducible refine (same_eq _ _ _ _ 304 405 _ he hh Qabc Qsum (by decide) L1).mono ?_)
  rintro e w17 ⟨rfl, hb⟩
  replace hba := hba.kept hb
  replace hbv := hbv.kept hb
  replace hbc := hbc.kept hb
  replace hbq := hbq.kept hb
  replace hbz := hbz.kept hb
  replace hax := hax.below hb
  replace hay := hay.below hb
  replace ha := ha.below hb
  replace hvx := hvx.below hb
  replace hvy := hvy.below hb
  replace hv := hv.below hb
  replace hcx := hcx.below hb
  replace hcy := hcy.below hb
  replace hc := hc.below hb
  replace hqx := hqx.below hb
  replace hqy := hqy.below hb
  replace hq := hq.below hb
  replace hdx := hdx.below hb
  replace hdy := hdy.below hb
  replace hd := hd.below hb
  replace hex := hex.below hb
  replace hey := hey.below hb
  replace he := he.below hb
  replace hfx := hfx.below hb
  replace hfy := hfy.below hb
  replace hf := hf.below hb
  replace hgx := hgx.below hb
  replace hgy := hgy.below hb
  replace hg := hg.below hb
  replace hhx := hhx.below hb
  replace hhy := hhy.below hb
  replace hh := hh.below hb
  replace hbf := hbf.trans (hb.mono hbf.size)
  clear hb
  first | refine hK.out _ _ ⟨hba, hbv, hbc, hbz, hbq⟩ (fun _ => ?_) | (go_wp2_with fail; refine hK.out _ _ ⟨hba, hbv, hbc, hbz, hbq⟩ (fun _ => ?_))
  clear hK K
  (try simp only [Act.put, List.setIfInBounds_toArray, List.set_cons_zero, List.set_cons_succ])
  repeat (first | (refine seq_take (v := ?_) (by rfl) ?_ ?_; rotate_left; (· intro w hSw; (try dsimp only at hSw); obtain ⟨⟨ea0, ea1, ea2, _, _, _⟩, ⟨ev0, ev1, ev2, _, _, _⟩, ⟨ec0, ec1, ec2, _, _, _⟩, ⟨ez0, ez1, ez2, _, _, _⟩, ⟨eq0, eq1, eq2, _, _, _⟩⟩ := hSw; go_simp; all_goals with_reducible rfl); (try simp only [Act.put, List.setIfInBounds_toArray, List.set_cons_zero, List.set_cons_succ])) | (refine seq_leave (by rfl) ?_; (try simp only [Act.put, List.setIfInBounds_toArray, List.set_cons_zero, List.set_cons_succ])))
  refine seq_step (by rfl) (fun K hK => ?_)
  go_simp
  go_at_call 25
  (with_reducible refine (qsub_any _ _ a b 101 101 _ ha hv hqa hqb (by decide)).mono ?_)
  rintro e w18 hq9
  obtain ⟨iB, ixO, ixL, ixC, iyO, iyL, iyC, rfl, hS, hix, hiy, hi, hb⟩ := hq9.out
  have HiS := Lib.hid hS; clear hS
  replace hba := hba.kept hb
  replace hbv := hbv.kept hb
  replace hbc := hbc.kept hb
  replace hbq := hbq.kept hb
  replace hbz := hbz.kept hb
  replace hax := hax.below hb
  replace hay := hay.below hb
  replace ha := ha.below hb
  replace hvx := hvx.below hb
  replace hvy := hvy.below hb
  replace hv := hv.below hb
  replace hcx := hcx.below hb
  replace hcy := hcy.below hb
  replace hc := hc.below hb
  replace hqx := hqx.below hb
  replace hqy := hqy.below hb
  replace hq := hq.below hb
  replace hdx := hdx.below hb
  replace hdy := hdy.below hb
  replace hd := hd.below hb
  replace hex := hex.below hb
  replace hey := hey.below hb
  replace he := he.below hb
  replace hfx := hfx.below hb
  replace hfy := hfy.below hb
  replace hf := hf.below hb
  replace hgx := hgx.below hb
  replace hgy := hgy.below hb
  replace hg := hg.below hb
  replace hhx := hhx.below hb
  replace hhy := hhy.below hb
  replace hh := hh.below hb
  replace hbf := hbf.trans (hb.mono hbf.size)
  clear hb
  first | refine hK.out _ _ ⟨hba, hbv, hbc, hbz, hbq⟩ (fun _ => ?_) | (go_wp2_with fail; refine hK.out _ _ ⟨hba, hbv, hbc, hbz, hbq⟩ (fun _ => ?_))
  clear hK K
  (try simp only [Act.put, List.setIfInBounds_toArray, List.set_cons_zero, List.set_cons_succ])
  refine seq_step (by rfl) (fun K hK => ?_)
  go_simp
  go_at_call 33
  (with_reducible refine (qadd_any _ _ (a - b) b 203 101 _ hi hv Qsub hqb (by decide)).mono ?_)
  rintro e w19 hq9
  obtain ⟨jB, jxO, jxL, jxC, jyO, jyL, jyC, rfl, hS, hjx, hjy, hj, hb⟩ := hq9.out
  have HjS := Lib.hid hS; clear hS
  replace hba := hba.kept hb
  replace hbv := hbv.kept hb
  replace hbc := hbc.kept hb
  replace hbq := hbq.kept hb
  replace hbz := hbz.kept hb
  replace hax := hax.below hb
  replace hay := hay.below hb
  replace ha := ha.below hb
  replace hvx := hvx.below hb
  replace hvy := hvy.below hb
  replace hv := hv.below hb
  replace hcx := hcx.below hb
  replace hcy := hcy.below hb
  replace hc := hc.below hb
  replace hqx := hqx.below hb
  replace hqy := hqy.below hb
  replace hq := hq.below hb
  replace hdx := hdx.below hb
  replace hdy := hdy.below hb
  replace hd := hd.below hb
  replace hex := hex.below hb
  replace hey := hey.below hb
  replace he := he.below hb
  replace hfx := hfx.below hb
  replace hfy := hfy.below hb
  replace hf := hf.below hb
  replace hgx := hgx.below hb
  replace hgy := hgy.below hb
  replace hg := hg.below hb
  replace hhx := hhx.below hb
  replace hhy := hhy.below hb
  replace hh := hh.below hb
  replace hix := hix.below hb
  replace hiy := hiy.below hb
  replace hi := hi.below hb
  replace hbf := hbf.trans (hb.mono hbf.size)
  clear hb
  first | refine hK.out _ _ ⟨hba, hbv, hbc, hbz, hbq⟩ (fun _ => ?_) | (go_wp2_with fail; refine hK.out _ _ ⟨hba, hbv, hbc, hbz, hbq⟩ (fun _ => ?_))
  clear hK K
  (try simp only [Act.put, List.setIfInBounds_toArray, List.set_cons_zero, List.set_cons_succ])
  refine seq_step (by rfl) (fun K hK => ?_)
  go_simp
  go_at_call 20
  (with_reducible refine (same_eq _ _ _ a 305 101 _ hj ha Qback hqa (by decide) L2).mono ?_)
  rintro e w20 ⟨rfl, hb⟩
  replace hba := hba.kept hb
  replace hbv := hbv.kept hb
  replace hbc := hbc.kept hb
  replace hbq := hbq.kept hb
  replace hbz := hbz.kept hb
  replace hax := hax.below hb
  replace hay := hay.below hb
  replace ha := ha.below hb
  replace hvx := hvx.below hb
  replace hvy := hvy.below hb
  replace hv := hv.below hb
  replace hcx := hcx.below hb
  replace hcy := hcy.below hb
  replace hc := hc.below hb
  replace hqx := hqx.below hb
  replace hqy := hqy.below hb
  replace hq := hq.below hb
  replace hdx := hdx.below hb
  replace hdy := hdy.below hb
  replace hd := hd.below hb
  replace hex := hex.below hb
  replace hey := hey.below hb
  replace he := he.below hb
  replace hfx := hfx.below hb
  replace hfy := hfy.below hb
  replace hf := hf.below hb
  replace hgx := hgx.below hb
  replace hgy := hgy.below hb
  replace hg := hg.below hb
  replace hhx := hhx.below hb
  replace hhy := hhy.below hb
  replace hh := hh.below hb
  replace hix := hix.below hb
  replace hiy := hiy.below hb
  replace hi := hi.below hb
  replace hjx := hjx.below hb
  replace hjy := hjy.below hb
  replace hj := hj.below hb
  replace hbf := hbf.trans (hb.mono hbf.size)
  clear hb
  first | refine hK.out _ _ ⟨hba, hbv, hbc, hbz, hbq⟩ (fun _ => ?_) | (go_wp2_with fail; refine hK.out _ _ ⟨hba, hbv, hbc, hbz, hbq⟩ (fun _ => ?_))
  clear hK K
  (try simp only [Act.put, List.setIfInBounds_toArray, List.set_cons_zero, List.set_cons_succ])
  repeat (first | (refine seq_take (v := ?_) (by rfl) ?_ ?_; rotate_left; (· intro w hSw; (try dsimp only at hSw); obtain ⟨⟨ea0, ea1, ea2, _, _, _⟩, ⟨ev0, ev1, ev2, _, _, _⟩, ⟨ec0, ec1, ec2, _, _, _⟩, ⟨ez0, ez1, ez2, _, _, _⟩, ⟨eq0, eq1, eq2, _, _, _⟩⟩ := hSw; go_simp; all_goals with_reducible rfl); (try simp only [Act.put, List.setIfInBounds_toArray, List.set_cons_zero, List.set_cons_succ])) | (refine seq_leave (by rfl) ?_; (try simp only [Act.put, List.setIfInBounds_toArray, List.set_cons_zero, List.set_cons_succ])))
  refine seq_step (by rfl) (fun K hK => ?_)
  go_simp
  go_at_call 32
  (with_reducible refine (qmul_any _ _ (a / b) b 202 101 _ hq hv hdv hqb (by decide)).mono ?_)
  rintro e w21 hq9
  obtain ⟨kB, kxO, kxL, kxC, kyO, kyL, kyC, rfl, hS, hkx, hky, hk, hb⟩ := hq9.out
  have HkS := Lib.hid hS; clear hS
  replace hba := hba.kept hb
  replace hbv := hbv.kept hb
  replace hbc := hbc.kept hb
  replace hbq := hbq.kept hb
  replace hbz := hbz.kept hb
  replace hax := hax.below hb
  replace hay := hay.below hb
  replace ha := ha.below hb
  replace hvx := hvx.below hb
  replace hvy := hvy.below hb
  replace hv := hv.below hb
  replace hcx := hcx.below hb
  replace hcy := hcy.below hb
  replace hc := hc.below hb
  replace hqx := hqx.below hb
  replace hqy := hqy.below hb
  replace hq := hq.below hb
  replace hdx := hdx.below hb
  replace hdy := hdy.below hb
  replace hd := hd.below hb
  replace hex := hex.below hb
  replace hey := hey.below hb
  replace he := he.below hb
  replace hfx := hfx.below hb
  replace hfy := hfy.below hb
  replace hf := hf.below hb
  replace hgx := hgx.below hb
  replace hgy := hgy.below hb
  replace hg := hg.below hb
  replace hhx := hhx.below hb
  replace hhy := hhy.below hb
  replace hh := hh.below hb
  replace hix := hix.below hb
  replace hiy := hiy.below hb
  replace hi := hi.below hb
  replace hjx := hjx.below hb
  replace hjy := hjy.below hb
  replace hj := hj.below hb
  replace hbf := hbf.trans (hb.mono hbf.size)
  clear hb
  first | refine hK.out _ _ ⟨hba, hbv, hbc, hbz, hbq⟩ (fun _ => ?_) | (go_wp2_with fail; refine hK.out _ _ ⟨hba, hbv, hbc, hbz, hbq⟩ (fun _ => ?_))
  clear hK K
  (try simp only [Act.put, List.setIfInBounds_toArray, List.set_cons_zero, List.set_cons_succ])
  refine seq_step (by rfl) (fun K hK => ?_)
  go_simp
  go_at_call 20
  (with_reducible refine (same_eq _ _ _ a 303 101 _ hk ha Qdm hqa (by decide) L3).mono ?_)
  rintro e w22 ⟨rfl, hb⟩
  replace hba := hba.kept hb
  replace hbv := hbv.kept hb
  replace hbc := hbc.kept hb
  replace hbq := hbq.kept hb
  replace hbz := hbz.kept hb
  replace hax := hax.below hb
  replace hay := hay.below hb
  replace ha := ha.below hb
  replace hvx := hvx.below hb
  replace hvy := hvy.below hb
  replace hv := hv.below hb
  replace hcx := hcx.below hb
  replace hcy := hcy.below hb
  replace hc := hc.below hb
  replace hqx := hqx.below hb
  replace hqy := hqy.below hb
  replace hq := hq.below hb
  replace hdx := hdx.below hb
  replace hdy := hdy.below hb
  replace hd := hd.below hb
  replace hex := hex.below hb
  replace hey := hey.below hb
  replace he := he.below hb
  replace hfx := hfx.below hb
  replace hfy := hfy.below hb
  replace hf := hf.below hb
  replace hgx := hgx.below hb
  replace hgy := hgy.below hb
  replace hg := hg.below hb
  replace hhx := hhx.below hb
  replace hhy := hhy.below hb
  replace hh := hh.below hb
  replace hix := hix.below hb
  replace hiy := hiy.below hb
  replace hi := hi.below hb
  replace hjx := hjx.below hb
  replace hjy := hjy.below hb
  replace hj := hj.below hb
  replace hkx := hkx.below hb
  replace hky := hky.below hb
  replace hk := hk.below hb
  replace hbf := hbf.trans (hb.mono hbf.size)
  clear hb
  first | refine hK.out _ _ ⟨hba, hbv, hbc, hbz, hbq⟩ (fun _ => ?_) | (go_wp2_with fail; refine hK.out _ _ ⟨hba, hbv, hbc, hbz, hbq⟩ (fun _ => ?_))
  clear hK K
  (try simp only [Act.put, List.setIfInBounds_toArray, List.set_cons_zero, List.set_cons_succ])
  repeat (first | (refine seq_take (v := ?_) (by rfl) ?_ ?_; rotate_left; (· intro w hSw; (try dsimp only at hSw); obtain ⟨⟨ea0, ea1, ea2, _, _, _⟩, ⟨ev0, ev1, ev2, _, _, _⟩, ⟨ec0, ec1, ec2, _, _, _⟩, ⟨ez0, ez1, ez2, _, _, _⟩, ⟨eq0, eq1, eq2, _, _, _⟩⟩ := hSw; go_simp; all_goals with_reducible rfl); (try simp only [Act.put, List.setIfInBounds_toArray, List.set_cons_zero, List.set_cons_succ])) | (refine seq_leave (by rfl) ?_; (try simp only [Act.put, List.setIfInBounds_toArray, List.set_cons_zero, List.set_cons_succ])))
  refine seq_step (by rfl) (fun K hK => ?_)
  go_simp
  go_at_call 29
  (with_reducible refine (floor_any _ a 101 _ ha hqa (by decide) (by decide)).mono ?_)
  rintro e w23 hq9
  obtain ⟨lB, lxO, lxL, lxC, lyO, lyL, lyC, rfl, hS, hlx, hly, hl, hb⟩ := hq9.out
  have HlS := Lib.hid hS; clear hS
  replace hba := hba.kept hb
  replace hbv := hbv.kept hb
  replace hbc := hbc.kept hb
  replace hbq := hbq.kept hb
  replace hbz := hbz.kept hb
  replace hax := hax.below hb
  replace hay := hay.below hb
  replace ha := ha.below hb
  replace hvx := hvx.below hb
  replace hvy := hvy.below hb
  replace hv := hv.below hb
  replace hcx := hcx.below hb
  replace hcy := hcy.below hb
  replace hc := hc.below hb
  replace hqx := hqx.below hb
  replace hqy := hqy.below hb
  replace hq := hq.below hb
  replace hdx := hdx.below hb
  replace hdy := hdy.below hb
  replace hd := hd.below hb
  replace hex := hex.below hb
  replace hey := hey.below hb
  replace he := he.below hb
  replace hfx := hfx.below hb
  replace hfy := hfy.below hb
  replace hf := hf.below hb
  replace hgx := hgx.below hb
  replace hgy := hgy.below hb
  replace hg := hg.below hb
  replace hhx := hhx.below hb
  replace hhy := hhy.below hb
  replace hh := hh.below hb
  replace hix := hix.below hb
  replace hiy := hiy.below hb
  replace hi := hi.below hb
  replace hjx := hjx.below hb
  replace hjy := hjy.below hb
  replace hj := hj.below hb
  replace hkx := hkx.below hb
  replace hky := hky.below hb
  replace hk := hk.below hb
  replace hbf := hbf.trans (hb.mono hbf.size)
  clear hb
  first | refine hK.out _ _ ⟨hba, hbv, hbc, hbz, hbq⟩ (fun _ => ?_) | (go_wp2_with fail; refine hK.out _ _ ⟨hba, hbv, hbc, hbz, hbq⟩ (fun _ => ?_))
  clear hK K
  (try simp only [Act.put, List.setIfInBounds_toArray, List.set_cons_zero, List.set_cons_succ])
  refine seq_step (by rfl) (fun K hK => ?_)
  go_simp
  go_at_call 28
  (with_reducible refine (cmp_c _ _ _ a c1 102 101 _ hl ha Qfl hqa (by decide) C1).mono ?_)
  rintro e w24 ⟨rfl, hb⟩
  replace hba := hba.kept hb
  replace hbv := hbv.kept hb
  replace hbc := hbc.kept hb
  replace hbq := hbq.kept hb
  replace hbz := hbz.kept hb
  replace hax := hax.below hb
  replace hay := hay.below hb
  replace ha := ha.below hb
  replace hvx := hvx.below hb
  replace hvy := hvy.below hb
  replace hv := hv.below hb
  replace hcx := hcx.below hb
  replace hcy := hcy.below hb
  replace hc := hc.below hb
  replace hqx := hqx.below hb
  replace hqy := hqy.below hb
  replace hq := hq.below hb
  replace hdx := hdx.below hb
  replace hdy := hdy.below hb
  replace hd := hd.below hb
  replace hex := hex.below hb
  replace hey := hey.below hb
  replace he := he.below hb
  replace hfx := hfx.below hb
  replace hfy := hfy.below hb
  replace hf := hf.below hb
  replace hgx := hgx.below hb
  replace hgy := hgy.below hb
  replace hg := hg.below hb
  replace hhx := hhx.below hb
  replace hhy := hhy.below hb
  replace hh := hh.below hb
  replace hix := hix.below hb
  replace hiy := hiy.below hb
  replace hi := hi.below hb
  replace hjx := hjx.below hb
  replace hjy := hjy.below hb
  replace hj := hj.below hb
  replace hkx := hkx.below hb
  replace hky := hky.below hb
  replace hk := hk.below hb
  replace hlx := hlx.below hb
  replace hly := hly.below hb
  replace hl := hl.below hb
  replace hbf := hbf.trans (hb.mono hbf.size)
  clear hb
  first | refine hK.out _ _ ⟨hba, hbv, hbc, hbz, hbq⟩ (fun _ => ?_) | (go_wp2_with fail; refine hK.out _ _ ⟨hba, hbv, hbc, hbz, hbq⟩ (fun _ => ?_))
  clear hK K
  (try simp only [Act.put, List.setIfInBounds_toArray, List.set_cons_zero, List.set_cons_succ])
  repeat (first | (refine seq_take (v := ?_) (by rfl) ?_ ?_; rotate_left; (· intro w hSw; (try dsimp only at hSw); obtain ⟨⟨ea0, ea1, ea2, _, _, _⟩, ⟨ev0, ev1, ev2, _, _, _⟩, ⟨ec0, ec1, ec2, _, _, _⟩, ⟨ez0, ez1, ez2, _, _, _⟩, ⟨eq0, eq1, eq2, _, _, _⟩⟩ := hSw; go_simp; all_goals with_reducible rfl); (try simp only [Act.put, List.setIfInBounds_toArray, List.set_cons_zero, List.set_cons_succ])) | (refine seq_leave (by rfl) ?_; (try simp only [Act.put, List.setIfInBounds_toArray, List.set_cons_zero, List.set_cons_succ])))
  refine seq_step (by rfl) (fun K hK => ?_)
  go_simp
  go_at_call 29
  (with_reducible refine (floor_any _ a 101 _ ha hqa (by decide) (by decide)).mono ?_)
  rintro e w25 hq9
  obtain ⟨mB, mxO, mxL, mxC, myO, myL, myC, rfl, hS, hmx, hmy, hm, hb⟩ := hq9.out
  have HmS := Lib.hid hS; clear hS
  replace hba := hba.kept hb
  replace hbv := hbv.kept hb
  replace hbc := hbc.kept hb
  replace hbq := hbq.kept hb
  replace hbz := hbz.kept hb
  replace hax := hax.below hb
  replace hay := hay.below hb
  replace ha := ha.below hb
  replace hvx := hvx.below hb
  replace hvy := hvy.below hb
  replace hv := hv.below hb
  replace hcx := hcx.below hb
  replace hcy := hcy.below hb
  replace hc := hc.below hb
  replace hqx := hqx.below hb
  replace hqy := hqy.below hb
  replace hq := hq.below hb
  replace hdx := hdx.below hb
  replace hdy := hdy.below hb
  replace hd := hd.below hb
  replace hex := hex.below hb
  replace hey := hey.below hb
  replace he := he.below hb
  replace hfx := hfx.below hb
  replace hfy := hfy.below hb
  replace hf := hf.below hb
  replace hgx := hgx.below hb
  replace hgy := hgy.below hb
  replace hg := hg.below hb
  replace hhx := hhx.below hb
  replace hhy := hhy.below hb
  replace hh := hh.below hb
  replace hix := hix.below hb
  replace hiy := hiy.below hb
  replace hi := hi.below hb
  replace hjx := hjx.below hb
  replace hjy := hjy.below hb
  replace hj := hj.below hb
  replace hkx := hkx.below hb
  replace hky := hky.below hb
  replace hk := hk.below hb
  replace hlx := hlx.below hb
  replace hly := hly.below hb
  replace hl := hl.below hb
  replace hbf := hbf.trans (hb.mono hbf.size)
  clear hb
  first | refine hK.out _ _ ⟨hba, hbv, hbc, hbz, hbq⟩ (fun _ => ?_) | (go_wp2_with fail; refine hK.out _ _ ⟨hba, hbv, hbc, hbz, hbq⟩ (fun _ => ?_))
  clear hK K
  (try simp only [Act.put, List.setIfInBounds_toArray, List.set_cons_zero, List.set_cons_succ])
  refine seq_step (by rfl) (fun K hK => ?_)
  go_simp
  go_at_call 16
  (with_reducible refine (of_q 1 _ (by decide) (by decide)).mono ?_)
  rintro e w26 hq9
  obtain ⟨nB, nxO, nxL, nxC, nyO, nyL, nyC, rfl, hS, hnx, hny, hn, hb⟩ := hq9.out
  have HnS := Lib.hid hS; clear hS
  replace hba := hba.kept hb
  replace hbv := hbv.kept hb
  replace hbc := hbc.kept hb
  replace hbq := hbq.kept hb
  replace hbz := hbz.kept hb
  replace hax := hax.below hb
  replace hay := hay.below hb
  replace ha := ha.below hb
  replace hvx := hvx.below hb
  replace hvy := hvy.below hb
  replace hv := hv.below hb
  replace hcx := hcx.below hb
  replace hcy := hcy.below hb
  replace hc := hc.below hb
  replace hqx := hqx.below hb
  replace hqy := hqy.below hb
  replace hq := hq.below hb
  replace hdx := hdx.below hb
  replace hdy := hdy.below hb
  replace hd := hd.below hb
  replace hex := hex.below hb
  replace hey := hey.below hb
  replace he := he.below hb
  replace hfx := hfx.below hb
  replace hfy := hfy.below hb
  replace hf := hf.below hb
  replace hgx := hgx.below hb
  replace hgy := hgy.below hb
  replace hg := hg.below hb
  replace hhx := hhx.below hb
  replace hhy := hhy.below hb
  replace hh := hh.below hb
  replace hix := hix.below hb
  replace hiy := hiy.below hb
  replace hi := hi.below hb
  replace hjx := hjx.below hb
  replace hjy := hjy.below hb
  replace hj := hj.below hb
  replace hkx := hkx.below hb
  replace hky := hky.below hb
  replace hk := hk.below hb
  replace hlx := hlx.below hb
  replace hly := hly.below hb
  replace hl := hl.below hb
  replace hmx := hmx.below hb
  replace hmy := hmy.below hb
  replace hm := hm.below hb
  replace hbf := hbf.trans (hb.mono hbf.size)
  clear hb
  first | refine hK.out _ _ ⟨hba, hbv, hbc, hbz, hbq⟩ (fun _ => ?_) | (go_wp2_with fail; refine hK.out _ _ ⟨hba, hbv, hbc, hbz, hbq⟩ (fun _ => ?_))
  clear hK K
  (try simp only [Act.put, List.setIfInBounds_toArray, List.set_cons_zero, List.set_cons_succ])
  refine seq_step (by rfl) (fun K hK => ?_)
  go_simp
  go_at_call 33
  (with_reducible refine (qadd_any _ _ _ _ 102 2 _ hm hn Qfl hq1 (by decide)).mono ?_)
  rintro e w27 hq9
  obtain ⟨oB, oxO, oxL, oxC, oyO, oyL, oyC, rfl, hS, hox, hoy, ho, hb⟩ := hq9.out
  have HoS := Lib.hid hS; clear hS
  replace hba := hba.kept hb
  replace hbv := hbv.kept hb
  replace hbc := hbc.kept hb
  replace hbq := hbq.kept hb
  replace hbz := hbz.kept hb
  replace hax := hax.below hb
  replace hay := hay.below hb
  replace ha := ha.below hb
  replace hvx := hvx.below hb
  replace hvy := hvy.below hb
  replace hv := hv.below hb
  replace hcx := hcx.below hb
  replace hcy := hcy.below hb
  replace hc := hc.below hb
  replace hqx := hqx.below hb
  replace hqy := hqy.below hb
  replace hq := hq.below hb
  replace hdx := hdx.below hb
  replace hdy := hdy.below hb
  replace hd := hd.below hb
  replace hex := hex.below hb
  replace hey := hey.below hb
  replace he := he.below hb
  replace hfx := hfx.below hb
  replace hfy := hfy.below hb
  replace hf := hf.below hb
  replace hgx := hgx.below hb
  replace hgy := hgy.below hb
  replace hg := hg.below hb
  replace hhx := hhx.below hb
  replace hhy := hhy.below hb
  replace hh := hh.below hb
  replace hix := hix.below hb
  replace hiy := hiy.below hb
  replace hi := hi.below hb
  replace hjx := hjx.below hb
  replace hjy := hjy.below hb
  replace hj := hj.below hb
  replace hkx := hkx.below hb
  replace hky := hky.below hb
  replace hk := hk.below hb
  replace hlx := hlx.below hb
  replace hly := hly.below hb
  replace hl := hl.below hb
  replace hmx := hmx.below hb
  replace hmy := hmy.below hb
  replace hm := hm.below hb
  replace hnx := hnx.below hb
  replace hny := hny.below hb
  replace hn := hn.below hb
  replace hbf := hbf.trans (hb.mono hbf.size)
  clear hb
  first | refine hK.out _ _ ⟨hba, hbv, hbc, hbz, hbq⟩ (fun _ => ?_) | (go_wp2_with fail; refine hK.out _ _ ⟨hba, hbv, hbc, hbz, hbq⟩ (fun _ => ?_))
  clear hK K
  (try simp only [Act.put, List.setIfInBounds_toArray, List.set_cons_zero, List.set_cons_succ])
  refine seq_step (by rfl) (fun K hK => ?_)
  go_simp
  go_at_call 28
  (with_reducible refine (cmp_c _ _ a _ (-1) 101 105 _ ha ho hqa Qfl1 (by decide) C2).mono ?_)
  rintro e w28 ⟨rfl, hb⟩
  replace hba := hba.kept hb
  replace hbv := hbv.kept hb
  replace hbc := hbc.kept hb
  replace hbq := hbq.kept hb
  replace hbz := hbz.kept hb
  replace hax := hax.below hb
  replace hay := hay.below hb
  replace ha := ha.below hb
  replace hvx := hvx.below hb
  replace hvy := hvy.below hb
  replace hv := hv.below hb
  replace hcx := hcx.below hb
  replace hcy := hcy.below hb
  replace hc := hc.below hb
  replace hqx := hqx.below hb
  replace hqy := hqy.below hb
  replace hq := hq.below hb
  replace hdx := hdx.below hb
  replace hdy := hdy.below hb
  replace hd := hd.below hb
  replace hex := hex.below hb
  replace hey := hey.below hb
  replace he := he.below hb
  replace hfx := hfx.below hb
  replace hfy := hfy.below hb
  replace hf := hf.below hb
  replace hgx := hgx.below hb
  replace hgy := hgy.below hb
  replace hg := hg.below hb
  replace hhx := hhx.below hb
  replace hhy := hhy.below hb
  replace hh := hh.below hb
  replace hix := hix.below hb
  replace hiy := hiy.below hb
  replace hi := hi.below hb
  replace hjx := hjx.below hb
  replace hjy := hjy.below hb
  replace hj := hj.below hb
  replace hkx := hkx.below hb
  replace hky := hky.below hb
  replace hk := hk.below hb
  replace hlx := hlx.below hb
  replace hly := hly.below hb
  replace hl := hl.below hb
  replace hmx := hmx.below hb
  replace hmy := hmy.below hb
  replace hm := hm.below hb
  replace hnx := hnx.below hb
  replace hny := hny.below hb
  replace hn := hn.below hb
  replace hox := hox.below hb
  replace hoy := hoy.below hb
  replace ho := ho.below hb
  replace hbf := hbf.trans (hb.mono hbf.size)
  clear hb
  first | refine hK.out _ _ ⟨hba, hbv, hbc, hbz, hbq⟩ (fun _ => ?_) | (go_wp2_with fail; refine hK.out _ _ ⟨hba, hbv, hbc, hbz, hbq⟩ (fun _ => ?_))
  clear hK K
  (try simp only [Act.put, List.setIfInBounds_toArray, List.set_cons_zero, List.set_cons_succ])
  repeat (first | (refine seq_take (v := ?_) (by rfl) ?_ ?_; rotate_left; (· intro w hSw; (try dsimp only at hSw); obtain ⟨⟨ea0, ea1, ea2, _, _, _⟩, ⟨ev0, ev1, ev2, _, _, _⟩, ⟨ec0, ec1, ec2, _, _, _⟩, ⟨ez0, ez1, ez2, _, _, _⟩, ⟨eq0, eq1, eq2, _, _, _⟩⟩ := hSw; go_simp; all_goals with_reducible rfl); (try simp only [Act.put, List.setIfInBounds_toArray, List.set_cons_zero, List.set_cons_succ])) | (refine seq_leave (by rfl) ?_; (try simp only [Act.put, List.setIfInBounds_toArray, List.set_cons_zero, List.set_cons_succ])))
  refine seq_step (by rfl) (fun K hK => ?_)
  go_simp
  go_at_call 30
  (with_reducible refine (ceil_any _ a 101 _ ha hqa (by decide) (by decide)).mono ?_)
  rintro e w29 hq9
  obtain ⟨pB, pxO, pxL, pxC, pyO, pyL, pyC, rfl, hS, hpx, hpy, hp, hb⟩ := hq9.out
  have HpS := Lib.hid hS; clear hS
  replace hba := hba.kept hb
  replace hbv := hbv.kept hb
  replace hbc := hbc.kept hb
  replace hbq := hbq.kept hb
  replace hbz := hbz.kept hb
  replace hax := hax.below hb
  replace hay := hay.below hb
  replace ha := ha.below hb
  replace hvx := hvx.below hb
  replace hvy := hvy.below hb
  replace hv := hv.below hb
  replace hcx := hcx.below hb
  replace hcy := hcy.below hb
  replace hc := hc.below hb
  replace hqx := hqx.below hb
  replace hqy := hqy.below hb
  replace hq := hq.below hb
  replace hdx := hdx.below hb
  replace hdy := hdy.below hb
  replace hd := hd.below hb
  replace hex := hex.below hb
  replace hey := hey.below hb
  replace he := he.below hb
  replace hfx := hfx.below hb
  replace hfy := hfy.below hb
  replace hf := hf.below hb
  replace hgx := hgx.below hb
  replace hgy := hgy.below hb
  replace hg := hg.below hb
  replace hhx := hhx.below hb
  replace hhy := hhy.below hb
  replace hh := hh.below hb
  replace hix := hix.below hb
  replace hiy := hiy.below hb
  replace hi := hi.below hb
  replace hjx := hjx.below hb
  replace hjy := hjy.below hb
  replace hj := hj.below hb
  replace hkx := hkx.below hb
  replace hky := hky.below hb
  replace hk := hk.below hb
  replace hlx := hlx.below hb
  replace hly := hly.below hb
  replace hl := hl.below hb
  replace hmx := hmx.below hb
  replace hmy := hmy.below hb
  replace hm := hm.below hb
  replace hnx := hnx.below hb
  replace hny := hny.below hb
  replace hn := hn.below hb
  replace hox := hox.below hb
  replace hoy := hoy.below hb
  replace ho := ho.below hb
  replace hbf := hbf.trans (hb.mono hbf.size)
  clear hb
  first | refine hK.out _ _ ⟨hba, hbv, hbc, hbz, hbq⟩ (fun _ => ?_) | (go_wp2_with fail; refine hK.out _ _ ⟨hba, hbv, hbc, hbz, hbq⟩ (fun _ => ?_))
  clear hK K
  (try simp only [Act.put, List.setIfInBounds_toArray, List.set_cons_zero, List.set_cons_succ])
  refine seq_step (by rfl) (fun K hK => ?_)
  go_simp
  go_at_call 28
  (with_reducible refine (cmp_c _ _ _ a c3 102 101 _ hp ha Qcl hqa (by decide) C3).mono ?_)
  rintro e w30 ⟨rfl, hb⟩
  replace hba := hba.kept hb
  replace hbv := hbv.kept hb
  replace hbc := hbc.kept hb
  replace hbq := hbq.kept hb
  replace hbz := hbz.kept hb
  replace hax := hax.below hb
  replace hay := hay.below hb
  replace ha := ha.below hb
  replace hvx := hvx.below hb
  replace hvy := hvy.below hb
  replace hv := hv.below hb
  replace hcx := hcx.below hb
  replace hcy := hcy.below hb
  replace hc := hc.below hb
  replace hqx := hqx.below hb
  replace hqy := hqy.below hb
  replace hq := hq.below hb
  replace hdx := hdx.below hb
  replace hdy := hdy.below hb
  replace hd := hd.below hb
  replace hex := hex.below hb
  replace hey := hey.below hb
  replace he := he.below hb
  replace hfx := hfx.below hb
  replace hfy := hfy.below hb
  replace hf := hf.below hb
  replace hgx := hgx.below hb
  replace hgy := hgy.below hb
  replace hg := hg.below hb
  replace hhx := hhx.below hb
  replace hhy := hhy.below hb
  replace hh := hh.below hb
  replace hix := hix.below hb
  replace hiy := hiy.below hb
  replace hi := hi.below hb
  replace hjx := hjx.below hb
  replace hjy := hjy.below hb
  replace hj := hj.below hb
  replace hkx := hkx.below hb
  replace hky := hky.below hb
  replace hk := hk.below hb
  replace hlx := hlx.below hb
  replace hly := hly.below hb
  replace hl := hl.below hb
  replace hmx := hmx.below hb
  replace hmy := hmy.below hb
  replace hm := hm.below hb
  replace hnx := hnx.below hb
  replace hny := hny.below hb
  replace hn := hn.below hb
  replace hox := hox.below hb
  replace hoy := hoy.below hb
  replace ho := ho.below hb
  replace hpx := hpx.below hb
  replace hpy := hpy.below hb
  replace hp := hp.below hb
  replace hbf := hbf.trans (hb.mono hbf.size)
  clear hb
  first | refine hK.out _ _ ⟨hba, hbv, hbc, hbz, hbq⟩ (fun _ => ?_) | (go_wp2_with fail; refine hK.out _ _ ⟨hba, hbv, hbc, hbz, hbq⟩ (fun _ => ?_))
  clear hK K
  (try simp only [Act.put, List.setIfInBounds_toArray, List.set_cons_zero, List.set_cons_succ])
  repeat (first | (refine seq_take (v := ?_) (by rfl) ?_ ?_; rotate_left; (· intro w hSw; (try dsimp only at hSw); obtain ⟨⟨ea0, ea1, ea2, _, _, _⟩, ⟨ev0, ev1, ev2, _, _, _⟩, ⟨ec0, ec1, ec2, _, _, _⟩, ⟨ez0, ez1, ez2, _, _, _⟩, ⟨eq0, eq1, eq2, _, _, _⟩⟩ := hSw; go_simp; all_goals with_reducible rfl); (try simp only [Act.put, List.setIfInBounds_toArray, List.set_cons_zero, List.set_cons_succ])) | (refine seq_leave (by rfl) ?_; (try simp only [Act.put, List.setIfInBounds_toArray, List.set_cons_zero, List.set_cons_succ])))
  refine seq_step (by rfl) (fun K hK => ?_)
  go_simp
  go_at_call 25
  (with_reducible refine (qsub_any _ _ a a 101 101 _ ha ha hqa hqa (by decide)).mono ?_)
  rintro e w31 hq9
  obtain ⟨rB, rxO, rxL, rxC, ryO, ryL, ryC, rfl, hS, hrx, hry, hr, hb⟩ := hq9.out
  have HrS := Lib.hid hS; clear hS
  replace hba := hba.kept hb
  replace hbv := hbv.kept hb
  replace hbc := hbc.kept hb
  replace hbq := hbq.kept hb
  replace hbz := hbz.kept hb
  replace hax := hax.below hb
  replace hay := hay.below hb
  replace ha := ha.below hb
  replace hvx := hvx.below hb
  replace hvy := hvy.below hb
  replace hv := hv.below hb
  replace hcx := hcx.below hb
  replace hcy := hcy.below hb
  replace hc := hc.below hb
  replace hqx := hqx.below hb
  replace hqy := hqy.below hb
  replace hq := hq.below hb
  replace hdx := hdx.below hb
  replace hdy := hdy.below hb
  replace hd := hd.below hb
  replace hex := hex.below hb
  replace hey := hey.below hb
  replace he := he.below hb
  replace hfx := hfx.below hb
  replace hfy := hfy.below hb
  replace hf := hf.below hb
  replace hgx := hgx.below hb
  replace hgy := hgy.below hb
  replace hg := hg.below hb
  replace hhx := hhx.below hb
  replace hhy := hhy.below hb
  replace hh := hh.below hb
  replace hix := hix.below hb
  replace hiy := hiy.below hb
  replace hi := hi.below hb
  replace hjx := hjx.below hb
  replace hjy := hjy.below hb
  replace hj := hj.below hb
  replace hkx := hkx.below hb
  replace hky := hky.below hb
  replace hk := hk.below hb
  replace hlx := hlx.below hb
  replace hly := hly.below hb
  replace hl := hl.below hb
  replace hmx := hmx.below hb
  replace hmy := hmy.below hb
  replace hm := hm.below hb
  replace hnx := hnx.below hb
  replace hny := hny.below hb
  replace hn := hn.below hb
  replace hox := hox.below hb
  replace hoy := hoy.below hb
  replace ho := ho.below hb
  replace hpx := hpx.below hb
  replace hpy := hpy.below hb
  replace hp := hp.below hb
  replace hbf := hbf.trans (hb.mono hbf.size)
  clear hb
  first | refine hK.out _ _ ⟨hba, hbv, hbc, hbz, hbq⟩ (fun _ => ?_) | (go_wp2_with fail; refine hK.out _ _ ⟨hba, hbv, hbc, hbz, hbq⟩ (fun _ => ?_))
  clear hK K
  (try simp only [Act.put, List.setIfInBounds_toArray, List.set_cons_zero, List.set_cons_succ])
  refine seq_step (by rfl) (fun K hK => ?_)
  go_simp
  go_at_call 20
  (with_reducible refine (same_eq _ _ _ 0 203 1 _ hr (QIs.zero _) Qself hq0 (by decide) L4).mono ?_)
  rintro e w32 ⟨rfl, hb⟩
  replace hba := hba.kept hb
  replace hbv := hbv.kept hb
  replace hbc := hbc.kept hb
  replace hbq := hbq.kept hb
  replace hbz := hbz.kept hb
  replace hax := hax.below hb
  replace hay := hay.below hb
  replace ha := ha.below hb
  replace hvx := hvx.below hb
  replace hvy := hvy.below hb
  replace hv := hv.below hb
  replace hcx := hcx.below hb
  replace hcy := hcy.below hb
  replace hc := hc.below hb
  replace hqx := hqx.below hb
  replace hqy := hqy.below hb
  replace hq := hq.below hb
  replace hdx := hdx.below hb
  replace hdy := hdy.below hb
  replace hd := hd.below hb
  replace hex := hex.below hb
  replace hey := hey.below hb
  replace he := he.below hb
  replace hfx := hfx.below hb
  replace hfy := hfy.below hb
  replace hf := hf.below hb
  replace hgx := hgx.below hb
  replace hgy := hgy.below hb
  replace hg := hg.below hb
  replace hhx := hhx.below hb
  replace hhy := hhy.below hb
  replace hh := hh.below hb
  replace hix := hix.below hb
  replace hiy := hiy.below hb
  replace hi := hi.below hb
  replace hjx := hjx.below hb
  replace hjy := hjy.below hb
  replace hj := hj.below hb
  replace hkx := hkx.below hb
  replace hky := hky.below hb
  replace hk := hk.below hb
  replace hlx := hlx.below hb
  replace hly := hly.below hb
  replace hl := hl.below hb
  replace hmx := hmx.below hb
  replace hmy := hmy.below hb
  replace hm := hm.below hb
  replace hnx := hnx.below hb
  replace hny := hny.below hb
  replace hn := hn.below hb
  replace hox := hox.below hb
  replace hoy := hoy.below hb
  replace ho := ho.below hb
  replace hpx := hpx.below hb
  replace hpy := hpy.below hb
  replace hp := hp.below hb
  replace hrx := hrx.below hb
  replace hry := hry.below hb
  replace hr := hr.below hb
  replace hbf := hbf.trans (hb.mono hbf.size)
  clear hb
  first | refine hK.out _ _ ⟨hba, hbv, hbc, hbz, hbq⟩ (fun _ => ?_) | (go_wp2_with fail; refine hK.out _ _ ⟨hba, hbv, hbc, hbz, hbq⟩ (fun _ => ?_))
  clear hK K
  (try simp only [Act.put, List.setIfInBounds_toArray, List.set_cons_zero, List.set_cons_succ])
  repeat (first | (refine seq_take (v := ?_) (by rfl) ?_ ?_; rotate_left; (· intro w hSw; (try dsimp only at hSw); obtain ⟨⟨ea0, ea1, ea2, _, _, _⟩, ⟨ev0, ev1, ev2, _, _, _⟩, ⟨ec0, ec1, ec2, _, _, _⟩, ⟨ez0, ez1, ez2, _, _, _⟩, ⟨eq0, eq1, eq2, _, _, _⟩⟩ := hSw; go_simp; all_goals with_reducible rfl); (try simp only [Act.put, List.setIfInBounds_toArray, List.set_cons_zero, List.set_cons_succ])) | (refine seq_leave (by rfl) ?_; (try simp only [Act.put, List.setIfInBounds_toArray, List.set_cons_zero, List.set_cons_succ])))
  refine seq_step (by rfl) (fun K hK => ?_)
  go_simp
  go_at_call 28
  (with_reducible refine (cmp_c _ _ a b c4 101 101 _ ha hv hqa hqb (by decide) C4).mono ?_)
  rintro e w33 ⟨rfl, hb⟩
  replace hba := hba.kept hb
  replace hbv := hbv.kept hb
  replace hbc := hbc.kept hb
  replace hbq := hbq.kept hb
  replace hbz := hbz.kept hb
  replace hax := hax.below hb
  replace hay := hay.below hb
  replace ha := ha.below hb
  replace hvx := hvx.below hb
  replace hvy := hvy.below hb
  replace hv := hv.below hb
  replace hcx := hcx.below hb
  replace hcy := hcy.below hb
  replace hc := hc.below hb
  replace hqx := hqx.below hb
  replace hqy := hqy.below hb
  replace hq := hq.below hb
  replace hdx := hdx.below hb
  replace hdy := hdy.below hb
  replace hd := hd.below hb
  replace hex := hex.below hb
  replace hey := hey.below hb
  replace he := he.below hb
  replace hfx := hfx.below hb
  replace hfy := hfy.below hb
  replace hf := hf.below hb
  replace hgx := hgx.below hb
  replace hgy := hgy.below hb
  replace hg := hg.below hb
  replace hhx := hhx.below hb
  replace hhy := hhy.below hb
  replace hh := hh.below hb
  replace hix := hix.below hb
  replace hiy := hiy.below hb
  replace hi := hi.below hb
  replace hjx := hjx.below hb
  replace hjy := hjy.below hb
  replace hj := hj.below hb
  replace hkx := hkx.below hb
  replace hky := hky.below hb
  replace hk := hk.below hb
  replace hlx := hlx.below hb
  replace hly := hly.below hb
  replace hl := hl.below hb
  replace hmx := hmx.below hb
  replace hmy := hmy.below hb
  replace hm := hm.below hb
  replace hnx := hnx.below hb
  replace hny := hny.below hb
  replace hn := hn.below hb
  replace hox := hox.below hb
  replace hoy := hoy.below hb
  replace ho := ho.below hb
  replace hpx := hpx.below hb
  replace hpy := hpy.below hb
  replace hp := hp.below hb
  replace hrx := hrx.below hb
  replace hry := hry.below hb
  replace hr := hr.below hb
  replace hbf := hbf.trans (hb.mono hbf.size)
  clear hb
  first | refine hK.out _ _ ⟨hba, hbv, hbc, hbz, hbq⟩ (fun _ => ?_) | (go_wp2_with fail; refine hK.out _ _ ⟨hba, hbv, hbc, hbz, hbq⟩ (fun _ => ?_))
  clear hK K
  (try simp only [Act.put, List.setIfInBounds_toArray, List.set_cons_zero, List.set_cons_succ])
  repeat (first | (refine seq_take (v := ?_) (by rfl) ?_ ?_; rotate_left; (· intro w hSw; (try dsimp only at hSw); obtain ⟨⟨ea0, ea1, ea2, _, _, _⟩, ⟨ev0, ev1, ev2, _, _, _⟩, ⟨ec0, ec1, ec2, _, _, _⟩, ⟨ez0, ez1, ez2, _, _, _⟩, ⟨eq0, eq1, eq2, _, _, _⟩⟩ := hSw; go_simp; all_goals with_reducible rfl); (try simp only [Act.put, List.setIfInBounds_toArray, List.set_cons_zero, List.set_cons_succ])) | (refine seq_leave (by rfl) ?_; (try simp only [Act.put, List.setIfInBounds_toArray, List.set_cons_zero, List.set_cons_succ])))
  refine seq_step (by rfl) (fun K hK => ?_)
  go_simp
  go_at_call 25
  (with_reducible refine (qsub_any _ _ a b 101 101 _ ha hv hqa hqb (by decide)).mono ?_)
  rintro e w34 hq9
  obtain ⟨sB, sxO, sxL, sxC, syO, syL, syC, rfl, hS, hsx, hsy, hs, hb⟩ := hq9.out
  have HsS := Lib.hid hS; clear hS
  replace hba := hba.kept hb
  replace hbv := hbv.kept hb
  replace hbc := hbc.kept hb
  replace hbq := hbq.kept hb
  replace hbz := hbz.kept hb
  replace hax := hax.below hb
  replace hay := hay.below hb
  replace ha := ha.below hb
  replace hvx := hvx.below hb
  replace hvy := hvy.below hb
  replace hv := hv.below hb
  replace hcx := hcx.below hb
  replace hcy := hcy.below hb
  replace hc := hc.below hb
  replace hqx := hqx.below hb
  replace hqy := hqy.below hb
  replace hq := hq.below hb
  replace hdx := hdx.below hb
  replace hdy := hdy.below hb
  replace hd := hd.below hb
  replace hex := hex.below hb
  replace hey := hey.below hb
  replace he := he.below hb
  replace hfx := hfx.below hb
  replace hfy := hfy.below hb
  replace hf := hf.below hb
  replace hgx := hgx.below hb
  replace hgy := hgy.below hb
  replace hg := hg.below hb
  replace hhx := hhx.below hb
  replace hhy := hhy.below hb
  replace hh := hh.below hb
  replace hix := hix.below hb
  replace hiy := hiy.below hb
  replace hi := hi.below hb
  replace hjx := hjx.below hb
  replace hjy := hjy.below hb
  replace hj := hj.below hb
  replace hkx := hkx.below hb
  replace hky := hky.below hb
  replace hk := hk.below hb
  replace hlx := hlx.below hb
  replace hly := hly.below hb
  replace hl := hl.below hb
  replace hmx := hmx.below hb
  replace hmy := hmy.below hb
  replace hm := hm.below hb
  replace hnx := hnx.below hb
  replace hny := hny.below hb
  replace hn := hn.below hb
  replace hox := hox.below hb
  replace hoy := hoy.below hb
  replace ho := ho.below hb
  replace hpx := hpx.below hb
  replace hpy := hpy.below hb
  replace hp := hp.below hb
  replace hrx := hrx.below hb
  replace hry := hry.below hb
  replace hr := hr.below hb
  replace hbf := hbf.trans (hb.mono hbf.size)
  clear hb
  first | refine hK.out _ _ ⟨hba, hbv, hbc, hbz, hbq⟩ (fun _ => ?_) | (go_wp2_with fail; refine hK.out _ _ ⟨hba, hbv, hbc, hbz, hbq⟩ (fun _ => ?_))
  clear hK K
  (try simp only [Act.put, List.setIfInBounds_toArray, List.set_cons_zero, List.set_cons_succ])
  refine seq_step (by rfl) (fun K hK => ?_)
  go_simp
  go_at_call 28
  (with_reducible refine (cmp_c _ _ _ 0 c4 203 1 _ hs (QIs.zero _) Qsub hq0 (by decide) C5).mono ?_)
  rintro e w35 ⟨rfl, hb⟩
  replace hba := hba.kept hb
  replace hbv := hbv.kept hb
  replace hbc := hbc.kept hb
  replace hbq := hbq.kept hb
  replace hbz := hbz.kept hb
  replace hax := hax.below hb
  replace hay := hay.below hb
  replace ha := ha.below hb
  replace hvx := hvx.below hb
  replace hvy := hvy.below hb
  replace hv := hv.below hb
  replace hcx := hcx.below hb
  replace hcy := hcy.below hb
  replace hc := hc.below hb
  replace hqx := hqx.below hb
  replace hqy := hqy.below hb
  replace hq := hq.below hb
  replace hdx := hdx.below hb
  replace hdy := hdy.below hb
  replace hd := hd.below hb
  replace hex := hex.below hb
  replace hey := hey.below hb
  replace he := he.below hb
  replace hfx := hfx.below hb
  replace hfy := hfy.below hb
  replace hf := hf.below hb
  replace hgx := hgx.below hb
  replace hgy := hgy.below hb
  replace hg := hg.below hb
  replace hhx := hhx.below hb
  replace hhy := hhy.below hb
  replace hh := hh.below hb
  replace hix := hix.below hb
  replace hiy := hiy.below hb
  replace hi := hi.below hb
  replace hjx := hjx.below hb
  replace hjy := hjy.below hb
  replace hj := hj.below hb
  replace hkx := hkx.below hb
  replace hky := hky.below hb
  replace hk := hk.below hb
  replace hlx := hlx.below hb
  replace hly := hly.below hb
  replace hl := hl.below hb
  replace hmx := hmx.below hb
  replace hmy := hmy.below hb
  replace hm := hm.below hb
  replace hnx := hnx.below hb
  replace hny := hny.below hb
  replace hn := hn.below hb
  replace hox := hox.below hb
  replace hoy := hoy.below hb
  replace ho := ho.below hb
  replace hpx := hpx.below hb
  replace hpy := hpy.below hb
  replace hp := hp.below hb
  replace hrx := hrx.below hb
  replace hry := hry.below hb
  replace hr := hr.below hb
  replace hsx := hsx.below hb
  replace hsy := hsy.below hb
  replace hs := hs.below hb
  replace hbf := hbf.trans (hb.mono hbf.size)
  clear hb
  first | refine hK.out _ _ ⟨hba, hbv, hbc, hbz, hbq⟩ (fun _ => ?_) | (go_wp2_with fail; refine hK.out _ _ ⟨hba, hbv, hbc, hbz, hbq⟩ (fun _ => ?_))
  clear hK K
  (try simp only [Act.put, List.setIfInBounds_toArray, List.set_cons_zero, List.set_cons_succ])
  repeat (first | (refine seq_take (v := ?_) (by rfl) ?_ ?_; rotate_left; (· intro w hSw; (try dsimp only at hSw); obtain ⟨⟨ea0, ea1, ea2, _, _, _⟩, ⟨ev0, ev1, ev2, _, _, _⟩, ⟨ec0, ec1, ec2, _, _, _⟩, ⟨ez0, ez1, ez2, _, _, _⟩, ⟨eq0, eq1, eq2, _, _, _⟩⟩ := hSw; go_simp; all_goals with_reducible rfl); (try simp only [Act.put, List.setIfInBounds_toArray, List.set_cons_zero, List.set_cons_succ])) | (refine seq_leave (by rfl) ?_; (try simp only [Act.put, List.setIfInBounds_toArray, List.set_cons_zero, List.set_cons_succ])))
  refine seq_step (by rfl) (fun K hK => ?_)
  go_simp
  go_at_call 28
  (with_reducible refine (cmp_c _ _ a b c4 101 101 _ ha hv hqa hqb (by decide) C4).mono ?_)
  rintro e w36 ⟨rfl, hb⟩
  replace hba := hba.kept hb
  replace hbv := hbv.kept hb
  replace hbc := hbc.kept hb
  replace hbq := hbq.kept hb
  replace hbz := hbz.kept hb
  replace hax := hax.below hb
  replace hay := hay.below hb
  replace ha := ha.below hb
  replace hvx := hvx.below hb
  replace hvy := hvy.below hb
  replace hv := hv.below hb
  replace hcx := hcx.below hb
  replace hcy := hcy.below hb
  replace hc := hc.below hb
  replace hqx := hqx.below hb
  replace hqy := hqy.below hb
  replace hq := hq.below hb
  replace hdx := hdx.below hb
  replace hdy := hdy.below hb
  replace hd := hd.below hb
  replace hex := hex.below hb
  replace hey := hey.below hb
  replace he := he.below hb
  replace hfx := hfx.below hb
  replace hfy := hfy.below hb
  replace hf := hf.below hb
  replace hgx := hgx.below hb
  replace hgy := hgy.below hb
  replace hg := hg.below hb
  replace hhx := hhx.below hb
  replace hhy := hhy.below hb
  replace hh := hh.below hb
  replace hix := hix.below hb
  replace hiy := hiy.below hb
  replace hi := hi.below hb
  replace hjx := hjx.below hb
  replace hjy := hjy.below hb
  replace hj := hj.below hb
  replace hkx := hkx.below hb
  replace hky := hky.below hb
  replace hk := hk.below hb
  replace hlx := hlx.below hb
  replace hly := hly.below hb
  replace hl := hl.below hb
  replace hmx := hmx.below hb
  replace hmy := hmy.below hb
  replace hm := hm.below hb
  replace hnx := hnx.below hb
  replace hny := hny.below hb
  replace hn := hn.below hb
  replace hox := hox.below hb
  replace hoy := hoy.below hb
  replace ho := ho.below hb
  replace hpx := hpx.below hb
  replace hpy := hpy.below hb
  replace hp := hp.below hb
  replace hrx := hrx.below hb
  replace hry := hry.below hb
  replace hr := hr.below hb
  replace hsx := hsx.below hb
  replace hsy := hsy.below hb
  replace hs := hs.below hb
  replace hbf := hbf.trans (hb.mono hbf.size)
  clear hb
  first | refine hK.out _ _ ⟨hba, hbv, hbc, hbz, hbq⟩ (fun _ => ?_) | (go_wp2_with fail; refine hK.out _ _ ⟨hba, hbv, hbc, hbz, hbq⟩ (fun _ => ?_))
  clear hK K
  (try simp only [Act.put, List.setIfInBounds_toArray, List.set_cons_zero, List.set_cons_succ])
  refine seq_step (by rfl) (fun K hK => ?_)
  go_simp
  go_at_call 28
  (with_reducible refine (cmp_c _ _ b a (-c4) 101 101 _ hv ha hqb hqa (by decide) C6).mono ?_)
  rintro e w37 ⟨rfl, hb⟩
  replace hba := hba.kept hb
  replace hbv := hbv.kept hb
  replace hbc := hbc.kept hb
  replace hbq := hbq.kept hb
  replace hbz := hbz.kept hb
  replace hax := hax.below hb
  replace hay := hay.below hb
  replace ha := ha.below hb
  replace hvx := hvx.below hb
  replace hvy := hvy.below hb
  replace hv := hv.below hb
  replace hcx := hcx.below hb
  replace hcy := hcy.below hb
  replace hc := hc.below hb
  replace hqx := hqx.below hb
  replace hqy := hqy.below hb
  replace hq := hq.below hb
  replace hdx := hdx.below hb
  replace hdy := hdy.below hb
  replace hd := hd.below hb
  replace hex := hex.below hb
  replace hey := hey.below hb
  replace he := he.below hb
  replace hfx := hfx.below hb
  replace hfy := hfy.below hb
  replace hf := hf.below hb
  replace hgx := hgx.below hb
  replace hgy := hgy.below hb
  replace hg := hg.below hb
  replace hhx := hhx.below hb
  replace hhy := hhy.below hb
  replace hh := hh.below hb
  replace hix := hix.below hb
  replace hiy := hiy.below hb
  replace hi := hi.below hb
  replace hjx := hjx.below hb
  replace hjy := hjy.below hb
  replace hj := hj.below hb
  replace hkx := hkx.below hb
  replace hky := hky.below hb
  replace hk := hk.below hb
  replace hlx := hlx.below hb
  replace hly := hly.below hb
  replace hl := hl.below hb
  replace hmx := hmx.below hb
  replace hmy := hmy.below hb
  replace hm := hm.below hb
  replace hnx := hnx.below hb
  replace hny := hny.below hb
  replace hn := hn.below hb
  replace hox := hox.below hb
  replace hoy := hoy.below hb
  replace ho := ho.below hb
  replace hpx := hpx.below hb
  replace hpy := hpy.below hb
  replace hp := hp.below hb
  replace hrx := hrx.below hb
  replace hry := hry.below hb
  replace hr := hr.below hb
  replace hsx := hsx.below hb
  replace hsy := hsy.below hb
  replace hs := hs.below hb
  replace hbf := hbf.trans (hb.mono hbf.size)
  clear hb
  first | refine hK.out _ _ ⟨hba, hbv, hbc, hbz, hbq⟩ (fun _ => ?_) | (go_wp2_with fail; refine hK.out _ _ ⟨hba, hbv, hbc, hbz, hbq⟩ (fun _ => ?_))
  clear hK K
  (try simp only [Act.put, List.setIfInBounds_toArray, List.set_cons_zero, List.set_cons_succ])
  repeat (first | (refine seq_take (v := ?_) (by rfl) ?_ ?_; rotate_left; (· intro w hSw; (try dsimp only at hSw); obtain ⟨⟨ea0, ea1, ea2, _, _, _⟩, ⟨ev0, ev1, ev2, _, _, _⟩, ⟨ec0, ec1, ec2, _, _, _⟩, ⟨ez0, ez1, ez2, _, _, _⟩, ⟨eq0, eq1, eq2, _, _, _⟩⟩ := hSw; go_simp; all_goals with_reducible rfl); (try simp only [Act.put, List.setIfInBounds_toArray, List.set_cons_zero, List.set_cons_succ])) | (refine seq_leave (by rfl) ?_; (try simp only [Act.put, List.setIfInBounds_toArray, List.set_cons_zero, List.set_cons_succ])))
  refine seq_end ?_
  rcases CT.out with rfl | rfl | rfl
  all_goals
    go_wp2_with fail
    go_ret
    exact ⟨rfl, hbf⟩

theorem ratLaws_main (l m n : List UInt8) (w : World) (hl : l.length ≤ 100) (hm : m.length ≤ 100) (hn : n.length ≤ 100) :
    Calls Tryd.prog 6 #[.string ⟨l.toArray⟩, .string ⟨m.toArray⟩, .string ⟨n.toArray⟩] w fun e w' => e = .returned (.bool true) ∧ Below w.heap.size w w' := by
  by_cases h : qval m = 0
  · exact ratLaws_zero l m n w hl hm hn h
  · exact ratLaws_div l m n w hl hm hn h

theorem ratLaws_walk (a0 a1 a2 : ByteArray) (w0 : a0.size ≤ maxLen) (w1 : a1.size ≤ maxLen) (w2 : a2.size ≤ maxLen) (w : World) :
    Calls Tryd.prog 6 #[.string a0, .string a1, .string a2] w fun e w' => e = .returned (.bool true) ∧ Below w.heap.size w w' := by
  obtain ⟨l, rfl, _⟩ := bytes_of a0
  obtain ⟨m, rfl, _⟩ := bytes_of a1
  obtain ⟨n, rfl, _⟩ := bytes_of a2
  by_cases h : l.length ≤ 100 ∧ m.length ≤ 100 ∧ n.length ≤ 100
  · exact ratLaws_main l m n w h.1 h.2.1 h.2.2
  · exact ratLaws_early l m n w (by omega)

end Go.Proofs.YtacflncmbnildaaDoor
