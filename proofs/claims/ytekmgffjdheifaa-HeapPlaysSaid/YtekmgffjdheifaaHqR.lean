/-
  The document's heap: SetWord. Conditions: the heap reads as one.
-/
import Derived.Test.YtekmgffjdheifaaHqQ
namespace Go.Proofs.Ytekmgffjdheifaa
open Go Go.RowKit
set_option linter.unusedVariables false
set_option linter.unusedSimpArgs false
set_option maxRecDepth 100000

section
variable {col : Nat → Nat} {w w' : World} {r m gl ol cl : Nat} {H : List Th} {cs : List Value} {vs : Nat → Value}
/-- a thing's words are others -/
theorem RfIn.setWords (h : RfIn col w r m H gl ol cl cs vs) {i : Nat} (hi : i < H.length) {t : Th} (hIA : H.getD i noTh = t) {g o n c : Nat} {l' : List (UInt8 × Int)} (hv : vs i = .slice (some ⟨g, o, none⟩) n c) (hg : w.grownBy w' (some g)) (hown : Own w' 0 2 (.slice (some ⟨g, o, none⟩) n c) n (wcells l')) (hn : l'.length = n) :
    RfAt col w' r m (putTh H i { t with o := { t.o with l := l' } }) ∧ St RQ col w col w' := by
  have hcg : col g = rc i := (h.ws i hi).2 g (by rw [hv]; rfl)
  have K1 : St (fun y => y = rc i) col w col w' := St.one hg _ _ hcg
  have hne : g ≠ r := fun e => by rw [e, h.cr] at hcg; unfold rc at hcg; omega
  refine ⟨⟨gl, ol, cl, cs, _, h.put hi (h' := { t with o := { t.o with l := l' } }) (v' := vs i) (K1.mono (fun _ e => .inr e)) (h.row.grown hg (fun e => hne (Option.some.inj e).symm)) (h.own.st K1 (by unfold rc; omega)).1 (fun q j hq hj => ?_) ⟨?_, fun g' hg' => (K1.ext g' ((h.ws i hi).1.lives g' hg')).trans ((h.ws i hi).2 g' hg')⟩⟩, K1.mono (fun x hx => by rw [hx]; exact rc_RQ i)⟩
  · by_cases e : q = i
    · rw [if_pos e, e, h.at_ i j hi hj, hIA]
      rcases seven hj with rfl | rfl | rfl | rfl | rfl | rfl | rfl <;> rfl
    · rw [if_neg e]
  · rw [hv]
    show Own w' 0 2 (.slice (some ⟨g, o, none⟩) n c) l'.length (wcells l')
    rw [hn]
    exact hown
set_option maxHeartbeats 8000000 in
theorem setWordR_p (h : RfIn col w r m H gl ol cl cs vs) (k i : Int) (x : UInt8 × Int) (B : Bool) (hB : Hid (B = setIs H k i x)) (H' : List Th) (hH : Hid (H' = setH H k i x)) :
    Calls Try.prog 59 #[.pointer (some ⟨r, 0, none⟩), .int .i64 k, .int .i64 i, .agg #[.int .u8 (x.1.toNat : Int), .int .i64 x.2]] w (StepR (.bool B) H' m col w r) := by
  obtain ⟨w1, hw1⟩ : ∃ y, y = w.alloc (.cells #[.int .u8 (x.1.toNat : Int), .int .i64 x.2] 47) := ⟨_, rfl⟩
  have hb1 : Below w.heap.size w w1 := by rw [hw1]; exact (Below.refl _ _).alloc (Nat.le_refl _) _
  have HR1 : Hid (Row w1 w.heap.size 47 [.int .u8 (x.1.toNat : Int), .int .i64 x.2]) := Lib.hid (by rw [hw1]; exact Row.new w _ _)
  have HH := Lib.hid (h.fresh hb1)
  have H0 := Lib.hid h
  have HB1 := Lib.hid hb1
  obtain ⟨B1, hB1⟩ : ∃ y, y = wordIs H k i := ⟨_, rfl⟩
  obtain ⟨z, hz⟩ : ∃ y, y = wordAt H k i := ⟨_, rfl⟩
  clear h hb1
  go_enter Try.func59, Try.ntmps59
  go_upto_region 1 with fail
  rw [← hw1]
  clear hw1
  try go_frame
  have HW1 := Lib.hid hB1
  clear hB1
  go_wp2_with fail
  refine (wordR_p HH.out k i B1 HW1 z (Lib.hid hz)).mono ?_
  rintro e w2 ⟨rfl, hb2⟩
  have HR2 := Lib.hid (HR1.out.after hb2)
  have HH2 := Lib.hid (HH.out.fresh hb2)
  have HB2 := Lib.hid (HB1.out.trans (hb2.mono HB1.out.size))
  clear HR1 HH HB1 hb2 hz
  go_upto_region 2 with (refine wpL_storeRow rfl _ _ _ rfl (cs := [.int .u8 (z.1.toNat : Int), .int .i64 z.2]) rfl rfl (Row.new _ _ _) (by kernel_rfl) rfl rfl ?_; intro w3 hg3 hr3)
  have hb3 : Below w2.heap.size w2 w3 := below_grown ((Below.refl _ _).alloc (Nat.le_refl _) _) hg3 (Nat.le_refl _) (by simp)
  have HR3 := Lib.hid (HR2.out.after hb3)
  have HH3 := Lib.hid (HH2.out.fresh hb3)
  have HB3 := Lib.hid (HB2.out.trans (hb3.mono HB2.out.size))
  clear HR2 HH2 HB2 hb3 hg3 hr3
  have p0 : w3.cell? ⟨w.heap.size, 0, none⟩ = some (.int .u8 (x.1.toNat : Int)) := HR3.out.cell 0
  have p1 : w3.cell? ⟨w.heap.size, 1, none⟩ = some (.int .i64 x.2) := HR3.out.cell 1
  try go_frame
  cases B1 with
  | false =>
    have hs : setIs H k i x = false := by
      have := HW1.out
      unfold wordIs at this
      unfold setIs
      rw [← this]
      rfl
    obtain rfl : B = false := hB.out.trans hs
    obtain rfl : H' = H := by rw [hH.out, setH, hs]; rfl
    clear hs
    go_wp2_with fail
    go_ret
    exact StepR.stay H0.out.at HB3.out
  | true =>
  have hW2 : (thAt H k).is = true ∧ 0 ≤ i ∧ i < (thAt H k).o.l.length := by
    have := HW1.out.symm
    unfold wordIs at this
    simp only [Bool.and_eq_true, decide_eq_true_eq] at this
    exact this
  have hS : setIs H k i x = (wordyB x && (decide ((thAt H k).o.k = 3) || decide ((thAt H k).o.k = 4))) := by
    unfold setIs
    rw [hW2.1, decide_eq_true hW2.2]
    rfl
  have HS := Lib.hid hS
  obtain ⟨Y, hY⟩ : ∃ y, y = wordyB x := ⟨_, rfl⟩
  have hYe : Y = (decide (x.1.toNat = 1) || decide (x.1.toNat = 2)) := by rw [hY]; exact wordyB_eq x.1 x.2
  have HY0 := Lib.hid hY
  have HYE := Lib.hid hYe
  obtain ⟨p, rfl, hp, hIA⟩ := HH3.out.there hW2.1
  obtain ⟨j, rfl⟩ : ∃ j : Nat, i = j := ⟨i.toNat, by have := hW2.2.1; omega⟩
  have HPL := Lib.hid hp
  have HIA := Lib.hid hIA
  have c1 := HH3.out.c1
  have hcap := HH3.out.cap
  have hp' : (p : Int) < H.length := by omega
  obtain ⟨d0, d1, d2, d3, d4, d5, d6⟩ := HH3.out.all hp
  rw [hIA] at d0
  have hws := (HH3.out.ws p hp).1
  rw [hIA] at hws
  obtain ⟨n, hn⟩ : ∃ n, n = (thAt H (p : Nat)).o.l.length := ⟨_, rfl⟩
  rw [← hn] at hws
  have HN : Hid ((thAt H (p : Nat)).o.l.length = n) := Lib.hid hn.symm
  have hjn : j < n := by have := hW2.2.2; omega
  have hjn' : (j : Int) < n := by omega
  obtain ⟨g2, o2, cap2, he, _, _, _, _, hlen⟩ := hws.open (by omega) (by decide)
  have HV := Lib.hid he
  rw [he] at d2 hws
  have HOW := Lib.hid hws
  have hlenw : j * 2 + [Value.int .u8 (x.1.toNat : Int), .int .i64 x.2].length ≤ (wcells (thAt H (p : Nat)).o.l).length := by rw [wcells_len, HN.out]; simp only [List.length_cons, List.length_nil]; omega
  have hcapw := hws.sl.wordLen.2
  obtain ⟨q, hq⟩ : ∃ q, q = (thAt H (p : Nat)).o.k.toNat := ⟨_, rfl⟩
  have h3 : Hid ((thAt H (p : Nat)).o.k = 3 ↔ q = 3) := Lib.hid (by rw [hq]; exact u8_eq)
  have h4 : Hid ((thAt H (p : Nat)).o.k = 4 ↔ q = 4) := Lib.hid (by rw [hq]; exact u8_eq)
  rw [← hq] at d0
  clear hW2 hS hY hYe hp hIA hws he hn hq hlen
  by_cases hno : ¬ x.1.toNat = 1 ∧ ¬ x.1.toNat = 2
  · have m1 : ((x.1.toNat : Int) != 1) = true := by rw [bne_iff_ne]; omega
    have m2 : ((x.1.toNat : Int) != 2) = true := by rw [bne_iff_ne]; omega
    have hs : setIs H (p : Nat) j x = false := by rw [HS.out, ← HY0.out, HYE.out, decide_eq_false hno.1, decide_eq_false hno.2]; rfl
    obtain rfl : B = false := hB.out.trans hs
    obtain rfl : H' = H := by rw [hH.out, setH, hs]; rfl
    clear hs hno
    go_wp2_with fail
    go_ret
    exact StepR.stay H0.out.at HB3.out
  have HYT : Hid (Y = true) := Lib.hid (by
    rw [HYE.out]
    by_cases e : x.1.toNat = 1
    · rw [decide_eq_true e]; rfl
    · rw [decide_eq_true (show x.1.toNat = 2 by omega)]; simp)
  have hgo : ((x.1.toNat : Int) != 1) = false ∨ ((x.1.toNat : Int) != 1) = true ∧ ((x.1.toNat : Int) != 2) = false := by
    by_cases e3 : x.1.toNat = 1
    · left; rw [e3]; rfl
    · right; exact ⟨by rw [bne_iff_ne]; omega, by rw [show x.1.toNat = 2 by omega]; rfl⟩
  clear hno
  by_cases hnk : ¬ q = 3 ∧ ¬ q = 4
  · have k3 : ((q : Int) != 3) = true := by rw [bne_iff_ne]; omega
    have k4 : ((q : Int) != 4) = true := by rw [bne_iff_ne]; omega
    have hs : setIs H (p : Nat) j x = false := by rw [HS.out, decide_eq_false (fun e => hnk.1 (h3.out.1 e)), decide_eq_false (fun e => hnk.2 (h4.out.1 e))]; simp
    obtain rfl : B = false := hB.out.trans hs
    obtain rfl : H' = H := by rw [hH.out, setH, hs]; rfl
    clear hs hnk
    rcases hgo with m1 | ⟨m1, m2⟩
    · go_wp2_with fail
      go_ret
      exact StepR.stay H0.out.at HB3.out
    · go_wp2_with fail
      go_ret
      exact StepR.stay H0.out.at HB3.out
  have hs : setIs H (p : Nat) j x = true := by
    rw [HS.out, ← HY0.out, HYT.out]
    by_cases e3 : q = 3
    · rw [decide_eq_true (h3.out.2 e3)]; rfl
    · rw [decide_eq_true (h4.out.2 (by omega))]; simp
  obtain rfl : B = true := hB.out.trans hs
  have HE : Hid (H' = putTh H (p : Nat) (setTh (thAt H (p : Nat)) j x)) := Lib.hid (by rw [hH.out, setH, hs]; rfl)
  have hko : ((q : Int) != 3) = false ∨ ((q : Int) != 3) = true ∧ ((q : Int) != 4) = false := by
    by_cases e3 : q = 3
    · left; rw [e3]; rfl
    · right; exact ⟨by rw [bne_iff_ne]; omega, by rw [show q = 4 by omega]; rfl⟩
  clear hs hnk hB hH
  rcases hgo with m1 | ⟨m1, m2⟩
  · rcases hko with k3 | ⟨k3, k4⟩
    · go_upto_region 7 with fail
      have q0 := later_cell p0
      have q1 := later_cell p1
      have qc := later_cell c1
      have q2 := later_cell d2
      clear c1 d0 d1 d2 d3 d4 d5 d6 p0 p1
      try go_frame
      refine wp_region_idx Rb Rb_refl Rb_trans [(0,0),(0,1),(0,2),(0,3),(0,4),(0,5),(0,6),(0,7),(0,8),(0,9),(0,10),(2,11),(2,12)] (by kernel_rfl) (by kernel_rfl) (by kernel_rfl) ?_
      simp only [pickO, List.getD_cons_succ, List.getD_cons_zero]
      refine wpCan_seg 11 (by kernel_rfl) ?_
      simp only [List.take_succ_cons, List.take_zero, List.drop_succ_cons, List.drop_zero, List.map_cons, List.map_nil]
      iterate 11 (go_big_quiet_step (fail))
      refine wpQuiet_nil ?_
      clear q0 q1 qc q2
      refine wpCan_list (k := 1) (fun KK hK => ?_) (fun h => by cases h)
      go_wp2_with fail
      refine hK _ _ (fun h => by cases h) ?_
      clear hK KK
      refine wpCan_list (k := 1) (fun KK hK => ?_) (fun h => by cases h)
      refine wpL_storeOwnS rfl _ _ _ rfl (cs := [.int .u8 (x.1.toNat : Int), .int .i64 x.2]) rfl rfl (by simp [Value.oneCell']) (by kernel_rfl) HOW.out.drew (j * 2) rfl hlenw ?_
      intro w5 hg5 ho5
      have HG5 : Hid (w3.grownBy w5 (some g2)) := Lib.hid ⟨hg5.os, hg5.tape, hg5.output, hg5.size, hg5.block⟩
      rw [wcells_set _ _ _ (by rw [HN.out]; exact hjn)] at ho5
      have HO5 := Lib.hid ho5
      clear hg5 ho5
      refine hK _ _ (fun h => by cases h) ?_
      clear hK KK
      unfold wpCan
      obtain ⟨a1, a2⟩ := HH3.out.setWords HPL.out HIA.out HV.out HG5.out HO5.out (by rw [List.length_set]; exact HN.out)
      obtain ⟨H1, hH1⟩ : ∃ H1, H1 = putTh H (p : Nat) { thAt H (p : Nat) with o := { (thAt H (p : Nat)).o with l := (thAt H (p : Nat)).o.l.set j x } } := ⟨_, rfl⟩
      rw [← hH1] at a1
      obtain ⟨gl2, ol2, cl2, cs2, vs2, a3⟩ := a1
      have HH5 := Lib.hid a3
      have A2 := Lib.hid a2
      have HH1 := Lib.hid hH1
      have HIL2 : Hid (p < H1.length) := Lib.hid (by rw [hH1, putTh_len]; exact HPL.out)
      have HIA2 : Hid (H1.getD p noTh = { thAt H (p : Nat) with o := { (thAt H (p : Nat)).o with l := (thAt H (p : Nat)).o.l.set j x } }) := Lib.hid (by rw [hH1, putTh_getD HPL.out, if_pos rfl])
      have c1 := a3.c1
      have hcapb := a3.cap
      have hib : (p : Int) < H1.length := by have := HIL2.out; omega
      obtain ⟨d0, d1, d2, d3, d4, d5, d6⟩ := a3.all HIL2.out
      rw [HIA2.out] at d5
      obtain ⟨y, hy⟩ : ∃ y, y = (thAt H (p : Nat)).oid := ⟨_, rfl⟩
      have d5' : w5.cell? ⟨gl2, ol2 + p * 7 + 5, none⟩ = some (.int .i64 y) := by rw [hy]; exact d5
      have HY := Lib.hid hy
      have hlenb : p * 7 + 6 < cs2.length := by have := a3.own.1.1; have := HIL2.out; omega
      clear a2 a3 hH1 d0 d1 d2 d3 d4 d5 d6 hy HG5 HO5
      go_upto_region 8 with fail
      have qc := later_cell c1
      have q5 := later_cell d5'
      clear c1 d5'
      try go_frame
      refine wp_region_idx Rb Rb_refl Rb_trans [(0,0),(0,1),(0,2),(0,3),(0,4),(0,5),(0,6),(0,7),(0,8),(0,9),(0,10),(0,11),(0,12),(0,13),(2,14),(2,15),(2,16)] (by kernel_rfl) (by kernel_rfl) (by kernel_rfl) ?_
      simp only [pickO, List.getD_cons_succ, List.getD_cons_zero]
      refine wpCan_seg 14 (by kernel_rfl) ?_
      simp only [List.take_succ_cons, List.take_zero, List.drop_succ_cons, List.drop_zero, List.map_cons, List.map_nil]
      iterate 14 (go_big_quiet_step (fail))
      refine wpQuiet_nil ?_
      clear qc q5
      refine wpCan_list (k := 1) (fun KK hK => ?_) (fun h => by cases h)
      go_wp2_with fail
      refine hK _ _ (fun h => by cases h) ?_
      clear hK KK
      refine wpCan_list (k := 1) (fun KK hK => ?_) (fun h => by cases h)
      go_wp2_with fail
      refine hK _ _ (fun h => by cases h) ?_
      clear hK KK
      refine wpCan_list (k := 1) (fun KK hK => ?_) (fun h => by cases h)
      refine wpL_storeOwn (g := 0) rfl _ _ _ rfl (v := .bool (decide (0 < y))) rfl rfl rfl rfl (by kernel_rfl) HH5.out.own.1.drew (p * 7 + 6) (by omega) hlenb ?_
      intro w6 hg6 ho6
      have HG6 : Hid (w5.grownBy w6 (some gl2)) := Lib.hid ⟨hg6.os, hg6.tape, hg6.output, hg6.size, hg6.block⟩
      have HO6 := Lib.hid ho6
      clear hg6 ho6
      refine hK _ _ (fun h => by cases h) ?_
      clear hK KK
      unfold wpCan
      obtain ⟨a4, a5⟩ := HH5.out.setDirty HIL2.out HIA2.out HG6.out HO6.out
      rw [HH1.out, put_put] at a4
      have A4 := Lib.hid a4
      have A5 := Lib.hid (A2.out.trans a5)
      clear a4 a5
      go_wp2_with fail
      go_ret
      refine ⟨rfl, col, (St.fresh HB3.out RQ col).trans A5.out, ?_⟩
      rw [HE.out]
      have := A4.out
      rw [HY.out] at this
      exact this
    · go_upto_region 7 with fail
      have q0 := later_cell p0
      have q1 := later_cell p1
      have qc := later_cell c1
      have q2 := later_cell d2
      clear c1 d0 d1 d2 d3 d4 d5 d6 p0 p1
      try go_frame
      refine wp_region_idx Rb Rb_refl Rb_trans [(0,0),(0,1),(0,2),(0,3),(0,4),(0,5),(0,6),(0,7),(0,8),(0,9),(0,10),(2,11),(2,12)] (by kernel_rfl) (by kernel_rfl) (by kernel_rfl) ?_
      simp only [pickO, List.getD_cons_succ, List.getD_cons_zero]
      refine wpCan_seg 11 (by kernel_rfl) ?_
      simp only [List.take_succ_cons, List.take_zero, List.drop_succ_cons, List.drop_zero, List.map_cons, List.map_nil]
      iterate 11 (go_big_quiet_step (fail))
      refine wpQuiet_nil ?_
      clear q0 q1 qc q2
      refine wpCan_list (k := 1) (fun KK hK => ?_) (fun h => by cases h)
      go_wp2_with fail
      refine hK _ _ (fun h => by cases h) ?_
      clear hK KK
      refine wpCan_list (k := 1) (fun KK hK => ?_) (fun h => by cases h)
      refine wpL_storeOwnS rfl _ _ _ rfl (cs := [.int .u8 (x.1.toNat : Int), .int .i64 x.2]) rfl rfl (by simp [Value.oneCell']) (by kernel_rfl) HOW.out.drew (j * 2) rfl hlenw ?_
      intro w5 hg5 ho5
      have HG5 : Hid (w3.grownBy w5 (some g2)) := Lib.hid ⟨hg5.os, hg5.tape, hg5.output, hg5.size, hg5.block⟩
      rw [wcells_set _ _ _ (by rw [HN.out]; exact hjn)] at ho5
      have HO5 := Lib.hid ho5
      clear hg5 ho5
      refine hK _ _ (fun h => by cases h) ?_
      clear hK KK
      unfold wpCan
      obtain ⟨a1, a2⟩ := HH3.out.setWords HPL.out HIA.out HV.out HG5.out HO5.out (by rw [List.length_set]; exact HN.out)
      obtain ⟨H1, hH1⟩ : ∃ H1, H1 = putTh H (p : Nat) { thAt H (p : Nat) with o := { (thAt H (p : Nat)).o with l := (thAt H (p : Nat)).o.l.set j x } } := ⟨_, rfl⟩
      rw [← hH1] at a1
      obtain ⟨gl2, ol2, cl2, cs2, vs2, a3⟩ := a1
      have HH5 := Lib.hid a3
      have A2 := Lib.hid a2
      have HH1 := Lib.hid hH1
      have HIL2 : Hid (p < H1.length) := Lib.hid (by rw [hH1, putTh_len]; exact HPL.out)
      have HIA2 : Hid (H1.getD p noTh = { thAt H (p : Nat) with o := { (thAt H (p : Nat)).o with l := (thAt H (p : Nat)).o.l.set j x } }) := Lib.hid (by rw [hH1, putTh_getD HPL.out, if_pos rfl])
      have c1 := a3.c1
      have hcapb := a3.cap
      have hib : (p : Int) < H1.length := by have := HIL2.out; omega
      obtain ⟨d0, d1, d2, d3, d4, d5, d6⟩ := a3.all HIL2.out
      rw [HIA2.out] at d5
      obtain ⟨y, hy⟩ : ∃ y, y = (thAt H (p : Nat)).oid := ⟨_, rfl⟩
      have d5' : w5.cell? ⟨gl2, ol2 + p * 7 + 5, none⟩ = some (.int .i64 y) := by rw [hy]; exact d5
      have HY := Lib.hid hy
      have hlenb : p * 7 + 6 < cs2.length := by have := a3.own.1.1; have := HIL2.out; omega
      clear a2 a3 hH1 d0 d1 d2 d3 d4 d5 d6 hy HG5 HO5
      go_upto_region 8 with fail
      have qc := later_cell c1
      have q5 := later_cell d5'
      clear c1 d5'
      try go_frame
      refine wp_region_idx Rb Rb_refl Rb_trans [(0,0),(0,1),(0,2),(0,3),(0,4),(0,5),(0,6),(0,7),(0,8),(0,9),(0,10),(0,11),(0,12),(0,13),(2,14),(2,15),(2,16)] (by kernel_rfl) (by kernel_rfl) (by kernel_rfl) ?_
      simp only [pickO, List.getD_cons_succ, List.getD_cons_zero]
      refine wpCan_seg 14 (by kernel_rfl) ?_
      simp only [List.take_succ_cons, List.take_zero, List.drop_succ_cons, List.drop_zero, List.map_cons, List.map_nil]
      iterate 14 (go_big_quiet_step (fail))
      refine wpQuiet_nil ?_
      clear qc q5
      refine wpCan_list (k := 1) (fun KK hK => ?_) (fun h => by cases h)
      go_wp2_with fail
      refine hK _ _ (fun h => by cases h) ?_
      clear hK KK
      refine wpCan_list (k := 1) (fun KK hK => ?_) (fun h => by cases h)
      go_wp2_with fail
      refine hK _ _ (fun h => by cases h) ?_
      clear hK KK
      refine wpCan_list (k := 1) (fun KK hK => ?_) (fun h => by cases h)
      refine wpL_storeOwn (g := 0) rfl _ _ _ rfl (v := .bool (decide (0 < y))) rfl rfl rfl rfl (by kernel_rfl) HH5.out.own.1.drew (p * 7 + 6) (by omega) hlenb ?_
      intro w6 hg6 ho6
      have HG6 : Hid (w5.grownBy w6 (some gl2)) := Lib.hid ⟨hg6.os, hg6.tape, hg6.output, hg6.size, hg6.block⟩
      have HO6 := Lib.hid ho6
      clear hg6 ho6
      refine hK _ _ (fun h => by cases h) ?_
      clear hK KK
      unfold wpCan
      obtain ⟨a4, a5⟩ := HH5.out.setDirty HIL2.out HIA2.out HG6.out HO6.out
      rw [HH1.out, put_put] at a4
      have A4 := Lib.hid a4
      have A5 := Lib.hid (A2.out.trans a5)
      clear a4 a5
      go_wp2_with fail
      go_ret
      refine ⟨rfl, col, (St.fresh HB3.out RQ col).trans A5.out, ?_⟩
      rw [HE.out]
      have := A4.out
      rw [HY.out] at this
      exact this
  · rcases hko with k3 | ⟨k3, k4⟩
    · go_upto_region 7 with fail
      have q0 := later_cell p0
      have q1 := later_cell p1
      have qc := later_cell c1
      have q2 := later_cell d2
      clear c1 d0 d1 d2 d3 d4 d5 d6 p0 p1
      try go_frame
      refine wp_region_idx Rb Rb_refl Rb_trans [(0,0),(0,1),(0,2),(0,3),(0,4),(0,5),(0,6),(0,7),(0,8),(0,9),(0,10),(2,11),(2,12)] (by kernel_rfl) (by kernel_rfl) (by kernel_rfl) ?_
      simp only [pickO, List.getD_cons_succ, List.getD_cons_zero]
      refine wpCan_seg 11 (by kernel_rfl) ?_
      simp only [List.take_succ_cons, List.take_zero, List.drop_succ_cons, List.drop_zero, List.map_cons, List.map_nil]
      iterate 11 (go_big_quiet_step (fail))
      refine wpQuiet_nil ?_
      clear q0 q1 qc q2
      refine wpCan_list (k := 1) (fun KK hK => ?_) (fun h => by cases h)
      go_wp2_with fail
      refine hK _ _ (fun h => by cases h) ?_
      clear hK KK
      refine wpCan_list (k := 1) (fun KK hK => ?_) (fun h => by cases h)
      refine wpL_storeOwnS rfl _ _ _ rfl (cs := [.int .u8 (x.1.toNat : Int), .int .i64 x.2]) rfl rfl (by simp [Value.oneCell']) (by kernel_rfl) HOW.out.drew (j * 2) rfl hlenw ?_
      intro w5 hg5 ho5
      have HG5 : Hid (w3.grownBy w5 (some g2)) := Lib.hid ⟨hg5.os, hg5.tape, hg5.output, hg5.size, hg5.block⟩
      rw [wcells_set _ _ _ (by rw [HN.out]; exact hjn)] at ho5
      have HO5 := Lib.hid ho5
      clear hg5 ho5
      refine hK _ _ (fun h => by cases h) ?_
      clear hK KK
      unfold wpCan
      obtain ⟨a1, a2⟩ := HH3.out.setWords HPL.out HIA.out HV.out HG5.out HO5.out (by rw [List.length_set]; exact HN.out)
      obtain ⟨H1, hH1⟩ : ∃ H1, H1 = putTh H (p : Nat) { thAt H (p : Nat) with o := { (thAt H (p : Nat)).o with l := (thAt H (p : Nat)).o.l.set j x } } := ⟨_, rfl⟩
      rw [← hH1] at a1
      obtain ⟨gl2, ol2, cl2, cs2, vs2, a3⟩ := a1
      have HH5 := Lib.hid a3
      have A2 := Lib.hid a2
      have HH1 := Lib.hid hH1
      have HIL2 : Hid (p < H1.length) := Lib.hid (by rw [hH1, putTh_len]; exact HPL.out)
      have HIA2 : Hid (H1.getD p noTh = { thAt H (p : Nat) with o := { (thAt H (p : Nat)).o with l := (thAt H (p : Nat)).o.l.set j x } }) := Lib.hid (by rw [hH1, putTh_getD HPL.out, if_pos rfl])
      have c1 := a3.c1
      have hcapb := a3.cap
      have hib : (p : Int) < H1.length := by have := HIL2.out; omega
      obtain ⟨d0, d1, d2, d3, d4, d5, d6⟩ := a3.all HIL2.out
      rw [HIA2.out] at d5
      obtain ⟨y, hy⟩ : ∃ y, y = (thAt H (p : Nat)).oid := ⟨_, rfl⟩
      have d5' : w5.cell? ⟨gl2, ol2 + p * 7 + 5, none⟩ = some (.int .i64 y) := by rw [hy]; exact d5
      have HY := Lib.hid hy
      have hlenb : p * 7 + 6 < cs2.length := by have := a3.own.1.1; have := HIL2.out; omega
      clear a2 a3 hH1 d0 d1 d2 d3 d4 d5 d6 hy HG5 HO5
      go_upto_region 8 with fail
      have qc := later_cell c1
      have q5 := later_cell d5'
      clear c1 d5'
      try go_frame
      refine wp_region_idx Rb Rb_refl Rb_trans [(0,0),(0,1),(0,2),(0,3),(0,4),(0,5),(0,6),(0,7),(0,8),(0,9),(0,10),(0,11),(0,12),(0,13),(2,14),(2,15),(2,16)] (by kernel_rfl) (by kernel_rfl) (by kernel_rfl) ?_
      simp only [pickO, List.getD_cons_succ, List.getD_cons_zero]
      refine wpCan_seg 14 (by kernel_rfl) ?_
      simp only [List.take_succ_cons, List.take_zero, List.drop_succ_cons, List.drop_zero, List.map_cons, List.map_nil]
      iterate 14 (go_big_quiet_step (fail))
      refine wpQuiet_nil ?_
      clear qc q5
      refine wpCan_list (k := 1) (fun KK hK => ?_) (fun h => by cases h)
      go_wp2_with fail
      refine hK _ _ (fun h => by cases h) ?_
      clear hK KK
      refine wpCan_list (k := 1) (fun KK hK => ?_) (fun h => by cases h)
      go_wp2_with fail
      refine hK _ _ (fun h => by cases h) ?_
      clear hK KK
      refine wpCan_list (k := 1) (fun KK hK => ?_) (fun h => by cases h)
      refine wpL_storeOwn (g := 0) rfl _ _ _ rfl (v := .bool (decide (0 < y))) rfl rfl rfl rfl (by kernel_rfl) HH5.out.own.1.drew (p * 7 + 6) (by omega) hlenb ?_
      intro w6 hg6 ho6
      have HG6 : Hid (w5.grownBy w6 (some gl2)) := Lib.hid ⟨hg6.os, hg6.tape, hg6.output, hg6.size, hg6.block⟩
      have HO6 := Lib.hid ho6
      clear hg6 ho6
      refine hK _ _ (fun h => by cases h) ?_
      clear hK KK
      unfold wpCan
      obtain ⟨a4, a5⟩ := HH5.out.setDirty HIL2.out HIA2.out HG6.out HO6.out
      rw [HH1.out, put_put] at a4
      have A4 := Lib.hid a4
      have A5 := Lib.hid (A2.out.trans a5)
      clear a4 a5
      go_wp2_with fail
      go_ret
      refine ⟨rfl, col, (St.fresh HB3.out RQ col).trans A5.out, ?_⟩
      rw [HE.out]
      have := A4.out
      rw [HY.out] at this
      exact this
    · go_upto_region 7 with fail
      have q0 := later_cell p0
      have q1 := later_cell p1
      have qc := later_cell c1
      have q2 := later_cell d2
      clear c1 d0 d1 d2 d3 d4 d5 d6 p0 p1
      try go_frame
      refine wp_region_idx Rb Rb_refl Rb_trans [(0,0),(0,1),(0,2),(0,3),(0,4),(0,5),(0,6),(0,7),(0,8),(0,9),(0,10),(2,11),(2,12)] (by kernel_rfl) (by kernel_rfl) (by kernel_rfl) ?_
      simp only [pickO, List.getD_cons_succ, List.getD_cons_zero]
      refine wpCan_seg 11 (by kernel_rfl) ?_
      simp only [List.take_succ_cons, List.take_zero, List.drop_succ_cons, List.drop_zero, List.map_cons, List.map_nil]
      iterate 11 (go_big_quiet_step (fail))
      refine wpQuiet_nil ?_
      clear q0 q1 qc q2
      refine wpCan_list (k := 1) (fun KK hK => ?_) (fun h => by cases h)
      go_wp2_with fail
      refine hK _ _ (fun h => by cases h) ?_
      clear hK KK
      refine wpCan_list (k := 1) (fun KK hK => ?_) (fun h => by cases h)
      refine wpL_storeOwnS rfl _ _ _ rfl (cs := [.int .u8 (x.1.toNat : Int), .int .i64 x.2]) rfl rfl (by simp [Value.oneCell']) (by kernel_rfl) HOW.out.drew (j * 2) rfl hlenw ?_
      intro w5 hg5 ho5
      have HG5 : Hid (w3.grownBy w5 (some g2)) := Lib.hid ⟨hg5.os, hg5.tape, hg5.output, hg5.size, hg5.block⟩
      rw [wcells_set _ _ _ (by rw [HN.out]; exact hjn)] at ho5
      have HO5 := Lib.hid ho5
      clear hg5 ho5
      refine hK _ _ (fun h => by cases h) ?_
      clear hK KK
      unfold wpCan
      obtain ⟨a1, a2⟩ := HH3.out.setWords HPL.out HIA.out HV.out HG5.out HO5.out (by rw [List.length_set]; exact HN.out)
      obtain ⟨H1, hH1⟩ : ∃ H1, H1 = putTh H (p : Nat) { thAt H (p : Nat) with o := { (thAt H (p : Nat)).o with l := (thAt H (p : Nat)).o.l.set j x } } := ⟨_, rfl⟩
      rw [← hH1] at a1
      obtain ⟨gl2, ol2, cl2, cs2, vs2, a3⟩ := a1
      have HH5 := Lib.hid a3
      have A2 := Lib.hid a2
      have HH1 := Lib.hid hH1
      have HIL2 : Hid (p < H1.length) := Lib.hid (by rw [hH1, putTh_len]; exact HPL.out)
      have HIA2 : Hid (H1.getD p noTh = { thAt H (p : Nat) with o := { (thAt H (p : Nat)).o with l := (thAt H (p : Nat)).o.l.set j x } }) := Lib.hid (by rw [hH1, putTh_getD HPL.out, if_pos rfl])
      have c1 := a3.c1
      have hcapb := a3.cap
      have hib : (p : Int) < H1.length := by have := HIL2.out; omega
      obtain ⟨d0, d1, d2, d3, d4, d5, d6⟩ := a3.all HIL2.out
      rw [HIA2.out] at d5
      obtain ⟨y, hy⟩ : ∃ y, y = (thAt H (p : Nat)).oid := ⟨_, rfl⟩
      have d5' : w5.cell? ⟨gl2, ol2 + p * 7 + 5, none⟩ = some (.int .i64 y) := by rw [hy]; exact d5
      have HY := Lib.hid hy
      have hlenb : p * 7 + 6 < cs2.length := by have := a3.own.1.1; have := HIL2.out; omega
      clear a2 a3 hH1 d0 d1 d2 d3 d4 d5 d6 hy HG5 HO5
      go_upto_region 8 with fail
      have qc := later_cell c1
      have q5 := later_cell d5'
      clear c1 d5'
      try go_frame
      refine wp_region_idx Rb Rb_refl Rb_trans [(0,0),(0,1),(0,2),(0,3),(0,4),(0,5),(0,6),(0,7),(0,8),(0,9),(0,10),(0,11),(0,12),(0,13),(2,14),(2,15),(2,16)] (by kernel_rfl) (by kernel_rfl) (by kernel_rfl) ?_
      simp only [pickO, List.getD_cons_succ, List.getD_cons_zero]
      refine wpCan_seg 14 (by kernel_rfl) ?_
      simp only [List.take_succ_cons, List.take_zero, List.drop_succ_cons, List.drop_zero, List.map_cons, List.map_nil]
      iterate 14 (go_big_quiet_step (fail))
      refine wpQuiet_nil ?_
      clear qc q5
      refine wpCan_list (k := 1) (fun KK hK => ?_) (fun h => by cases h)
      go_wp2_with fail
      refine hK _ _ (fun h => by cases h) ?_
      clear hK KK
      refine wpCan_list (k := 1) (fun KK hK => ?_) (fun h => by cases h)
      go_wp2_with fail
      refine hK _ _ (fun h => by cases h) ?_
      clear hK KK
      refine wpCan_list (k := 1) (fun KK hK => ?_) (fun h => by cases h)
      refine wpL_storeOwn (g := 0) rfl _ _ _ rfl (v := .bool (decide (0 < y))) rfl rfl rfl rfl (by kernel_rfl) HH5.out.own.1.drew (p * 7 + 6) (by omega) hlenb ?_
      intro w6 hg6 ho6
      have HG6 : Hid (w5.grownBy w6 (some gl2)) := Lib.hid ⟨hg6.os, hg6.tape, hg6.output, hg6.size, hg6.block⟩
      have HO6 := Lib.hid ho6
      clear hg6 ho6
      refine hK _ _ (fun h => by cases h) ?_
      clear hK KK
      unfold wpCan
      obtain ⟨a4, a5⟩ := HH5.out.setDirty HIL2.out HIA2.out HG6.out HO6.out
      rw [HH1.out, put_put] at a4
      have A4 := Lib.hid a4
      have A5 := Lib.hid (A2.out.trans a5)
      clear a4 a5
      go_wp2_with fail
      go_ret
      refine ⟨rfl, col, (St.fresh HB3.out RQ col).trans A5.out, ?_⟩
      rw [HE.out]
      have := A4.out
      rw [HY.out] at this
      exact this
end
end Go.Proofs.Ytekmgffjdheifaa
