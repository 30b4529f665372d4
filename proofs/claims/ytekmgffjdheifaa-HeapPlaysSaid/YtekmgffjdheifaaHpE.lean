/-
  A heap's SetWord, Tie, Untie, Clean. Conditions: the heap reads as one.
-/
import Derived.Test.YtekmgffjdheifaaHpD
namespace Go.Proofs.Ytekmgffjdheifaa
open Go.RowKit
set_option linter.unusedVariables false
set_option linter.unusedSimpArgs false
set_option maxRecDepth 100000

section
variable {col col' : Nat → Nat} {w w' : World} {b m bm bt : Nat} {H : List Th} {ks ts : List Int} {at_ : Int → Option Nat} {tf : Int → Int}
theorem usedH_same {k : Int} {x : Th} (hg : Good H m) (hk : (thAt H k).is = true) (hx : x.is = true) (hs : sizeO x.o = sizeO (thAt H k).o) : usedH (putTh H k x) = usedH H := by
  obtain ⟨i, hi, hl, _⟩ := thAt_is hk
  have hp := hg.pos hk
  have := usedH_put (H := H) (k := k) (h := x) (by omega) (by omega)
  simp [sz, hk, hx] at this
  omega
theorem oid_put {k : Int} {x : Th} (hg : Good H m) (hk : (thAt H k).is = true) (j : Int) : (thAt (putTh H k x) j).oid = if j = k then x.oid else (thAt H j).oid := by
  obtain ⟨i, hi, hl, _⟩ := thAt_is hk
  have hp := hg.pos hk
  rw [thAt_put (by omega) (by omega)]
  split <;> rfl
/-- a thing is another one, of the same oid and size -/
theorem HpIn.poke1 (h : HpIn col w b m H bm bt ks at_ ts tf) (hg : Good H m) {k : Int} {g : Nat} {x : Th} (hk : (thAt H k).is = true) (hat : at_ k = some g) (hx : x.is = true)
    (km : St (fun y => y = hc k) col w col' w') (hx2 : ThAt (hc k) col' w' g x) (ho : x.oid = (thAt H k).oid) (hs : sizeO x.o = sizeO (thAt H k).o) (hgood : Good (putTh H k x) m) : HpIn col' w' b m (putTh H k x) bm bt ks at_ ts tf := by
  have n5 : ¬ (5 = hc k) := by unfold hc; omega
  have hof := of_same hg hgood (fun j => by rw [oid_put hg hk]; split; (rename_i e; rw [e]; exact ho); rfl)
  refine h.poke hg hk hat hx (km.mono fun _ h => .inr h) hx2 ?_ (h.mp.mods km.mods (by rw [h.cm]; exact n5)) (h.tm.mods km.mods (by rw [h.ct]; exact n5)) (fun y => by rw [hof]; exact h.tk y) (fun y => by rw [hof]; exact h.tv y)
  rw [usedH_same hg hk hx hs]
  exact h.row.mods km.mods (by rw [h.cb]; exact n5)
theorem St.hq {k : Int} (km : St (fun y => y = hc k) col w col' w') : St HQ col w col' w' := km.mono fun _ h => by rw [h]; exact hc_HQ k
end
/-- a step whose answer is v, and behind which the heap is H' -/
def StepP (v : Value) (H' : List Th) (m : Nat) (col : Nat → Nat) (w : World) (b : Nat) (e : Ending) (w' : World) : Prop := e = .returned v ∧ ∃ col', St HQ col w col' w' ∧ HpAt col' w' b m H'
theorem StepP.stay {col : Nat → Nat} {w w' : World} {b m : Nat} {H : List Th} {v : Value} (h : HpAt col w b m H) (hb : Below w.heap.size w w') : StepP v H m col w b (.returned v) w' := ⟨rfl, col, St.fresh hb _ _, h.fresh hb⟩
set_option maxHeartbeats 4000000 in
theorem clean_p {col : Nat → Nat} {w : World} {b m bm bt : Nat} {H : List Th} {ks ts : List Int} {at_ : Int → Option Nat} {tf : Int → Int} (h : HpIn col w b m H bm bt ks at_ ts tf) (hg : Good H m) (k : Int) (hk : (Lit.int .i64 k).wf = true) (B : Bool) (hB : Hid (B = (thAt H k).dirty)) (H' : List Th) (hH : Hid (H' = cleanH H k)) :
    Calls Try.prog 53 #[.pointer (some ⟨b, 0, none⟩), .int .i64 k] w (StepP (.bool B) H' m col w b) := by
  have HH := Lib.hid h
  cases hi : (thAt H k).is with
  | false =>
    have hd : (thAt H k).dirty = false := by rw [hg.non k hi]; rfl
    obtain rfl : B = false := hB.out.trans hd
    obtain rfl : H' = H := by rw [hH.out, cleanH, hd]; rfl
    have H0 := Lib.hid hi
    clear hi hd h
    go_enter Try.func53, Try.ntmps53
    go_wp2_with fail
    refine (thing_no HH.out k hk H0.out).mono ?_
    rintro e w1 ⟨rfl, rfl⟩
    go_wp2_with fail
    go_ret
    exact StepP.stay ⟨_, _, _, _, _, _, HH.out⟩ (Below.refl _ _)
  | true =>
    obtain ⟨g, v, hat, hth⟩ := h.has hi
    have hrow := hth.row
    have d5 := hth.cell 5
    simp only [thRow, List.getElem?_cons_zero, List.getElem?_cons_succ] at d5
    have HT := Lib.hid hth
    have HI := Lib.hid hi
    clear h hth hi
    cases hd : (thAt H k).dirty with
    | false =>
      obtain rfl : B = false := hB.out.trans hd
      obtain rfl : H' = H := by rw [hH.out, cleanH, hd]; rfl
      rw [hd] at d5
      clear hrow hd
      go_enter Try.func53, Try.ntmps53
      go_wp2_with fail
      refine (thing_yes HH.out k hk hat).mono ?_
      rintro e w1 ⟨rfl, rfl⟩
      go_wp2_with fail
      go_ret
      exact StepP.stay ⟨_, _, _, _, _, _, HH.out⟩ (Below.refl _ _)
    | true =>
      obtain rfl : B = true := hB.out.trans hd
      have hH' : H' = putTh H k { thAt H k with dirty := false } := by rw [hH.out, cleanH, hd]; rfl
      have hgood := clean_keep hg k
      rw [← hH.out] at hgood
      subst hH'
      rw [hd] at d5
      clear hd
      have HGG := Lib.hid hgood
      clear hgood
      go_enter Try.func53, Try.ntmps53
      go_wp2_with fail
      refine (thing_yes HH.out k hk hat).mono ?_
      rintro e w1 ⟨rfl, rfl⟩
      go_wp2_with (refine wpL_storeAt rfl _ _ _ rfl (v := .bool false) rfl rfl rfl rfl (by kernel_rfl) hrow rfl ?_; intro w2 hg2 hr2)
      go_ret
      have km : St (fun y => y = hc k) col w col w2 := St.one hg2 _ _ HT.out.cg
      refine ⟨rfl, col, St.hq km, _, _, _, _, _, _, HH.out.poke1 hg HI.out hat HI.out km ⟨v, hr2, HT.out.cg, HT.out.own.keep hg2 ?_, HT.out.ne⟩ rfl rfl HGG.out⟩
      cases hv : v.ownBlock with
      | none => exact .inl rfl
      | some x => exact .inr (fun e => HT.out.ne x hv (Option.some.inj e))
set_option maxHeartbeats 8000000 in
theorem setWord_p {col : Nat → Nat} {w : World} {b m bm bt : Nat} {H : List Th} {ks ts : List Int} {at_ : Int → Option Nat} {tf : Int → Int} (h : HpIn col w b m H bm bt ks at_ ts tf) (hg : Good H m) (k i : Int) (x : UInt8 × Int) (hk : (Lit.int .i64 k).wf = true) (B : Bool) (hB : Hid (B = setIs H k i x)) (H' : List Th) (hH : Hid (H' = setH H k i x)) :
    Calls Try.prog 23 #[.pointer (some ⟨b, 0, none⟩), .int .i64 k, .int .i64 i, .agg #[.int .u8 (x.1.toNat : Int), .int .i64 x.2]] w (StepP (.bool B) H' m col w b) := by
  obtain ⟨w1, hw1⟩ : ∃ y, y = w.alloc (.cells #[.int .u8 (x.1.toNat : Int), .int .i64 x.2] 47) := ⟨_, rfl⟩
  have hb1 : Below w.heap.size w w1 := by rw [hw1]; exact (Below.refl _ _).alloc (Nat.le_refl _) _
  have HR1 : Hid (Row w1 w.heap.size 47 [.int .u8 (x.1.toNat : Int), .int .i64 x.2]) := Lib.hid (by rw [hw1]; exact Row.new w _ _)
  have HH := Lib.hid (h.fresh hb1)
  have H0 := Lib.hid h
  have HB1 := Lib.hid hb1
  obtain ⟨B1, hB1⟩ : ∃ y, y = wordIs H k i := ⟨_, rfl⟩
  obtain ⟨z, hz⟩ : ∃ y, y = wordAt H k i := ⟨_, rfl⟩
  clear h hb1
  go_enter Try.func23, Try.ntmps23
  go_upto_region 1 with fail
  rw [← hw1]
  clear hw1
  try go_frame
  have HW1 := Lib.hid hB1
  clear hB1
  go_wp2_with fail
  refine (word_p HH.out hg k i hk B1 HW1 z (Lib.hid hz)).mono ?_
  rintro e w2 ⟨rfl, hb2⟩
  have HR2 := Lib.hid (HR1.out.after hb2)
  have HH2 := Lib.hid (HH.out.fresh hb2)
  have HB2 := Lib.hid (HB1.out.trans (hb2.mono HB1.out.size))
  clear HR1 HH HB1 hb2 hz
  go_upto_region 2 with (refine wpL_storeRow rfl _ _ _ rfl (cs := [.int .u8 (z.1.toNat : Int), .int .i64 z.2]) rfl rfl (Row.new _ _ _) (by kernel_rfl) rfl rfl ?_; intro w3 hg3 hr3)
  have hb3 : Below w2.heap.size w2 w3 := below_grown ((Below.refl _ _).alloc (Nat.le_refl _) _) hg3 (Nat.le_refl _) (by simp)
  have HR3 := Lib.hid (HR2.out.after hb3)
  have HH3 := Lib.hid (HH2.out.fresh hb3)
  have HB3 := Lib.hid (HB2.out.trans (hb3.mono HB2.out.size))
  clear HR2 HH2 HB2 hb3 hg3 hr3
  have p0 : w3.cell? ⟨w.heap.size, 0, none⟩ = some (.int .u8 (x.1.toNat : Int)) := HR3.out.cell 0
  have p1 : w3.cell? ⟨w.heap.size, 1, none⟩ = some (.int .i64 x.2) := HR3.out.cell 1
  try go_frame
  cases B1 with
  | false =>
    have hs : setIs H k i x = false := by
      have := HW1.out
      unfold wordIs at this
      unfold setIs
      rw [← this]
      rfl
    obtain rfl : B = false := hB.out.trans hs
    obtain rfl : H' = H := by rw [hH.out, setH, hs]; rfl
    clear hs
    go_wp2_with fail
    go_ret
    exact StepP.stay ⟨_, _, _, _, _, _, H0.out⟩ HB3.out
  | true =>
  have hW2 : (thAt H k).is = true ∧ 0 ≤ i ∧ i < (thAt H k).o.l.length := by
    have := HW1.out.symm
    unfold wordIs at this
    simp only [Bool.and_eq_true, decide_eq_true_eq] at this
    exact this
  have HW2 := Lib.hid hW2
  have hS : setIs H k i x = (wordyB x && (decide ((thAt H k).o.k = 3) || decide ((thAt H k).o.k = 4))) := by
    unfold setIs
    rw [hW2.1, decide_eq_true hW2.2]
    rfl
  have HS := Lib.hid hS
  obtain ⟨Y, hY⟩ : ∃ y, y = wordyB x := ⟨_, rfl⟩
  have hYe : Y = (decide (x.1.toNat = 1) || decide (x.1.toNat = 2)) := by rw [hY]; exact wordyB_eq x.1 x.2
  have HY := Lib.hid hY
  have HYE := Lib.hid hYe
  clear hW2 hS hY hYe
  go_wp2_with fail
  refine (wordy_any x.1.toNat x.2 w3).mono ?_
  rintro e w4 ⟨rfl, hb4⟩
  rw [← HYE.out]
  have HR4 := Lib.hid (HR3.out.after hb4)
  have HH4 := Lib.hid (HH3.out.fresh hb4)
  have HB4 := Lib.hid (HB3.out.trans (hb4.mono HB3.out.size))
  clear HR3 HH3 HB3 hb4 p0 p1
  cases Y with
  | false =>
    have hs : setIs H k i x = false := by rw [HS.out, ← HY.out]; rfl
    obtain rfl : B = false := hB.out.trans hs
    obtain rfl : H' = H := by rw [hH.out, setH, hs]; rfl
    clear hs
    go_wp2_with fail
    go_ret
    exact StepP.stay ⟨_, _, _, _, _, _, H0.out⟩ HB4.out
  | true =>
  obtain ⟨g, v, hat, hth⟩ := HH4.out.has HW2.out.1
  have d0 := hth.cell 0
  have d2 := hth.cell 2
  have d4 := hth.cell 4
  simp only [thRow, List.getElem?_cons_zero, List.getElem?_cons_succ] at d0 d2 d4
  have hown := hth.own.1
  obtain ⟨n, hn⟩ : ∃ n, n = (thAt H k).o.l.length := ⟨_, rfl⟩
  rw [← hn] at hown
  have HN := Lib.hid hn
  obtain ⟨a, c, rfl⟩ := hown.form
  obtain ⟨j, rfl⟩ : ∃ j : Nat, i = j := ⟨i.toNat, by have := HW2.out.2.1; omega⟩
  have hjn : j < n := by have := HW2.out.2.2; omega
  have hjn' : (j : Int) < n := by omega
  have hcap := hown.sl.wordLen.2
  have HT := Lib.hid hth
  have HO := Lib.hid hown
  obtain ⟨q, hq⟩ : ∃ q, q = (thAt H k).o.k.toNat := ⟨_, rfl⟩
  have h3 : Hid ((thAt H k).o.k = 3 ↔ q = 3) := Lib.hid (by rw [hq]; exact u8_eq)
  have h4 : Hid ((thAt H k).o.k = 4 ↔ q = 4) := Lib.hid (by rw [hq]; exact u8_eq)
  rw [← hq] at d0
  obtain ⟨oid, hoid⟩ : ∃ y, y = (thAt H k).oid := ⟨_, rfl⟩
  rw [← hoid] at d4
  have HOI := Lib.hid hoid
  clear hn hown hth hq hoid
  have hkinds : ((q : Int) != 3) = false ∨ (((q : Int) != 3) = true ∧ ((q : Int) != 4) = false) ∨ (((q : Int) != 3) = true ∧ ((q : Int) != 4) = true) := by
    cases ((q : Int) != 3) <;> cases ((q : Int) != 4) <;> simp
  by_cases hno : ¬ q = 3 ∧ ¬ q = 4
  · have m3 : ((q : Int) != 3) = true := by rw [bne_iff_ne]; omega
    have m4 : ((q : Int) != 4) = true := by rw [bne_iff_ne]; omega
    have hs : setIs H k j x = false := by rw [HS.out, decide_eq_false (fun e => hno.1 (h3.out.1 e)), decide_eq_false (fun e => hno.2 (h4.out.1 e))]; simp
    obtain rfl : B = false := hB.out.trans hs
    obtain rfl : H' = H := by rw [hH.out, setH, hs]; rfl
    clear hs hno hkinds d2 d4
    go_wp2_with fail
    refine (thing_yes HH4.out k hk hat).mono ?_
    rintro e w5 ⟨rfl, rfl⟩
    go_wp2_with fail
    go_ret
    exact StepP.stay ⟨_, _, _, _, _, _, H0.out⟩ HB4.out
  have hs : setIs H k j x = true := by
    rw [HS.out, ← HY.out]
    by_cases e3 : q = 3
    · rw [decide_eq_true (h3.out.2 e3)]; rfl
    · rw [decide_eq_true (h4.out.2 (by omega))]; simp
  obtain rfl : B = true := hB.out.trans hs
  obtain rfl : H' = putTh H k (setTh (thAt H k) j x) := by rw [hH.out, setH, hs]; rfl
  have hgood := set_keep hg k j x
  rw [setH, hs] at hgood
  have HGG := Lib.hid hgood
  clear hgood hs hkinds
  obtain ⟨g2, o2, cap2, he, _, _, _, _, hlen⟩ := HO.out.open (by omega) (by decide)
  cases he
  have hne : g2 ≠ g := HT.out.ne g2 rfl
  have hgo : ((q : Int) != 3) = false ∨ ((q : Int) != 3) = true ∧ ((q : Int) != 4) = false := by
    by_cases e3 : q = 3
    · left; rw [e3]; rfl
    · right; exact ⟨by rw [bne_iff_ne]; omega, by rw [show q = 4 by omega]; rfl⟩
  have hfin : ∀ (w7 w8 : World), w4.grownBy w7 (some g2) → Own w7 0 2 (.slice (some ⟨g2, o2, none⟩) n c) n (splice (wcells (thAt H k).o.l) (j * 2) [.int .u8 (x.1.toNat : Int), .int .i64 x.2]) → w7.grownBy w8 (some g) → Row w8 g 85 (thRow (.slice (some ⟨g2, o2, none⟩) n c) (setTh (thAt H k) j x)) → StepP (.bool true) (putTh H k (setTh (thAt H k) j x)) m col w b (.returned (.bool true)) w8 := fun w7 w8 hg7 ho7 hg8 hr8 => by
    have k7 : St (fun y => y = hc k) col w4 col w7 := St.one hg7 _ _ (HT.out.own.2 g2 rfl)
    have k8 : St (fun y => y = hc k) col w7 col w8 := St.one hg8 _ _ HT.out.cg
    have km := k7.trans k8
    rw [wcells_set _ _ _ (by rw [← HN.out]; exact hjn)] at ho7
    have ho8 := ho7.kept hg8 (.inr (fun e => hne (Option.some.inj e)))
    refine ⟨rfl, col, (St.fresh HB4.out _ _).trans (St.hq km), _, _, _, _, _, _, HH4.out.poke1 hg HW2.out.1 hat HW2.out.1 km ⟨_, hr8, HT.out.cg, ⟨?_, HT.out.own.2⟩, HT.out.ne⟩ rfl ?_ HGG.out⟩
    · show Own w8 0 2 _ ((thAt H k).o.l.set j x).length (wcells ((thAt H k).o.l.set j x))
      rw [List.length_set, ← HN.out]
      exact ho8
    · simp [sizeO, setTh]
  have HF := Lib.hid hfin
  clear hfin
  have hrow7 : ∀ w7, w4.grownBy w7 (some g2) → Row w7 g 85 (thRow (.slice (some ⟨g2, o2, none⟩) n c) (thAt H k)) := fun w7 hg7 => HT.out.row.grown hg7 (fun e => hne (Option.some.inj e).symm)
  have HRR := Lib.hid hrow7
  clear hrow7
  rcases hgo with m3 | ⟨m3, m4⟩
  · have p0 : w4.cell? ⟨w.heap.size, 0, none⟩ = some (.int .u8 (x.1.toNat : Int)) := HR4.out.cell 0
    have p1 : w4.cell? ⟨w.heap.size, 1, none⟩ = some (.int .i64 x.2) := HR4.out.cell 1
    go_wp2_with fail
    refine (thing_yes HH4.out k hk hat).mono ?_
    rintro e w5 ⟨rfl, rfl⟩
    go_upto_region 7 with fail
    have q0 := later_cell d2
    have q1 := later_cell p0
    have q2 := later_cell p1
    have ho := HO.out.drew
    clear d0 d2 p0 p1
    try go_frame
    refine wp_region_idx Rb Rb_refl Rb_trans [(0,0),(0,1),(0,2),(0,3),(0,4),(0,5),(0,6),(0,7),(2,8)] (by kernel_rfl) (by kernel_rfl) (by kernel_rfl) ?_
    simp only [pickO, List.getD_cons_succ, List.getD_cons_zero]
    refine wpCan_seg 8 (by kernel_rfl) ?_
    simp only [List.take_succ_cons, List.take_zero, List.drop_succ_cons, List.drop_zero, List.map_cons, List.map_nil]
    iterate 8 (go_big_quiet_step (fail))
    refine wpQuiet_nil ?_
    clear q0 q1 q2
    refine wpCan_list (k := 1) (fun KK hK => ?_) (fun h => by cases h)
    refine wpL_storeOwnS rfl _ _ _ rfl (cs := [.int .u8 (x.1.toNat : Int), .int .i64 x.2]) rfl rfl ?_ (by kernel_rfl) ho (j * 2) rfl (by simp only [List.length_cons, List.length_nil]; omega) ?_
    · intro u hu
      simp only [List.mem_cons, List.not_mem_nil, or_false] at hu
      rcases hu with rfl | rfl <;> rfl
    intro w7 hg7 ho7
    refine hK _ _ (fun h => by cases h) ?_
    clear hK KK ho
    unfold wpCan
    have HG7 : Hid (w4.grownBy w7 (some g2)) := Lib.hid ⟨hg7.os, hg7.tape, hg7.output, hg7.size, hg7.block⟩
    have HO7 := Lib.hid ho7
    have hr7 := HRR.out w7 HG7.out
    have d4 : w7.cell? ⟨g, 4, none⟩ = some (.int .i64 oid) := by rw [HOI.out]; exact hr7.cell 4
    clear hg7 ho7
    by_cases hp : 0 < oid
    · go_wp2_with (refine wpL_storeAt rfl _ _ _ rfl (v := .bool true) rfl rfl rfl rfl (by kernel_rfl) hr7 rfl ?_; intro w8 hg8 hr8)
      go_ret
      refine HF.out w7 w8 HG7.out HO7.out hg8 ?_
      have e : decide (0 < (thAt H k).oid) = true := decide_eq_true (by rw [← HOI.out]; exact hp)
      show Row w8 g 85 [_, _, _, _, _, .bool (decide (0 < (thAt H k).oid))]
      rw [e]
      exact hr8
    · have hp' : oid ≤ 0 := by omega
      go_wp2_with (refine wpL_storeAt rfl _ _ _ rfl (v := .bool false) rfl rfl rfl rfl (by kernel_rfl) hr7 rfl ?_; intro w8 hg8 hr8)
      go_ret
      refine HF.out w7 w8 HG7.out HO7.out hg8 ?_
      have e : decide (0 < (thAt H k).oid) = false := decide_eq_false (by rw [← HOI.out]; omega)
      show Row w8 g 85 [_, _, _, _, _, .bool (decide (0 < (thAt H k).oid))]
      rw [e]
      exact hr8
  · have p0 : w4.cell? ⟨w.heap.size, 0, none⟩ = some (.int .u8 (x.1.toNat : Int)) := HR4.out.cell 0
    have p1 : w4.cell? ⟨w.heap.size, 1, none⟩ = some (.int .i64 x.2) := HR4.out.cell 1
    go_wp2_with fail
    refine (thing_yes HH4.out k hk hat).mono ?_
    rintro e w5 ⟨rfl, rfl⟩
    go_upto_region 7 with fail
    have q0 := later_cell d2
    have q1 := later_cell p0
    have q2 := later_cell p1
    have ho := HO.out.drew
    clear d0 d2 p0 p1
    try go_frame
    refine wp_region_idx Rb Rb_refl Rb_trans [(0,0),(0,1),(0,2),(0,3),(0,4),(0,5),(0,6),(0,7),(2,8)] (by kernel_rfl) (by kernel_rfl) (by kernel_rfl) ?_
    simp only [pickO, List.getD_cons_succ, List.getD_cons_zero]
    refine wpCan_seg 8 (by kernel_rfl) ?_
    simp only [List.take_succ_cons, List.take_zero, List.drop_succ_cons, List.drop_zero, List.map_cons, List.map_nil]
    iterate 8 (go_big_quiet_step (fail))
    refine wpQuiet_nil ?_
    clear q0 q1 q2
    refine wpCan_list (k := 1) (fun KK hK => ?_) (fun h => by cases h)
    refine wpL_storeOwnS rfl _ _ _ rfl (cs := [.int .u8 (x.1.toNat : Int), .int .i64 x.2]) rfl rfl ?_ (by kernel_rfl) ho (j * 2) rfl (by simp only [List.length_cons, List.length_nil]; omega) ?_
    · intro u hu
      simp only [List.mem_cons, List.not_mem_nil, or_false] at hu
      rcases hu with rfl | rfl <;> rfl
    intro w7 hg7 ho7
    refine hK _ _ (fun h => by cases h) ?_
    clear hK KK ho
    unfold wpCan
    have HG7 : Hid (w4.grownBy w7 (some g2)) := Lib.hid ⟨hg7.os, hg7.tape, hg7.output, hg7.size, hg7.block⟩
    have HO7 := Lib.hid ho7
    have hr7 := HRR.out w7 HG7.out
    have d4 : w7.cell? ⟨g, 4, none⟩ = some (.int .i64 oid) := by rw [HOI.out]; exact hr7.cell 4
    clear hg7 ho7
    by_cases hp : 0 < oid
    · go_wp2_with (refine wpL_storeAt rfl _ _ _ rfl (v := .bool true) rfl rfl rfl rfl (by kernel_rfl) hr7 rfl ?_; intro w8 hg8 hr8)
      go_ret
      refine HF.out w7 w8 HG7.out HO7.out hg8 ?_
      have e : decide (0 < (thAt H k).oid) = true := decide_eq_true (by rw [← HOI.out]; exact hp)
      show Row w8 g 85 [_, _, _, _, _, .bool (decide (0 < (thAt H k).oid))]
      rw [e]
      exact hr8
    · have hp' : oid ≤ 0 := by omega
      go_wp2_with (refine wpL_storeAt rfl _ _ _ rfl (v := .bool false) rfl rfl rfl rfl (by kernel_rfl) hr7 rfl ?_; intro w8 hg8 hr8)
      go_ret
      refine HF.out w7 w8 HG7.out HO7.out hg8 ?_
      have e : decide (0 < (thAt H k).oid) = false := decide_eq_false (by rw [← HOI.out]; omega)
      show Row w8 g 85 [_, _, _, _, _, .bool (decide (0 < (thAt H k).oid))]
      rw [e]
      exact hr8
theorem keep_own {v : Value} {g : Nat} (h : ∀ x, v.ownBlock = some x → x ≠ g) : v.ownBlock = none ∨ v.ownBlock ≠ some g := by
  cases hv : v.ownBlock with
  | none => exact .inl rfl
  | some x => exact .inr (fun e => h x hv (Option.some.inj e))
theorem col_ne {col : Nat → Nat} {a b c d : Nat} (h1 : col a = c) (h2 : col b = d) (h : c ≠ d) : a ≠ b := fun e => h (by rw [← h1, ← h2, e])
theorem hc5 (k : Int) : hc k ≠ 5 := by unfold hc; omega
set_option maxHeartbeats 8000000 in
theorem tie_p {col : Nat → Nat} {w : World} {b m bm bt : Nat} {H : List Th} {ks ts : List Int} {at_ : Int → Option Nat} {tf : Int → Int} (h : HpIn col w b m H bm bt ks at_ ts tf) (hg : Good H m) (k x : Int) (hk : (Lit.int .i64 k).wf = true) (hx : (Lit.int .i64 x).wf = true) (E : Int) (hE : Hid (E = tieE H k x)) (H' : List Th) (hH : Hid (H' = tieH H k x)) :
    Calls Try.prog 43 #[.pointer (some ⟨b, 0, none⟩), .int .i64 k, .int .i64 x] w (StepP (.int .i64 E) H' m col w b) := by
  have HH := Lib.hid h
  have c4 := h.c4
  have htl := h.tlook hx
  obtain ⟨Y, hY⟩ : ∃ y, y = ofH H x := ⟨_, rfl⟩
  obtain ⟨Y2, hY2⟩ : ∃ y, y = decide (0 < ofH H x) := ⟨_, rfl⟩
  rw [← hY2, ← hY] at htl
  have HY2 := Lib.hid hY2
  clear hY hY2
  cases hi : (thAt H k).is with
  | false =>
    have hE7 : tieE H k x = 7 := by rw [tieE, if_pos hi]
    obtain rfl : E = 7 := hE.out.trans hE7
    obtain rfl : H' = H := by rw [hH.out, tieH, hE7]; rfl
    have H0 := Lib.hid hi
    clear hi hE7 h
    go_enter Try.func43, Try.ntmps43
    go_wp2_with fail
    refine (thing_no HH.out k hk H0.out).mono ?_
    rintro e w1 ⟨rfl, rfl⟩
    go_wp2_with fail
    go_ret
    exact StepP.stay ⟨_, _, _, _, _, _, HH.out⟩ (Below.refl _ _)
  | true =>
    have hE0 : tieE H k x = if x < 1 ∨ 16384 < x then 1 else if 0 < ofH H x ∨ 0 < (thAt H k).oid then 3 else 0 := by rw [tieE, if_neg (by rw [hi]; exact Bool.noConfusion)]
    obtain ⟨g, v, hat, hth⟩ := h.has hi
    have hrow := hth.row
    have d4 := hth.cell 4
    simp only [thRow, List.getElem?_cons_zero, List.getElem?_cons_succ] at d4
    obtain ⟨oid, hoid⟩ : ∃ y, y = (thAt H k).oid := ⟨_, rfl⟩
    rw [← hoid] at d4 hE0
    have HOI := Lib.hid hoid
    have HE0 := Lib.hid hE0
    have HT := Lib.hid hth
    have HI := Lib.hid hi
    clear h hth hi hoid hE0
    by_cases hx1 : x < 1
    · have hE1 : tieE H k x = 1 := by rw [HE0.out, if_pos (.inl hx1)]
      obtain rfl : E = 1 := hE.out.trans hE1
      obtain rfl : H' = H := by rw [hH.out, tieH, hE1]; rfl
      clear hE1 hrow
      go_enter Try.func43, Try.ntmps43
      go_wp2_with fail
      refine (thing_yes HH.out k hk hat).mono ?_
      rintro e w1 ⟨rfl, rfl⟩
      go_wp2_with fail
      go_ret
      exact StepP.stay ⟨_, _, _, _, _, _, HH.out⟩ (Below.refl _ _)
    by_cases hx2 : 16384 < x
    · have hE1 : tieE H k x = 1 := by rw [HE0.out, if_pos (.inr hx2)]
      obtain rfl : E = 1 := hE.out.trans hE1
      obtain rfl : H' = H := by rw [hH.out, tieH, hE1]; rfl
      clear hE1 hrow
      go_enter Try.func43, Try.ntmps43
      go_wp2_with fail
      refine (thing_yes HH.out k hk hat).mono ?_
      rintro e w1 ⟨rfl, rfl⟩
      go_wp2_with fail
      go_ret
      exact StepP.stay ⟨_, _, _, _, _, _, HH.out⟩ (Below.refl _ _)
    have hE2 : tieE H k x = if 0 < ofH H x ∨ 0 < oid then 3 else 0 := by rw [HE0.out, if_neg (by omega)]
    cases Y2 with
    | true =>
      have hE3 : tieE H k x = 3 := by rw [hE2, if_pos (.inl (of_decide_eq_true HY2.out.symm))]
      obtain rfl : E = 3 := hE.out.trans hE3
      obtain rfl : H' = H := by rw [hH.out, tieH, hE3]; rfl
      clear hE2 hE3 hrow
      go_enter Try.func43, Try.ntmps43
      go_wp2_with fail
      refine (thing_yes HH.out k hk hat).mono ?_
      rintro e w1 ⟨rfl, rfl⟩
      go_wp2_with fail
      go_ret
      exact StepP.stay ⟨_, _, _, _, _, _, HH.out⟩ (Below.refl _ _)
    | false =>
    have hn0 : ¬ 0 < ofH H x := of_decide_eq_false HY2.out.symm
    by_cases ho : 0 < oid
    · have hE3 : tieE H k x = 3 := by rw [hE2, if_pos (.inr ho)]
      obtain rfl : E = 3 := hE.out.trans hE3
      obtain rfl : H' = H := by rw [hH.out, tieH, hE3]; rfl
      clear hE2 hE3 hrow hn0
      go_enter Try.func43, Try.ntmps43
      go_wp2_with fail
      refine (thing_yes HH.out k hk hat).mono ?_
      rintro e w1 ⟨rfl, rfl⟩
      go_wp2_with fail
      go_ret
      exact StepP.stay ⟨_, _, _, _, _, _, HH.out⟩ (Below.refl _ _)
    have hE3 : tieE H k x = 0 := by rw [hE2, if_neg (by omega)]
    obtain rfl : E = 0 := hE.out.trans hE3
    obtain rfl : H' = putTh H k (tieTh (thAt H k) x) := by rw [hH.out, tieH, if_pos hE3]
    have hgood := tie_keep hg k x
    rw [tieH, if_pos hE3] at hgood
    have HGG := Lib.hid hgood
    have HN0 := Lib.hid hn0
    have ho' : oid ≤ 0 := by omega
    have HO0 : Hid ((thAt H k).oid = 0) := Lib.hid (by have := hg.oid k; rw [← HOI.out] at *; omega)
    have hts : ts.length < maxLen := by
      have := HH.out.few hg
      simp only [maxLen]
      omega
    have hkp := hg.pos HI.out
    have HKP := Lib.hid hkp
    have htm := HH.out.tm
    clear hE2 hE3 hgood hn0 ho hkp
    go_enter Try.func43, Try.ntmps43
    go_wp2_with fail
    refine (thing_yes HH.out k hk hat).mono ?_
    rintro e w1 ⟨rfl, rfl⟩
    go_upto_region 12 with (refine wpL_storePart rfl _ _ _ rfl (cs := [.int .i64 x, .bool false]) rfl rfl ?_ (by kernel_rfl) hrow (by simp [thRow]) ?_; (intro u hu; simp only [List.mem_cons, List.not_mem_nil, or_false] at hu; rcases hu with rfl | rfl <;> rfl); intro w2 hg2 hr2)
    have hngb : g ≠ b := col_ne HT.out.cg HH.out.cb (hc5 k)
    have hngt : g ≠ bt := col_ne HT.out.cg HH.out.ct (hc5 k)
    have hngm : g ≠ bm := col_ne HT.out.cg HH.out.cm (hc5 k)
    have HM2 := Lib.hid (Mods.grown hg2)
    have hr2' : Row w2 g 85 (thRow v (tieTh (thAt H k) x)) := hr2
    have HR2 := Lib.hid hr2'
    have HB2 := Lib.hid (HH.out.row.grown hg2 (fun e => hngb (Option.some.inj e).symm))
    have hti := htm.kept hg2 (fun e => hngt (Option.some.inj e).symm)
    have HMP2 := Lib.hid (HH.out.mp.kept hg2 (fun e => hngm (Option.some.inj e).symm))
    have HO2 := Lib.hid (HT.out.own.keep hg2 (keep_own HT.out.ne))
    have c4' : w2.cell? ⟨b, 4, none⟩ = some (.map (some bt)) := HB2.out.cell 4
    clear htm hr2 hr2' hrow hg2 c4 d4 htl
    go_wp2_with (at_mapUpdate; refine wpL_put hti keyInt mapTi hts rfl _ _ _ rfl rfl rfl hx k rfl ?_; intro w3 hm3 hg3; have HM3 := Lib.hid hm3; have HG3 := Lib.hid hg3; clear hm3 hg3 hti c4')
    go_ret
    have ntb : bt ≠ b := HH.out.nt
    have ntm : bm ≠ bt := HH.out.nn
    have km : St (fun y => y = 5 ∨ y = hc k) col w col w3 := ⟨(HM2.out.mono (fun y e => .inr (by rw [← Option.some.inj e]; exact HT.out.cg))).trans ((Mods.grown HG3.out).mono (fun y e => .inl (by rw [← Option.some.inj e]; exact HH.out.ct))), fun _ _ => rfl⟩
    have hof := of_more hg HGG.out (k := k) (x := x) (by omega) (by have := ofH_nn H x; have := HN0.out; omega) HO0.out (fun j => by rw [oid_put hg HI.out]; rfl)
    refine ⟨rfl, col, km.mono (fun y hy => by rcases hy with rfl | rfl; exact five_HQ; exact hc_HQ k), _, _, _, _, _, _, HH.out.poke (x := tieTh (thAt H k) x) hg HI.out hat HI.out km ⟨v, HR2.out.grown HG3.out (fun e => hngt (Option.some.inj e)), HT.out.cg, HO2.out.keep HG3.out ?_, HT.out.ne⟩ ?_ (HMP2.out.kept HG3.out (fun e => ntm (Option.some.inj e))) HM3.out (fun y => ?_) (fun y => ?_)⟩
    · exact keep_own (fun z hz => col_ne (HT.out.own.2 z hz) HH.out.ct (hc5 k))
    · rw [usedH_same (x := tieTh (thAt H k) x) hg HI.out HI.out rfl]
      exact HB2.out.grown HG3.out (fun e => ntb (Option.some.inj e).symm)
    · rw [hof, mem_putK, HH.out.tk y]
      unfold upd
      split
      · rename_i e
        exact ⟨fun _ => by have := HKP.out; omega, fun _ => .inr e⟩
      · rename_i e
        exact ⟨fun h => h.resolve_right e, .inl⟩
    · rw [hof]
      unfold upd
      split
      · rfl
      · exact HH.out.tv y
def untieB (H : List Th) (k : Int) : Bool := untieIs H k
set_option maxHeartbeats 8000000 in
theorem untie_p {col : Nat → Nat} {w : World} {b m bm bt : Nat} {H : List Th} {ks ts : List Int} {at_ : Int → Option Nat} {tf : Int → Int} (h : HpIn col w b m H bm bt ks at_ ts tf) (hg : Good H m) (k : Int) (hk : (Lit.int .i64 k).wf = true) (B : Bool) (hB : Hid (B = untieIs H k)) (H' : List Th) (hH : Hid (H' = untieH H k)) :
    Calls Try.prog 52 #[.pointer (some ⟨b, 0, none⟩), .int .i64 k] w (StepP (.bool B) H' m col w b) := by
  have HH := Lib.hid h
  cases hi : (thAt H k).is with
  | false =>
    have hs : untieIs H k = false := by rw [untieIs, hi]; rfl
    obtain rfl : B = false := hB.out.trans hs
    obtain rfl : H' = H := by rw [hH.out, untieH, hs]; rfl
    have H0 := Lib.hid hi
    clear hi hs h
    go_enter Try.func52, Try.ntmps52
    go_wp2_with fail
    refine (thing_no HH.out k hk H0.out).mono ?_
    rintro e w1 ⟨rfl, rfl⟩
    go_wp2_with fail
    go_ret
    exact StepP.stay ⟨_, _, _, _, _, _, HH.out⟩ (Below.refl _ _)
  | true =>
    obtain ⟨g, v, hat, hth⟩ := h.has hi
    have hrow := hth.row
    have d0 := hth.cell 0
    have d4 := hth.cell 4
    simp only [thRow, List.getElem?_cons_zero, List.getElem?_cons_succ] at d0 d4
    obtain ⟨oid, hoid⟩ : ∃ y, y = (thAt H k).oid := ⟨_, rfl⟩
    rw [← hoid] at d4
    obtain ⟨q, hq⟩ : ∃ q, q = (thAt H k).o.k.toNat := ⟨_, rfl⟩
    have h8 : Hid ((thAt H k).o.k = 8 ↔ q = 8) := Lib.hid (by rw [hq]; exact u8_eq)
    rw [← hq] at d0
    have hoid2 := hg.oid k
    rw [← hoid] at hoid2
    have HS : Hid (untieIs H k = (decide (0 < oid) && decide ((thAt H k).o.k ≠ 8))) := Lib.hid (by rw [untieIs, hi, hoid]; rfl)
    have HOI := Lib.hid hoid
    have HT := Lib.hid hth
    have HI := Lib.hid hi
    clear h hth hi hoid hq
    by_cases ho : oid = 0
    · subst ho
      have hs : untieIs H k = false := by rw [HS.out]; rfl
      obtain rfl : B = false := hB.out.trans hs
      obtain rfl : H' = H := by rw [hH.out, untieH, hs]; rfl
      clear hs hrow
      go_enter Try.func52, Try.ntmps52
      go_wp2_with fail
      refine (thing_yes HH.out k hk hat).mono ?_
      rintro e w1 ⟨rfl, rfl⟩
      go_wp2_with fail
      go_ret
      exact StepP.stay ⟨_, _, _, _, _, _, HH.out⟩ (Below.refl _ _)
    have ho1 : (oid == 0) = false := by rw [beq_eq_false_iff_ne]; exact ho
    by_cases h8q : q = 8
    · subst h8q
      have hs : untieIs H k = false := by rw [HS.out, decide_eq_false (show ¬ ((thAt H k).o.k ≠ 8) from fun e => e (h8.out.2 rfl))]; simp
      obtain rfl : B = false := hB.out.trans hs
      obtain rfl : H' = H := by rw [hH.out, untieH, hs]; rfl
      clear hs hrow
      go_enter Try.func52, Try.ntmps52
      go_wp2_with fail
      refine (thing_yes HH.out k hk hat).mono ?_
      rintro e w1 ⟨rfl, rfl⟩
      go_wp2_with fail
      go_ret
      exact StepP.stay ⟨_, _, _, _, _, _, HH.out⟩ (Below.refl _ _)
    have hq1 : ((q : Int) == 8) = false := by rw [beq_eq_false_iff_ne]; omega
    have hpos : 0 < oid := by omega
    have hs : untieIs H k = true := by rw [HS.out, decide_eq_true hpos, decide_eq_true (show (thAt H k).o.k ≠ 8 from fun e => h8q (h8.out.1 e))]; rfl
    obtain rfl : B = true := hB.out.trans hs
    obtain rfl : H' = putTh H k (tieTh (thAt H k) 0) := by rw [hH.out, untieH, hs]; rfl
    have hgood := untie_keep hg k
    rw [untieH, if_pos hs] at hgood
    have HGG := Lib.hid hgood
    have hwf : (Lit.int .i64 oid).wf = true := wf_lit (by omega) (by omega)
    have htm := HH.out.tm
    have c4 := HH.out.c4
    clear hs hgood ho h8q
    go_enter Try.func52, Try.ntmps52
    go_wp2_with fail
    refine (thing_yes HH.out k hk hat).mono ?_
    rintro e w1 ⟨rfl, rfl⟩
    go_upto_region 4 with fail
    have q0 := later_cell c4
    have q1 := later_cell d4
    have hti := htm.below (Below.refl w.heap.size w).drew
    clear c4 d4 d0
    try go_frame
    refine wp_region_idx Rb Rb_refl Rb_trans [(0,0),(0,1),(0,2),(0,3),(0,4),(0,5),(0,6),(0,7),(0,8),(2,9)] (by kernel_rfl) (by kernel_rfl) (by kernel_rfl) ?_
    simp only [pickO, List.getD_cons_succ, List.getD_cons_zero]
    refine wpCan_seg 9 (by kernel_rfl) ?_
    simp only [List.take_succ_cons, List.take_zero, List.drop_succ_cons, List.drop_zero, List.map_cons, List.map_nil]
    iterate 9 (go_big_quiet_step (fail))
    refine wpQuiet_nil ?_
    clear q0 q1
    refine wpCan_list (k := 1) (fun KK hK => ?_) (fun h => by cases h)
    refine wpL_del hti keyInt mapTi rfl _ _ rfl rfl rfl hwf ?_
    intro w2 hm2 hg2
    refine hK _ _ (fun h => by cases h) ?_
    clear hK KK hti htm
    unfold wpCan
    have hngb : g ≠ b := col_ne HT.out.cg HH.out.cb (hc5 k)
    have hngt : g ≠ bt := col_ne HT.out.cg HH.out.ct (hc5 k)
    have hngm : g ≠ bm := col_ne HT.out.cg HH.out.cm (hc5 k)
    have ntb : bt ≠ b := HH.out.nt
    have ntm : bm ≠ bt := HH.out.nn
    have hbd : Below w.heap.size w w.drew := (Below.refl _ _).drew
    have hr2 := (hrow.after hbd).grown hg2 (fun e => hngt (Option.some.inj e))
    have HM2 := Lib.hid ((Mods.fresh hbd (fun y => some bt = some y)).trans (Mods.grown hg2))
    have HB2 := Lib.hid ((HH.out.row.after hbd).grown hg2 (fun e => ntb (Option.some.inj e).symm))
    have HMP2 := Lib.hid ((HH.out.mp.below hbd).kept hg2 (fun e => ntm (Option.some.inj e)))
    have HTI2 := Lib.hid hm2
    have HO2 := Lib.hid ((HT.out.own.st (St.fresh hbd (fun _ => False) col) (fun h => h)).keep hg2 (keep_own (fun z hz => col_ne (HT.out.own.2 z hz) HH.out.ct (hc5 k))))
    clear hrow hg2 hm2 hbd
    go_wp2_with (refine wpL_storePart rfl _ _ _ rfl (cs := [.int .i64 0, .bool false]) rfl rfl ?_ (by kernel_rfl) hr2 (by simp [thRow]) ?_; (intro u hu; simp only [List.mem_cons, List.not_mem_nil, or_false] at hu; rcases hu with rfl | rfl <;> rfl); intro w3 hg3 hr3)
    go_ret
    have hr3' : Row w3 g 85 (thRow v (tieTh (thAt H k) 0)) := hr3
    have km : St (fun y => y = 5 ∨ y = hc k) col w col w3 := ⟨(HM2.out.mono (fun y e => .inl (by rw [← Option.some.inj e]; exact HH.out.ct))).trans ((Mods.grown hg3).mono (fun y e => .inr (by rw [← Option.some.inj e]; exact HT.out.cg))), fun _ _ => rfl⟩
    have hof := of_less hg HGG.out (k := k) (by rw [← HOI.out]; exact hpos) (fun j => by rw [oid_put hg HI.out]; rfl)
    rw [← HOI.out] at hof
    refine ⟨rfl, col, km.mono (fun y hy => by rcases hy with rfl | rfl; exact five_HQ; exact hc_HQ k), _, _, _, _, _, _, HH.out.poke (x := tieTh (thAt H k) 0) hg HI.out hat HI.out km ⟨v, hr3', HT.out.cg, HO2.out.keep hg3 (keep_own HT.out.ne), HT.out.ne⟩ ?_ (HMP2.out.kept hg3 (fun e => hngm (Option.some.inj e).symm)) (HTI2.out.kept hg3 (fun e => hngt (Option.some.inj e).symm)) (fun y => ?_) (fun y => ?_)⟩
    · rw [usedH_same (x := tieTh (thAt H k) 0) hg HI.out HI.out rfl]
      exact HB2.out.grown hg3 (fun e => hngb (Option.some.inj e).symm)
    · rw [hof, List.Nodup.mem_erase_iff HH.out.tm.nodup, HH.out.tk y]
      unfold upd
      split
      · rename_i e
        exact ⟨fun h => absurd e h.1, fun h => by omega⟩
      · rename_i e
        exact ⟨fun h => h.2, fun h => ⟨e, h⟩⟩
    · rw [hof]
      unfold upd
      split
      · rfl
      · exact HH.out.tv y
end Go.Proofs.Ytekmgffjdheifaa