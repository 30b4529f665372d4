/-
  A heap's Fill. Conditions: the heap reads as one; objects of 2^20 words and bytes of text at most.
-/
import Derived.Test.YtekmgffjdheifaaHpE
namespace Go.Proofs.Ytekmgffjdheifaa
open Go.RowKit
set_option linter.unusedVariables false
set_option linter.unusedSimpArgs false
set_option maxRecDepth 100000

theorem fill_nil (k : Int) (cs : Array Value) (w : World) : Calls Try.prog 14 #[.pointer none, .int .i64 k, .agg cs] w fun e w' => e = .returned (.int .i64 2) ∧ Below w.heap.size w w' := by
  go_enter Try.func14, Try.ntmps14
  go_wp2_with fail
  refine (thing_nil k _).mono ?_
  rintro e w1 ⟨rfl, rfl⟩
  go_wp2_with fail
  go_ret
  exact ⟨rfl, (Below.refl _ _).alloc (Nat.le_refl _) _⟩
set_option maxHeartbeats 8000000 in
theorem fill_p {col : Nat → Nat} {w : World} {b m bm bt : Nat} {H : List Th} {ks ts : List Int} {at_ : Int → Option Nat} {tf : Int → Int} (h : HpIn col w b m H bm bt ks at_ ts tf) (hg : Good H m) (hm : m ≤ 16777216) (k : Int) (hk : (Lit.int .i64 k).wf = true)
    (o : Ob) (a : Option Addr) (n c : Nat) (hn : o.l.length = n) (hn9 : n ≤ 1048576) (hs9 : o.s.length ≤ 1048576) (hl : Sl w 2 (.slice a n c) n (wcells o.l)) (E : Int) (hE : Hid (E = fillE H m k o)) (H' : List Th) (hH : Hid (H' = fillH H m k o)) :
    Calls Try.prog 14 #[.pointer (some ⟨b, 0, none⟩), .int .i64 k, .agg #[.int .u8 (o.k.toNat : Int), .int .i64 o.t, .slice a n c, .string (str o.s)]] w (StepP (.int .i64 E) H' m col w b) := by
  obtain ⟨w1, hw1⟩ : ∃ x, x = w.alloc (.cells #[.int .u8 (o.k.toNat : Int), .int .i64 o.t, .slice a n c, .string (str o.s)] 25) := ⟨_, rfl⟩
  have hb1 : Below w.heap.size w w1 := by rw [hw1]; exact (Below.refl _ _).alloc (Nat.le_refl _) _
  have HRW : Hid (Row w1 w.heap.size 25 [.int .u8 (o.k.toNat : Int), .int .i64 o.t, .slice a n c, .string (str o.s)]) := Lib.hid (by rw [hw1]; exact Row.new w _ _)
  have HL := Lib.hid (hl.below hb1)
  have HB := Lib.hid hb1
  have H0 := Lib.hid h
  have HH := Lib.hid (h.fresh hb1)
  have hno : ∀ e, fillE H m k o = e → e ≠ 0 → fillH H m k o = H := fun e he h0 => by rw [fillH, if_neg (by rw [he]; exact h0)]
  have HNO := Lib.hid hno
  clear hl h hb1 hno
  cases hi : (thAt H k).is with
  | false =>
    have hE7 : fillE H m k o = 7 := by rw [fillE, if_pos hi]
    obtain rfl : E = 7 := hE.out.trans hE7
    obtain rfl : H' = H := hH.out.trans (HNO.out 7 hE7 (by decide))
    have HI := Lib.hid hi
    clear hi hE7
    go_enter Try.func14, Try.ntmps14
    go_upto_region 1 with fail
    rw [← hw1]
    clear hw1
    try go_frame
    go_wp2_with fail
    refine (thing_no HH.out k hk HI.out).mono ?_
    rintro e w2 ⟨rfl, rfl⟩
    go_wp2_with fail
    go_ret
    exact StepP.stay ⟨_, _, _, _, _, _, H0.out⟩ HB.out
  | true =>
  have hE1 : fillE H m k o = if (thAt H k).o.k ≠ 8 then 3 else if mayO o = false ∨ o.k = 6 ∨ o.k = 7 ∨ o.k = 8 then 1 else if m + 1 < usedH H + sizeO o then 6 else 0 := by rw [fillE, if_neg (by rw [hi]; exact Bool.noConfusion)]
  have HE1 := Lib.hid hE1
  obtain ⟨g, v, hat, hth⟩ := HH.out.has hi
  have d0 := hth.cell 0
  simp only [thRow, List.getElem?_cons_zero, List.getElem?_cons_succ] at d0
  obtain ⟨q, hq⟩ : ∃ q, q = (thAt H k).o.k.toNat := ⟨_, rfl⟩
  have h8 : Hid ((thAt H k).o.k = 8 ↔ q = 8) := Lib.hid (by rw [hq]; exact u8_eq)
  rw [← hq] at d0
  have HT := Lib.hid hth
  have HI := Lib.hid hi
  clear hE1 hth hi hq
  by_cases hq8 : ¬ q = 8
  · have hE3 : fillE H m k o = 3 := by rw [HE1.out, if_pos (fun e => hq8 (h8.out.1 e))]
    obtain rfl : E = 3 := hE.out.trans hE3
    obtain rfl : H' = H := hH.out.trans (HNO.out 3 hE3 (by decide))
    have hq1 : ((q : Int) != 8) = true := by rw [bne_iff_ne]; omega
    clear hE3 hq8
    go_enter Try.func14, Try.ntmps14
    go_upto_region 1 with fail
    rw [← hw1]
    clear hw1
    try go_frame
    go_wp2_with fail
    refine (thing_yes HH.out k hk hat).mono ?_
    rintro e w2 ⟨rfl, rfl⟩
    go_wp2_with fail
    go_ret
    exact StepP.stay ⟨_, _, _, _, _, _, H0.out⟩ HB.out
  have hq8' : q = 8 := by omega
  subst hq8'
  have HY8 : Hid ((thAt H k).o.k = 8) := Lib.hid (h8.out.2 rfl)
  have HE2 : Hid (fillE H m k o = if mayO o = false ∨ o.k = 6 ∨ o.k = 7 ∨ o.k = 8 then 1 else if m + 1 < usedH H + sizeO o then 6 else 0) := Lib.hid (by rw [HE1.out, if_neg (fun e => e HY8.out)])
  obtain ⟨p, hp⟩ : ∃ p, p = o.k.toNat := ⟨_, rfl⟩
  have P6 : Hid (o.k = 6 ↔ p = 6) := Lib.hid (by rw [hp]; exact u8_eq)
  have P7 : Hid (o.k = 7 ↔ p = 7) := Lib.hid (by rw [hp]; exact u8_eq)
  have P8 : Hid (o.k = 8 ↔ p = 8) := Lib.hid (by rw [hp]; exact u8_eq)
  have HP := Lib.hid hp
  clear hq8 HE1 h8 hp
  go_enter Try.func14, Try.ntmps14
  go_upto_region 1 with fail
  rw [← hw1]
  clear hw1
  try go_frame
  go_wp2_with fail
  refine (thing_yes HH.out k hk hat).mono ?_
  rintro e w2 ⟨rfl, rfl⟩
  have p0 : (w1).cell? ⟨w.heap.size, 0, none⟩ = some (.int .u8 (o.k.toNat : Int)) := HRW.out.cell 0
  have p1 : (w1).cell? ⟨w.heap.size, 1, none⟩ = some (.int .i64 o.t) := HRW.out.cell 1
  have p2 : (w1).cell? ⟨w.heap.size, 2, none⟩ = some (.slice a n c) := HRW.out.cell 2
  have p3 : (w1).cell? ⟨w.heap.size, 3, none⟩ = some (.string (str o.s)) := HRW.out.cell 3
  go_wp2_with fail
  obtain ⟨X, hX⟩ : ∃ X, X = mayO o := ⟨_, rfl⟩
  refine (mayO_p o a n c w1 hn HL.out X (Lib.hid hX)).mono ?_
  rintro e w2 ⟨rfl, hb2⟩
  have HX := Lib.hid hX
  replace HRW := Lib.hid (HRW.out.after hb2)
  replace HL := Lib.hid (HL.out.below hb2)
  replace HB := Lib.hid (HB.out.trans (hb2.mono HB.out.size))
  replace HH := Lib.hid (HH.out.fresh hb2)
  replace HT := Lib.hid (HT.out.st (St.fresh hb2 (fun _ => False) col) (fun h => h))
  clear hX hb2 p0 p1 p2 p3 d0
  have hone : ∀ e, (mayO o = false ∨ o.k = 6 ∨ o.k = 7 ∨ o.k = 8) → e = fillE H m k o → e = 1 ∧ fillH H m k o = H := fun e hc he => by
    have h1 : fillE H m k o = 1 := by rw [HE2.out, if_pos hc]
    exact ⟨he.trans h1, HNO.out 1 h1 (by decide)⟩
  have HONE := Lib.hid hone
  clear hone
  have p0 : (w2).cell? ⟨w.heap.size, 0, none⟩ = some (.int .u8 (o.k.toNat : Int)) := HRW.out.cell 0
  have p1 : (w2).cell? ⟨w.heap.size, 1, none⟩ = some (.int .i64 o.t) := HRW.out.cell 1
  have p2 : (w2).cell? ⟨w.heap.size, 2, none⟩ = some (.slice a n c) := HRW.out.cell 2
  have p3 : (w2).cell? ⟨w.heap.size, 3, none⟩ = some (.string (str o.s)) := HRW.out.cell 3
  rw [← HP.out] at p0
  cases X with
  | false =>
    obtain ⟨rfl, h2⟩ := HONE.out E (.inl HX.out.symm) hE.out
    obtain rfl : H' = H := hH.out.trans h2
    clear h2
    go_wp2_with fail
    go_ret
    exact StepP.stay ⟨_, _, _, _, _, _, H0.out⟩ HB.out
  | true =>
  by_cases p6 : p = 6
  · obtain ⟨rfl, h2⟩ := HONE.out E (.inr (.inl (P6.out.2 p6))) hE.out
    obtain rfl : H' = H := hH.out.trans h2
    clear h2
    subst p6
    go_wp2_with fail
    go_ret
    exact StepP.stay ⟨_, _, _, _, _, _, H0.out⟩ HB.out
  have e6 : ((p : Int) == 6) = false := by rw [beq_eq_false_iff_ne]; omega
  by_cases p7 : p = 7
  · obtain ⟨rfl, h2⟩ := HONE.out E (.inr (.inr (.inl (P7.out.2 p7)))) hE.out
    obtain rfl : H' = H := hH.out.trans h2
    clear h2 p6
    subst p7
    go_wp2_with fail
    go_ret
    exact StepP.stay ⟨_, _, _, _, _, _, H0.out⟩ HB.out
  have e7 : ((p : Int) == 7) = false := by rw [beq_eq_false_iff_ne]; omega
  by_cases p8 : p = 8
  · obtain ⟨rfl, h2⟩ := HONE.out E (.inr (.inr (.inr (P8.out.2 p8)))) hE.out
    obtain rfl : H' = H := hH.out.trans h2
    clear h2 p6 p7
    subst p8
    go_wp2_with fail
    go_ret
    exact StepP.stay ⟨_, _, _, _, _, _, H0.out⟩ HB.out
  have e8 : ((p : Int) == 8) = false := by rw [beq_eq_false_iff_ne]; omega
  have HE3 : Hid (fillE H m k o = if m + 1 < usedH H + sizeO o then 6 else 0) := Lib.hid (by
    rw [HE2.out, if_neg ?_]
    rintro (h | h | h | h)
    · rw [← HX.out] at h; cases h
    · exact p6 (P6.out.1 h)
    · exact p7 (P7.out.1 h)
    · exact p8 (P8.out.1 h))
  clear HE2 p6 p7 p8 P6 P7 P8 HONE
  obtain ⟨ns, hns⟩ : ∃ x, x = o.s.length := ⟨_, rfl⟩
  have HNS := Lib.hid hns
  rw [← hns] at hs9
  obtain ⟨Z, hZ⟩ : ∃ x, x = sizeO o := ⟨_, rfl⟩
  have HZ := Lib.hid hZ
  have hZ9 : Z ≤ 2097153 := by rw [hZ, sizeO]; split <;> omega
  have hZ1 : 1 ≤ Z := by rw [hZ]; exact sizeO_pos o
  obtain ⟨u, hu⟩ : ∃ x, x = usedH H := ⟨_, rfl⟩
  have HUU := Lib.hid hu
  have hu9 : u ≤ 16777216 := by have := hg.room; omega
  have hum : u ≤ m := by have := hg.room; omega
  clear hns hZ hu
  go_upto_region 10 with fail
  rw [HP.out] at p0
  have q0 := later_cell p0
  have q1 := later_cell p1
  have q2 := later_cell p2
  have q3 := later_cell p3
  have q4 := later_cell HH.out.c0
  have q6 : w2.cell? ⟨b, 1, none⟩ = some (.int .i64 (u : Nat)) := by rw [HUU.out]; exact HH.out.c1
  have q5 := later_cell q6
  clear p0 p1 p2 p3 q6 e6 e7 e8
  try go_frame
  refine wp_region_idx Rb Rb_refl Rb_trans [(0,0),(0,2),(0,3),(0,4),(0,5),(0,6),(0,7),(0,8),(0,9),(0,10),(0,11),(1,1),(0,12),(0,13)] (by kernel_rfl) (by kernel_rfl) (by kernel_rfl) ?_
  simp only [pickO, List.getD_cons_succ, List.getD_cons_zero]
  refine wpCan_seg 11 (by kernel_rfl) ?_
  simp only [List.take_succ_cons, List.take_zero, List.drop_succ_cons, List.drop_zero, List.map_cons, List.map_nil]
  iterate 11 (go_big_quiet_step (fail))
  refine wpQuiet_nil ?_
  clear q0 q1 q2 q3 q4 q5
  refine wpCan_list (k := 0) (fun KK hK => ?_) (fun _ => Rb_refl _)
  go_wp2_with fail
  refine (size_any o a n c ns w2.drew hn HNS.out.symm (by omega) (by omega) Z HZ).mono ?_
  rintro e w3 ⟨rfl, hb3⟩
  go_wp2_with fail
  refine hK _ _ (fun _ => hb3) ?_
  clear hK KK
  refine wpCan_seg 2 (by kernel_rfl) ?_
  simp only [List.take_succ_cons, List.take_zero, List.drop_succ_cons, List.drop_zero, List.map_cons, List.map_nil]
  iterate 2 (go_big_quiet_step (fail))
  refine wpQuiet_nil ?_
  unfold wpCan
  have hb3' : Below w2.heap.size w2 w3 := (Below.refl w2.heap.size w2).drew.trans hb3
  replace HRW := Lib.hid (HRW.out.after hb3')
  replace HL := Lib.hid (HL.out.below hb3')
  replace HB := Lib.hid (HB.out.trans (hb3'.mono HB.out.size))
  replace HH := Lib.hid (HH.out.fresh hb3')
  replace HT := Lib.hid (HT.out.st (St.fresh hb3' (fun _ => False) col) (fun h => h))
  clear hb3 hb3'
  by_cases hfull : m + 1 < u + Z
  · have hfull' : (m : Int) - (u : Int) + 1 < (Z : Int) := by omega
    have hE6 : fillE H m k o = 6 := by rw [HE3.out, if_pos (by rw [← HUU.out, ← HZ.out]; exact hfull)]
    obtain rfl : E = 6 := hE.out.trans hE6
    obtain rfl : H' = H := hH.out.trans (HNO.out 6 hE6 (by decide))
    clear hE6 hfull
    go_wp2_with fail
    go_ret
    exact StepP.stay ⟨_, _, _, _, _, _, H0.out⟩ HB.out
  have hfull' : (Z : Int) ≤ (m : Int) - (u : Int) + 1 := by omega
  have hE0 : fillE H m k o = 0 := by rw [HE3.out, if_neg (by rw [← HUU.out, ← HZ.out]; exact hfull)]
  obtain rfl : E = 0 := hE.out.trans hE0
  obtain rfl : H' = putTh H k { thAt H k with o := o } := by rw [hH.out, fillH, if_pos hE0]
  have hgood := fill_keep hg k (m := m) o
  rw [fillH, if_pos hE0] at hgood
  have HGG := Lib.hid hgood
  clear hE0 hgood hfull
  have p0 : (w3).cell? ⟨w.heap.size, 0, none⟩ = some (.int .u8 (o.k.toNat : Int)) := HRW.out.cell 0
  have p1 : (w3).cell? ⟨w.heap.size, 1, none⟩ = some (.int .i64 o.t) := HRW.out.cell 1
  have p2 : (w3).cell? ⟨w.heap.size, 2, none⟩ = some (.slice a n c) := HRW.out.cell 2
  have p3 : (w3).cell? ⟨w.heap.size, 3, none⟩ = some (.string (str o.s)) := HRW.out.cell 3
  go_wp2_with fail
  refine (cloneO_any o.k.toNat o.t a n c o.l (str o.s) w3 HL.out (by omega)).mono ?_
  rintro e w4 ⟨v4, rfl, ho4, hb4⟩
  have HO4 := Lib.hid (ho4.mono HB.out.size)
  replace HRW := Lib.hid (HRW.out.after hb4)
  replace HB := Lib.hid (HB.out.trans (hb4.mono HB.out.size))
  replace HH := Lib.hid (HH.out.fresh hb4)
  replace HT := Lib.hid (HT.out.st (St.fresh hb4 (fun _ => False) col) (fun h => h))
  obtain ⟨av, cv, rfl⟩ := ho4.form
  have hrow := HT.out.row
  have HGS : Hid (g < w.heap.size) := Lib.hid (by
    obtain ⟨g', v', hat', hth'⟩ := H0.out.has HI.out
    have : g' = g := Option.some.inj (hat'.symm.trans hat)
    rw [← this]
    exact hth'.row.lt)
  clear ho4 hb4 p0 p1 p2 p3 HL
  go_upto_region 13 with (refine wpL_storePart rfl _ _ _ rfl (cs := [.int .u8 (o.k.toNat : Int), .int .i64 o.t, .slice av n cv, .string (str o.s)]) rfl rfl ?_ (by kernel_rfl) hrow (by simp [thRow]) ?_; (intro x hx; simp only [List.mem_cons, List.not_mem_nil, or_false] at hx; rcases hx with rfl | rfl | rfl | rfl <;> rfl); intro w5 hg5 hr5)
  have hr5' : Row w5 g 85 (thRow (.slice av n cv) { thAt H k with o := o }) := hr5
  have hngb : g ≠ b := col_ne HT.out.cg HH.out.cb (hc5 k)
  have hngt : g ≠ bt := col_ne HT.out.cg HH.out.ct (hc5 k)
  have hngm : g ≠ bm := col_ne HT.out.cg HH.out.cm (hc5 k)
  have hsz : w.heap.size ≠ g := by have := HGS.out; omega
  have HR5 := Lib.hid hr5'
  have HM5 := Lib.hid (Mods.grown hg5)
  have HB5 := Lib.hid (HH.out.row.grown hg5 (fun e => hngb (Option.some.inj e).symm))
  have HMP5 := Lib.hid (HH.out.mp.kept hg5 (fun e => hngm (Option.some.inj e).symm))
  have HTM5 := Lib.hid (HH.out.tm.kept hg5 (fun e => hngt (Option.some.inj e).symm))
  have HO5 := Lib.hid (HO4.out.kept hg5 (own_ne HO4.out HGS.out))
  replace HRW := Lib.hid (HRW.out.grown hg5 (fun e => hsz (Option.some.inj e)))
  clear hr5 hr5' hrow hg5 HO4
  have p0 : (w5).cell? ⟨w.heap.size, 0, none⟩ = some (.int .u8 (o.k.toNat : Int)) := HRW.out.cell 0
  have p1 : (w5).cell? ⟨w.heap.size, 1, none⟩ = some (.int .i64 o.t) := HRW.out.cell 1
  have p2 : (w5).cell? ⟨w.heap.size, 2, none⟩ = some (.slice a n c) := HRW.out.cell 2
  have p3 : (w5).cell? ⟨w.heap.size, 3, none⟩ = some (.string (str o.s)) := HRW.out.cell 3
  have q0 := later_cell p0
  have q1 := later_cell p1
  have q2 := later_cell p2
  have q3 := later_cell p3
  have q6 : w5.cell? ⟨b, 1, none⟩ = some (.int .i64 (u : Nat)) := by rw [HUU.out]; exact HB5.out.cell 1
  have q5 := later_cell q6
  clear p0 p1 p2 p3 q6
  try go_frame
  refine wp_region_idx Rb Rb_refl Rb_trans [(0,0),(0,1),(0,2),(0,3),(0,4),(1,5),(0,6),(0,7),(0,8),(0,9),(2,10)] (by kernel_rfl) (by kernel_rfl) (by kernel_rfl) ?_
  simp only [pickO, List.getD_cons_succ, List.getD_cons_zero]
  refine wpCan_seg 5 (by kernel_rfl) ?_
  simp only [List.take_succ_cons, List.take_zero, List.drop_succ_cons, List.drop_zero, List.map_cons, List.map_nil]
  iterate 5 (go_big_quiet_step (fail))
  refine wpQuiet_nil ?_
  clear q0 q1 q2 q3 q5
  refine wpCan_list (k := 0) (fun KK hK => ?_) (fun _ => Rb_refl _)
  go_wp2_with fail
  refine (size_any o a n c ns w5.drew hn HNS.out.symm (by omega) (by omega) Z HZ).mono ?_
  rintro e w6 ⟨rfl, hb6⟩
  go_wp2_with fail
  refine hK _ _ (fun _ => hb6) ?_
  clear hK KK
  have HB6 : Hid (Below w5.heap.size w5 w6) := Lib.hid ((Below.refl w5.heap.size w5).drew.trans hb6)
  have hrow := HB5.out.after HB6.out
  clear hb6 HRW
  refine wpCan_seg 4 (by kernel_rfl) ?_
  simp only [List.take_succ_cons, List.take_zero, List.drop_succ_cons, List.drop_zero, List.map_cons, List.map_nil]
  iterate 4 (go_big_quiet_step (fail))
  refine wpQuiet_nil ?_
  refine wpCan_list (k := 1) (fun KK hK => ?_) (fun h => by cases h)
  refine wpL_storeAt rfl _ _ _ rfl (v := .int .i64 ((u : Int) + ((Z : Int) - 1))) rfl rfl rfl rfl (by kernel_rfl) hrow rfl ?_
  intro w7 hg7 hr7
  refine hK _ _ (fun h => by cases h) ?_
  clear hK KK
  unfold wpCan
  go_wp2_with fail
  go_ret
  have km : St (fun y => y = 5 ∨ y = hc k) col w (recol col w.heap.size (hc k)) w7 := (St.new HB.out _ col (hc k)).trans ⟨((HM5.out.mono (fun y e => .inr (by rw [← Option.some.inj e]; exact (recol_lt HGS.out).trans HT.out.cg))).trans (Mods.fresh HB6.out _)).trans ((Mods.grown hg7).mono (fun y e => .inl (by rw [← Option.some.inj e]; exact (recol_lt H0.out.row.lt).trans H0.out.cb))), fun _ _ => rfl⟩
  have hof := of_same hg HGG.out (fun j => by rw [oid_put hg HI.out]; split; (rename_i e; rw [e]); rfl)
  have hO7 := (HO5.out.below HB6.out).kept hg7 (own_ne HO5.out H0.out.row.lt)
  refine ⟨rfl, _, km.mono (fun y hy => by rcases hy with rfl | rfl; exact five_HQ; exact hc_HQ k), _, _, _, _, _, _, H0.out.poke (x := { thAt H k with o := o }) hg HI.out hat HI.out km ⟨.slice av n cv, (HR5.out.after HB6.out).grown hg7 (fun e => hngb (Option.some.inj e)), (recol_lt HGS.out).trans HT.out.cg, ⟨by have := hO7.mono (Nat.zero_le _); rw [← hn] at this ⊢; exact this, fun z hz => recol_ge (hO7.lt z hz)⟩, fun z hz e => by have := hO7.lt z hz; have := HGS.out; omega⟩ ?_ ((HMP5.out.below HB6.out).kept hg7 (fun e => H0.out.nm (Option.some.inj e))) ((HTM5.out.below HB6.out).kept hg7 (fun e => H0.out.nt (Option.some.inj e))) (fun y => by rw [hof]; exact H0.out.tk y) (fun y => by rw [hof]; exact H0.out.tv y)⟩
  have e1 : ((u : Int) + ((Z : Int) - 1)) = ((usedH (putTh H k { thAt H k with o := o }) : Nat) : Int) := by
    obtain ⟨i, hi, hl, _⟩ := thAt_is HI.out
    have hp := hg.pos HI.out
    have h1 := usedH_put (H := H) (k := k) (h := { thAt H k with o := o }) (by omega) (by omega)
    have h2 : sz (thAt H k) = 1 := by rw [sz, if_pos HI.out, sizeO, if_pos HY8.out]
    have h3 : sz { thAt H k with o := o } = Z := by rw [sz, if_pos HI.out, HZ.out]
    have h4 := HUU.out
    omega
  rw [← e1]
  exact hr7
end Go.Proofs.Ytekmgffjdheifaa
