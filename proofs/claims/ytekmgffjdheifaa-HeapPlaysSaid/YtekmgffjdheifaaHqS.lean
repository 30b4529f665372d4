/-
  The document's heap: Fill. Conditions: the heap reads as one.
-/
import Derived.Test.YtekmgffjdheifaaHqR
namespace Go.Proofs.Ytekmgffjdheifaa
open Go Go.RowKit
set_option linter.unusedVariables false
set_option linter.unusedSimpArgs false
set_option maxRecDepth 100000

section
variable {col : Nat → Nat} {w w1 w' : World} {r m gl ol cl : Nat} {H : List Th} {cs : List Value} {vs : Nat → Value}
/-- a thing's object is another one, in new memory -/
theorem RfIn.setObj (h : RfIn col w r m H gl ol cl cs vs) {i : Nat} (hi : i < H.length) {t : Th} (hIA : H.getD i noTh = t) {o' : Ob} {v' : Value} (hb : Below w.heap.size w w1) (hv : Own w1 w.heap.size 2 v' o'.l.length (wcells o'.l)) (hg : w1.grownBy w' (some gl))
    (hown : Own w' 0 7 (.slice (some ⟨gl, ol, none⟩) H.length cl) H.length (splice cs (i * 7) [.int .u8 (o'.k.toNat : Int), .int .i64 o'.t, v', .string (str o'.s)])) :
    ∃ col', St RQ col w col' w' ∧ RfAt col' w' r m (putTh H i { t with o := o' }) := by
  have K1 : St (fun _ => False) col w (recol col w.heap.size (rc i)) w1 := St.new hb _ _ _
  have hl := h.own.1.1
  have hgc : recol col w.heap.size (rc i) gl = 6 := (K1.ext gl (h.own.1.lives gl rfl)).trans (h.own.2 gl rfl)
  have K2 : St (fun y => y = 6) (recol col w.heap.size (rc i)) w1 (recol col w.heap.size (rc i)) w' := St.one hg _ _ hgc
  have K : St (fun y => y = 6 ∨ y = rc i) col w (recol col w.heap.size (rc i)) w' := (K1.mono (fun _ e => e.elim)).trans (K2.mono (fun _ e => .inl e))
  have hv' : OwnC (recol col w.heap.size (rc i)) w1 (rc i) 2 v' o'.l.length (wcells o'.l) := OwnC.new hv
  refine ⟨recol col w.heap.size (rc i), K.mono (fun x hx => by rcases hx with hx | hx; exact .inl hx; rw [hx]; exact rc_RQ i), gl, ol, cl, _, _, h.put hi (h' := { t with o := o' }) (v' := v') K ((h.row.after hb).grown hg (fun e => h.ne (Option.some.inj e).symm)) hown (fun q j hq hj => ?_) (hv'.st K2 (by unfold rc; omega))⟩
  rw [splice_get _ _ _ _ (by simp; omega)]
  by_cases e : q = i
  · subst e
    rw [if_pos rfl]
    by_cases hj4 : j < 4
    · rw [if_pos (by simp; omega), show q * 7 + j - q * 7 = j by omega]
      (have : j = 0 ∨ j = 1 ∨ j = 2 ∨ j = 3 := by omega)
      rcases this with rfl | rfl | rfl | rfl <;> rfl
    · rw [if_neg (by simp; omega), h.at_ q j hi hj, hIA]
      (have : j = 4 ∨ j = 5 ∨ j = 6 := by omega)
      rcases this with rfl | rfl | rfl <;> rfl
  · rw [if_neg (by simp; omega), if_neg e]
set_option maxHeartbeats 8000000 in
theorem fillR_p (h : RfIn col w r m H gl ol cl cs vs) (hg : Hid (Good H m)) (hm : m ≤ 16777216) (k : Int) (o : Ob) (a : Option Addr) (n c : Nat) (hn : o.l.length = n) (hn9 : n ≤ 1048576) (hs9 : o.s.length ≤ 1048576) (hl : Sl w 2 (.slice a n c) n (wcells o.l)) (E : Int) (hE : Hid (E = fillE H m k o)) (H' : List Th) (hH : Hid (H' = fillH H m k o)) :
    Calls Try.prog 64 #[.pointer (some ⟨r, 0, none⟩), .int .i64 k, .agg #[.int .u8 (o.k.toNat : Int), .int .i64 o.t, .slice a n c, .string (str o.s)]] w (StepR (.int .i64 E) H' m col w r) := by
  obtain ⟨w1, hw1⟩ : ∃ x, x = w.alloc (.cells #[.int .u8 (o.k.toNat : Int), .int .i64 o.t, .slice a n c, .string (str o.s)] 25) := ⟨_, rfl⟩
  have hb1 : Below w.heap.size w w1 := by rw [hw1]; exact (Below.refl _ _).alloc (Nat.le_refl _) _
  have HR1 : Hid (Row w1 w.heap.size 25 [.int .u8 (o.k.toNat : Int), .int .i64 o.t, .slice a n c, .string (str o.s)]) := Lib.hid (by rw [hw1]; exact Row.new w _ _)
  have HL1 := Lib.hid (hl.below hb1)
  have HB1 := Lib.hid hb1
  have H0 := Lib.hid h
  have HH := Lib.hid (h.fresh hb1)
  have HNL := Lib.hid hn
  have HS9 := Lib.hid hs9
  clear h hl hn hs9 hb1
  go_enter Try.func64, Try.ntmps64
  go_upto_region 1 with fail
  rw [← hw1]
  clear hw1
  try go_frame
  cases his : (thAt H k).is with
  | false =>
    have HI := Lib.hid his
    have e1 : fillE H m k o = 7 := by rw [fillE, if_pos his]
    obtain rfl : E = 7 := hE.out.trans e1
    obtain rfl : H' = H := by rw [hH.out, fillH, e1]; rfl
    clear his hE hH e1
    go_wp2_with fail
    refine (has_p HH.out k false (Lib.hid HI.out.symm)).mono ?_
    rintro e w2 ⟨rfl, rfl⟩
    have HB3 := HB1
    go_wp2_with fail
    go_ret
    exact StepR.stay H0.out.at HB3.out
  | true =>
  obtain ⟨i, rfl, hi, hIA⟩ := HH.out.there his
  have HI := Lib.hid his
  have c1 := HH.out.c1
  have hcap := HH.out.cap
  have hi' : (i : Int) < H.length := by omega
  obtain ⟨d0, d1, d2, d3, d4, d5, d6⟩ := HH.out.all hi
  rw [hIA] at d0
  have HIA := Lib.hid hIA
  have HIL := Lib.hid hi
  obtain ⟨q, hq⟩ : ∃ q, q = (thAt H (i : Nat)).o.k.toNat := ⟨_, rfl⟩
  rw [← hq] at d0
  have HK8 : Hid ((thAt H (i : Nat)).o.k = 8 ↔ q = 8) := Lib.hid (by rw [hq]; exact u8_eq)
  have HIF : Hid (¬ (thAt H (i : Nat)).is = false) := Lib.hid (by rw [his]; decide)
  clear d1 d2 d3 d4 d5 d6 hq hIA hi his
  go_wp2_with fail
  refine (has_p HH.out (i : Nat) true (Lib.hid HI.out.symm)).mono ?_
  rintro e w2 ⟨rfl, rfl⟩
  by_cases hq8 : q = 8
  rotate_left
  · have e1 : fillE H m (i : Nat) o = 3 := by rw [fillE, if_neg HIF.out, if_pos (fun e => hq8 (HK8.out.1 e))]
    obtain rfl : E = 3 := hE.out.trans e1
    obtain rfl : H' = H := by rw [hH.out, fillH, e1]; rfl
    have hq1 : ((q : Int) != 8) = true := by rw [bne_iff_ne]; omega
    clear hE hH e1
    have HB3 := HB1
    go_wp2_with fail
    go_ret
    exact StepR.stay H0.out.at HB3.out
  subst hq8
  have e0 : fillE H m (i : Nat) o = if mayO o = false ∨ o.k = 6 ∨ o.k = 7 ∨ o.k = 8 then 1 else if m + 1 < usedH H + sizeO o then 6 else 0 := by rw [fillE, if_neg HIF.out, if_neg (fun e => e (HK8.out.2 rfl))]
  have E0 := Lib.hid e0
  clear e0
  have r0 := HR1.out.cell 0
  have r1 := HR1.out.cell 1
  have r2 := HR1.out.cell 2
  have r3 := HR1.out.cell 3
  simp only [List.getElem?_cons_zero, List.getElem?_cons_succ] at r0 r1 r2 r3
  obtain ⟨X, hX⟩ : ∃ X, X = mayO o := ⟨_, rfl⟩
  have HX := Lib.hid hX
  clear hX
  go_wp2_with fail
  refine (mayR_any o a n c _ HL1.out hn9 X HX).mono ?_
  rintro e w2 ⟨rfl, hb2⟩
  have HR2 := Lib.hid (HR1.out.after hb2)
  have HL2 := Lib.hid (HL1.out.below hb2)
  have HH2 := Lib.hid (HH.out.fresh hb2)
  have HB3 := Lib.hid (HB1.out.trans (hb2.mono HB1.out.size))
  clear HR1 HL1 HH HB1 hb2 r0 r1 r2 r3 c1 d0 hcap hi'
  have r0 := HR2.out.cell 0
  have r1 := HR2.out.cell 1
  have r2 := HR2.out.cell 2
  have r3 := HR2.out.cell 3
  simp only [List.getElem?_cons_zero, List.getElem?_cons_succ] at r0 r1 r2 r3
  have hbadE : Hid ((mayO o = false ∨ o.k = 6 ∨ o.k = 7 ∨ o.k = 8) → E = 1 ∧ H' = H) := Lib.hid (fun hb => by
    have e1 := E0.out
    rw [if_pos hb] at e1
    exact ⟨hE.out.trans e1, by rw [hH.out, fillH, e1]; rfl⟩)
  cases X with
  | false =>
    obtain ⟨rfl, rfl⟩ := hbadE.out (.inl HX.out.symm)
    go_wp2_with fail
    go_ret
    exact StepR.stay H0.out.at HB3.out
  | true =>
  by_cases k6 : o.k = 6
  · obtain ⟨rfl, rfl⟩ := hbadE.out (.inr (.inl k6))
    have k6' : ((o.k.toNat : Int) == 6) = true := by rw [k6]; rfl
    clear k6
    go_wp2_with fail
    go_ret
    exact StepR.stay H0.out.at HB3.out
  have k6' : ((o.k.toNat : Int) == 6) = false := by simp; intro e; exact k6 (u8_eq.2 (by have : (6 : UInt8).toNat = 6 := rfl; omega))
  by_cases k7 : o.k = 7
  · obtain ⟨rfl, rfl⟩ := hbadE.out (.inr (.inr (.inl k7)))
    have k7' : ((o.k.toNat : Int) == 7) = true := by rw [k7]; rfl
    clear k7 k6
    go_wp2_with fail
    go_ret
    exact StepR.stay H0.out.at HB3.out
  have k7' : ((o.k.toNat : Int) == 7) = false := by simp; intro e; exact k7 (u8_eq.2 (by have : (7 : UInt8).toNat = 7 := rfl; omega))
  by_cases k8 : o.k = 8
  · obtain ⟨rfl, rfl⟩ := hbadE.out (.inr (.inr (.inr k8)))
    have k8' : ((o.k.toNat : Int) == 8) = true := by rw [k8]; rfl
    clear k8 k7 k6
    go_wp2_with fail
    go_ret
    exact StepR.stay H0.out.at HB3.out
  have k8' : ((o.k.toNat : Int) == 8) = false := by simp; intro e; exact k8 (u8_eq.2 (by have : (8 : UInt8).toNat = 8 := rfl; omega))
  have e1 : fillE H m (i : Nat) o = if m + 1 < usedH H + sizeO o then 6 else 0 := by
    rw [E0.out, if_neg]
    rintro (h | h | h | h)
    · rw [← HX.out] at h; cases h
    · exact k6 h
    · exact k7 h
    · exact k8 h
  have E1 := Lib.hid e1
  clear e1 k6 k7 k8 hbadE E0
  obtain ⟨U, hU⟩ : ∃ U, U = usedH H := ⟨_, rfl⟩
  obtain ⟨Z, hZ⟩ : ∃ Z, Z = sizeO o := ⟨_, rfl⟩
  rw [← hU, ← hZ] at E1
  have HU := Lib.hid hU
  have HZ := Lib.hid hZ
  have hU9 : U ≤ 16777216 := by rw [hU]; exact Nat.le_trans hg.out.room hm
  have hU1 : 1 ≤ U := by
    rw [hU]
    have h1 := sz_le (H := H) (i : Nat)
    rw [sz, if_pos HI.out] at h1
    exact Nat.le_trans (sizeO_pos _) h1
  have hZ9 : Z ≤ 16777216 := by rw [hZ]; have := HNL.out; have := HS9.out; unfold sizeO; split <;> omega
  clear hU hZ
  go_upto_region 7 with fail
  have q0 := later_cell r0
  have q1 := later_cell r1
  have q2 := later_cell r2
  have q3 := later_cell r3
  have qm := later_cell (HH2.out.c0)
  clear r0 r1 r2 r3
  try go_frame
  refine wp_region_idx Rb Rb_refl Rb_trans [(0,0),(0,3),(0,6),(0,7),(0,8),(0,9),(1,1),(0,2),(1,4),(0,5),(0,10)] (by kernel_rfl) (by kernel_rfl) (by kernel_rfl) ?_
  simp only [pickO, List.getD_cons_succ, List.getD_cons_zero]
  refine wpCan_seg 6 (by kernel_rfl) ?_
  simp only [List.take_succ_cons, List.take_zero, List.drop_succ_cons, List.drop_zero, List.map_cons, List.map_nil]
  iterate 6 (go_big_quiet_step (fail))
  refine wpQuiet_nil ?_
  clear q0 q1 q2 q3 qm
  refine wpCan_list (k := 0) (fun KK hK => ?_) (fun _ => Rb_refl _)
  go_wp2_with fail
  refine (usedR_p (HH2.out.fresh (Below.refl _ _).drew) hg hm U HU).mono ?_
  rintro e w5 ⟨rfl, hb5⟩
  go_wp2_with fail
  refine hK _ _ (fun _ => hb5) ?_
  clear hK KK
  have HB5 := Lib.hid ((Below.refl w2.heap.size w2).drew.trans hb5)
  clear hb5
  refine wpCan_seg 1 (by kernel_rfl) ?_
  simp only [List.take_succ_cons, List.take_zero, List.drop_succ_cons, List.drop_zero, List.map_cons, List.map_nil]
  iterate 1 (go_big_quiet_step (fail))
  refine wpQuiet_nil ?_
  refine wpCan_list (k := 0) (fun KK hK => ?_) (fun _ => Rb_refl _)
  go_wp2_with fail
  refine (sizeR_any o a n c o.s.length w5 HNL.out rfl (by omega) (by have := HS9.out; omega) Z HZ).mono ?_
  rintro e w6 ⟨rfl, hb6⟩
  go_wp2_with fail
  refine hK _ _ (fun _ => hb6) ?_
  clear hK KK
  have HB6 := Lib.hid (HB5.out.trans (hb6.mono HB5.out.size))
  clear hb6
  by_cases hfull : m + 1 < U + Z
  · have hf : (m : Int) < (U : Int) - 1 + (Z : Int) := by omega
    obtain rfl : E = 6 := hE.out.trans (E1.out.trans (if_pos hfull))
    obtain rfl : H' = H := by rw [hH.out, fillH, E1.out, if_pos hfull]; rfl
    refine wpCan_seg 2 (by kernel_rfl) ?_
    simp only [List.take_succ_cons, List.take_zero, List.drop_succ_cons, List.drop_zero, List.map_cons, List.map_nil]
    iterate 2 (go_big_quiet_step (fail))
    refine wpQuiet_nil ?_
    unfold wpCan
    go_wp2_with fail
    go_ret
    exact StepR.stay H0.out.at (HB3.out.trans (HB6.out.mono HB3.out.size))
  have hf : ¬ (m : Int) < (U : Int) - 1 + (Z : Int) := by omega
  obtain rfl : E = 0 := hE.out.trans (E1.out.trans (if_neg hfull))
  have HE : Hid (H' = putTh H (i : Nat) { thAt H (i : Nat) with o := o }) := Lib.hid (by rw [hH.out, fillH, E1.out, if_neg hfull]; rfl)
  clear hfull hE hH E1
  refine wpCan_seg 2 (by kernel_rfl) ?_
  simp only [List.take_succ_cons, List.take_zero, List.drop_succ_cons, List.drop_zero, List.map_cons, List.map_nil]
  iterate 2 (go_big_quiet_step (fail))
  refine wpQuiet_nil ?_
  unfold wpCan
  have HR6 := Lib.hid (HR2.out.after HB6.out)
  have HL6 := Lib.hid (HL2.out.below HB6.out)
  have HH6 := Lib.hid (HH2.out.fresh HB6.out)
  have HBW := Lib.hid (HB3.out.trans (HB6.out.mono HB3.out.size))
  clear HR2 HL2 HH2 HB3 HB5 HB6 hf
  go_upto_region 9 with fail
  have hcap := HH6.out.cap
  have hi' : (i : Int) < H.length := by have := HIL.out; omega
  have q0 := later_cell (show w6.cell? ⟨w.heap.size, 0, none⟩ = some (.int .u8 (o.k.toNat : Int)) from HR6.out.cell 0)
  have q1 := later_cell (show w6.cell? ⟨w.heap.size, 1, none⟩ = some (.int .i64 o.t) from HR6.out.cell 1)
  have q2 := later_cell (show w6.cell? ⟨w.heap.size, 2, none⟩ = some (.slice a n c) from HR6.out.cell 2)
  have q3 := later_cell (show w6.cell? ⟨w.heap.size, 3, none⟩ = some (.string (str o.s)) from HR6.out.cell 3)
  have qc := later_cell (HH6.out.c1)
  try go_frame
  refine wp_region_idx Rb Rb_refl Rb_trans [(0,0),(0,1),(0,2),(0,3),(0,4),(0,5),(1,6),(2,7),(2,8),(2,9)] (by kernel_rfl) (by kernel_rfl) (by kernel_rfl) ?_
  simp only [pickO, List.getD_cons_succ, List.getD_cons_zero]
  refine wpCan_seg 6 (by kernel_rfl) ?_
  simp only [List.take_succ_cons, List.take_zero, List.drop_succ_cons, List.drop_zero, List.map_cons, List.map_nil]
  iterate 6 (go_big_quiet_step (fail))
  refine wpQuiet_nil ?_
  clear q0 q1 q2 q3 qc
  refine wpCan_list (k := 0) (fun KK hK => ?_) (fun _ => Rb_refl _)
  go_wp2_with fail
  refine (copy_any o.k.toNat o.t a n c o.l o.s w6.drew (HL6.out.below (Below.refl _ _).drew) hn9).mono ?_
  rintro e w7 ⟨vC, rfl, hoC, hbC⟩
  go_wp2_with fail
  refine hK _ _ (fun _ => hbC) ?_
  clear hK KK
  have HB7 : Hid (Below w6.heap.size w6 w7) := Lib.hid ((Below.refl _ _).drew.trans hbC)
  obtain ⟨aC, cC, rfl⟩ := hoC.form
  have HOC : Hid (Own w7 w6.heap.size 2 (.slice aC n cC) n (wcells o.l)) := Lib.hid hoC
  clear hoC hbC
  refine wpCan_list (k := 1) (fun KK hK => ?_) (fun h => by cases h)
  go_wp2_with fail
  refine hK _ _ (fun h => by cases h) ?_
  clear hK KK
  refine wpCan_list (k := 1) (fun KK hK => ?_) (fun h => by cases h)
  go_wp2_with fail
  refine hK _ _ (fun h => by cases h) ?_
  clear hK KK
  have hlen7 : i * 7 + [Value.int .u8 (o.k.toNat : Int), .int .i64 o.t, .slice aC n cC, .string (str o.s)].length ≤ cs.length := by have := HH6.out.own.1.1; have := HIL.out; simp only [List.length_cons, List.length_nil]; omega
  refine wpCan_list (k := 1) (fun KK hK => ?_) (fun h => by cases h)
  refine wpL_storeOwnS rfl _ _ _ rfl (cs := [.int .u8 (o.k.toNat : Int), .int .i64 o.t, .slice aC n cC, .string (str o.s)]) rfl rfl (by simp [Value.oneCell']) (by kernel_rfl) (HH6.out.fresh HB7.out).own.1 (i * 7) rfl hlen7 ?_
  intro w8 hg8 ho8
  have HG8 := Lib.hid hg8
  have HO8 := Lib.hid ho8
  clear hg8 ho8
  refine hK _ _ (fun h => by cases h) ?_
  clear hK KK
  unfold wpCan
  go_wp2_with fail
  go_ret
  have hOC := HOC.out
  have hO8 := HO8.out
  rw [← HNL.out] at hOC hO8
  obtain ⟨col', f1, f2⟩ := HH6.out.setObj HIL.out HIA.out HB7.out hOC HG8.out hO8
  exact ⟨rfl, col', (St.fresh HBW.out RQ col).trans f1, by rw [HE.out]; exact f2⟩
end
end Go.Proofs.Ytekmgffjdheifaa
