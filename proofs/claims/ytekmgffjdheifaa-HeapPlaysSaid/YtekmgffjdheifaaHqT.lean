/-
  The document's heap: Alloc. Conditions: the heap reads as one.
-/
import Derived.Test.YtekmgffjdheifaaHqS
namespace Go.Proofs.Ytekmgffjdheifaa
open Go Go.RowKit
set_option linter.unusedVariables false
set_option linter.unusedSimpArgs false
set_option maxRecDepth 100000

/-- in a region that draws: all stays but one block -/
def RG (g : Nat) (w w' : World) : Prop := Mods (fun x => x = g) w w'
theorem RG_refl (g : Nat) (w : World) : RG g w w := Mods.refl _ _
theorem RG_trans (g : Nat) (x y z : World) (h : RG g x y) (k : RG g y z) : RG g x z := Mods.trans h k
instance laterRG (g : Nat) (w : World) : Nonempty (Later (RG g) w) := nonemptyLater (RG_refl g) w
theorem laterG_cell {g : Nat} {w : World} {b o : Nat} {v : Value} (h : w.cell? ⟨b, o, none⟩ = some v) (hb : b ≠ g) : ∀ x : Later (RG g) w.drew, x.w.cell? ⟨b, o, none⟩ = some v :=
  fun x => Mods.cell x.later h hb
section
variable {col : Nat → Nat} {w w2 wE wA wF wG : World} {r m gl ol cl : Nat} {H : List Th} {cs : List Value} {vs : Nat → Value}
/-- one thing more -/
theorem RfIn.snoc (h : RfIn col w2 r m H gl ol cl cs vs) (hbE : Below w2.heap.size w2 wE) {t : Th} {vC : Value} (hv : Own wE w2.heap.size 2 vC t.o.l.length (wcells t.o.l)) (hbA : Below wE.heap.size wE wA) {v' : Value} (hF : Own wF 0 7 v' (H.length + 1) (cs ++ tcell t vC)) (hgF : wA.grownBy wF (some gl))
    (hX : ∀ g, v'.ownBlock = some g → (Value.slice (some ⟨gl, ol, none⟩) H.length cl).ownBlock = some g ∨ wA.heap.size ≤ g) (hgG : wF.grownBy wG (some r)) (hrow : Row wG r 101 [.int .i64 (m : Nat), v']) : ∃ col', St RQ col w2 col' wG ∧ RfAt col' wG r m (H ++ [t]) := by
  have K1 : St (fun _ => False) col w2 (recol col w2.heap.size (rc H.length)) wE := St.new hbE _ _ _
  have V1 : OwnC (recol col w2.heap.size (rc H.length)) wE (rc H.length) 2 vC t.o.l.length (wcells t.o.l) := OwnC.new hv
  generalize recol col w2.heap.size (rc H.length) = colP at K1 V1
  have h1 := h.st K1 (fun _ _ h => h)
  have K2 : St (fun _ => False) colP wE (recol colP wE.heap.size 6) wA := St.new hbA _ _ _
  have hnew : ∀ g, wA.heap.size ≤ g → recol colP wE.heap.size 6 g = 6 := fun g hg => recol_ge (Nat.le_trans hbA.size hg)
  generalize recol colP wE.heap.size 6 = colQ at K2 hnew
  have h2 := h1.st K2 (fun _ _ h => h)
  have V2 := V1.st K2 (fun h => h)
  have hgc : colQ gl = 6 := h2.own.2 gl rfl
  have hrc : colQ r = 6 := h2.cr
  have hrl := h2.row.lt
  have K3 : St (fun y => y = 6) colQ wA colQ wF := St.one hgF _ _ hgc
  have K4 : St (fun y => y = 6) colQ wF colQ wG := St.one hgG _ _ hrc
  have hB : ∀ g, v'.ownBlock = some g → colQ g = 6 ∧ g ≠ r := fun g hg => by
    rcases hX g hg with e | e
    · cases e
      exact ⟨hgc, h2.ne⟩
    · exact ⟨hnew g e, by omega⟩
  obtain ⟨gl', ol', cl', rfl, _⟩ := hF.open (Nat.succ_pos _) (by decide)
  have hcl := h.own.1.1
  have hG : Own wG 0 7 (.slice (some ⟨gl', ol', none⟩) (H.length + 1) cl') (H.length + 1) (cs ++ tcell t vC) := hF.kept hgG (.inr (fun e => (hB gl' rfl).2 (Option.some.inj e)))
  have hlen : (H ++ [t]).length = H.length + 1 := by simp
  have hat : ∀ q, q < H.length → (H ++ [t]).getD q noTh = H.getD q noTh := fun q hq => by
    rw [List.getD_eq_getElem?_getD, List.getD_eq_getElem?_getD, List.getElem?_append_left hq]
  have hat1 : (H ++ [t]).getD H.length noTh = t := by
    rw [List.getD_eq_getElem?_getD, List.getElem?_append_right (Nat.le_refl _), Nat.sub_self]
    rfl
  refine ⟨colQ, ((K1.mono (fun _ e => e.elim)).trans (K2.mono (fun _ e => e.elim))).trans ((K3.trans K4).mono (fun x hx => .inl hx)), gl', ol', cl', cs ++ tcell t vC, fun q => if q = H.length then vC else vs q, by rw [hlen]; exact hrow, hrc, by rw [hlen]; exact ⟨hG, fun g hg => (hB g hg).1⟩, (hB gl' rfl).2, fun q j hq hj => ?_, fun q hq => ?_⟩
  · rw [hlen] at hq
    by_cases e : q = H.length
    · subst e
      rw [hat1, if_pos rfl, List.getElem?_append_right (by omega), hcl, show H.length * 7 + j - H.length * 7 = j by omega]
    · rw [hat q (by omega), if_neg e, List.getElem?_append_left (by omega)]
      exact h.at_ q j (by omega) hj
  · rw [hlen] at hq
    by_cases e : q = H.length
    · subst e
      rw [hat1]
      simp only [if_true]
      exact (V2.st K3 (by unfold rc; omega)).st K4 (by unfold rc; omega)
    · rw [hat q (by omega)]
      simp only [if_neg e]
      exact ((h2.ws q (by omega)).st K3 (by unfold rc; omega)).st K4 (by unfold rc; omega)
def AllocRP (N E : Int) (H' : List Th) (m : Nat) (col : Nat → Nat) (w : World) (r : Nat) (e : Ending) (w' : World) : Prop := e = .returned (.tuple #[.int .i64 N, .int .i64 E]) ∧ ∃ col', St RQ col w col' w' ∧ RfAt col' w' r m H'
set_option maxHeartbeats 8000000 in
theorem allocR_p (h : RfIn col w r m H gl ol cl cs vs) (hg : Hid (Good H m)) (hm : m ≤ 16777216) (hlen9 : H.length ≤ 1000000) (o : Ob) (a : Option Addr) (n c : Nat) (hn : o.l.length = n) (hn9 : n ≤ 1048576) (hs9 : o.s.length ≤ 1048576) (hl : Sl w 2 (.slice a n c) n (wcells o.l)) (N E : Int) (hE : Hid (N = allocN H m o ∧ E = allocE H m o)) (H' : List Th) (hH : Hid (H' = allocH H m o)) :
    Calls Try.prog 56 #[.pointer (some ⟨r, 0, none⟩), .agg #[.int .u8 (o.k.toNat : Int), .int .i64 o.t, .slice a n c, .string (str o.s)]] w (AllocRP N E H' m col w r) := by
  obtain ⟨w1, hw1⟩ : ∃ x, x = w.alloc (.cells #[.int .u8 (o.k.toNat : Int), .int .i64 o.t, .slice a n c, .string (str o.s)] 25) := ⟨_, rfl⟩
  have hb1 : Below w.heap.size w w1 := by rw [hw1]; exact (Below.refl _ _).alloc (Nat.le_refl _) _
  have HR1 : Hid (Row w1 w.heap.size 25 [.int .u8 (o.k.toNat : Int), .int .i64 o.t, .slice a n c, .string (str o.s)]) := Lib.hid (by rw [hw1]; exact Row.new w _ _)
  have HL1 := Lib.hid (hl.below hb1)
  have HB1 := Lib.hid hb1
  have H0 := Lib.hid h
  have HH := Lib.hid (h.fresh hb1)
  have HNL := Lib.hid hn
  have HS9 := Lib.hid hs9
  have r0 := HR1.out.cell 0
  have r1 := HR1.out.cell 1
  have r2 := HR1.out.cell 2
  have r3 := HR1.out.cell 3
  simp only [List.getElem?_cons_zero, List.getElem?_cons_succ] at r0 r1 r2 r3
  have e0 : allocE H m o = if mayO o = false then 1 else if o.k = 8 ∧ 0 < ofH H o.t then 3 else if m < usedH H + sizeO o then 6 else 0 := rfl
  obtain ⟨U, hU⟩ : ∃ U, U = usedH H := ⟨_, rfl⟩
  obtain ⟨Z, hZ⟩ : ∃ Z, Z = sizeO o := ⟨_, rfl⟩
  obtain ⟨X, hX⟩ : ∃ X, X = mayO o := ⟨_, rfl⟩
  obtain ⟨qf, hqf⟩ : ∃ qf, qf = ofH H o.t := ⟨_, rfl⟩
  rw [← hU, ← hZ, ← hX, ← hqf] at e0
  have E0 := Lib.hid e0
  have HU := Lib.hid hU
  have HZ := Lib.hid hZ
  have HX := Lib.hid hX
  have HQF := Lib.hid hqf
  have hU9 : U ≤ 16777216 := by rw [hU]; exact Nat.le_trans hg.out.room hm
  have hZ9 : Z ≤ 16777216 := by rw [hZ]; have := HNL.out; have := HS9.out; unfold sizeO; split <;> omega
  have HZR : Hid ((thAt H 0).is = false) := Lib.hid (by rw [hg.out.zero]; rfl)
  have HNO : Hid (∀ x : Int, x ≠ 0 → allocE H m o = x → N = 0 ∧ E = x ∧ H' = H) := Lib.hid (fun x hx he => ⟨by rw [hE.out.1, allocN, he, if_neg hx], hE.out.2.trans he, by rw [hH.out, allocH, he, if_neg hx]⟩)
  clear h hl hn hs9 hb1 hU hZ hX hqf e0
  go_enter Try.func56, Try.ntmps56
  go_upto_region 1 with fail
  rw [← hw1]
  clear hw1
  try go_frame
  go_wp2_with fail
  refine (mayR_any o a n c _ HL1.out hn9 X HX).mono ?_
  rintro e w2 ⟨rfl, hb2⟩
  have HR2 := Lib.hid (HR1.out.after hb2)
  have HL2 := Lib.hid (HL1.out.below hb2)
  have HH2 := Lib.hid (HH.out.fresh hb2)
  have HB2 := Lib.hid (HB1.out.trans (hb2.mono HB1.out.size))
  clear HR1 HL1 HH HB1 hb2 r0 r1 r2 r3
  have r0 := HR2.out.cell 0
  have r1 := HR2.out.cell 1
  have r2 := HR2.out.cell 2
  have r3 := HR2.out.cell 3
  simp only [List.getElem?_cons_zero, List.getElem?_cons_succ] at r0 r1 r2 r3
  cases X with
  | false =>
    obtain ⟨rfl, rfl, rfl⟩ := HNO.out 1 (by decide) (by rw [E0.out]; rfl)
    go_wp2_with fail
    go_ret2
    exact ⟨rfl, col, St.fresh HB2.out _ _, H0.out.at.fresh HB2.out⟩
  | true =>
  go_wp2_with fail
  refine (copy_any o.k.toNat o.t a n c o.l o.s w2 HL2.out hn9).mono ?_
  rintro e w3 ⟨vC, rfl, hoC, hbC⟩
  obtain ⟨aC, cC, rfl⟩ := hoC.form
  have HVC := Lib.hid hoC
  have hvx : ∀ g, (Value.slice aC n cC).ownBlock = some g → g < w3.heap.size := fun g hg => hoC.lives g hg
  have HR3 := Lib.hid (HR2.out.after hbC)
  have HBC := Lib.hid hbC
  clear hoC hbC r0 r1 r2 r3
  obtain ⟨gx, hgx⟩ : ∃ g, g = w3.heap.size := ⟨_, rfl⟩
  go_upto_region 4 with (refine wpL_storeRow rfl _ _ _ rfl (cs := [.int .u8 (o.k.toNat : Int), .int .i64 o.t, .slice aC n cC, .string (str o.s), .bool true, .int .i64 0, .bool false]) rfl rfl (Row.new _ _ _) (by kernel_rfl) rfl rfl ?_; intro w4 hg4 hr4)
  have hb4 : Below w3.heap.size w3 w4 := below_grown ((Below.refl _ _).alloc (Nat.le_refl _) _) hg4 (Nat.le_refl _) (by simp)
  have HR4 := Lib.hid (HR3.out.after hb4)
  have HT4 : Hid (Row w4 gx 103 [.int .u8 (o.k.toNat : Int), .int .i64 o.t, .slice aC n cC, .string (str o.s), .bool true, .int .i64 0, .bool false]) := Lib.hid (by rw [hgx]; exact hr4)
  have HV4 := Lib.hid (HVC.out.below hb4)
  have HB24 := Lib.hid (HBC.out.trans (hb4.mono HBC.out.size))
  have HVX : Hid (∀ g, (Value.slice aC n cC).ownBlock = some g → g < gx) := Lib.hid (by rw [hgx]; exact hvx)
  have HGX : Hid (w2.heap.size ≤ gx) := Lib.hid (by rw [hgx]; exact HBC.out.size)
  have HWX : Hid (gx ≠ w.heap.size) := Lib.hid (by rw [hgx]; have h1 := HBC.out.size; have h2 := HR2.out.lt; omega)
  have HH4 := Lib.hid (HH2.out.fresh HB24.out)
  have HB4 := Lib.hid (HB2.out.trans (HB24.out.mono HB2.out.size))
  rw [← hgx]
  clear hg4 hr4 hb4 HR3 HVC HBC hgx hvx
  have r0 := HR4.out.cell 0
  have r1 := HR4.out.cell 1
  simp only [List.getElem?_cons_zero, List.getElem?_cons_succ] at r0 r1
  try go_frame
  by_cases k8 : o.k = 8
  · have E8 : Hid (allocE H m o = if 0 < qf then 3 else if m < U + Z then 6 else 0) := Lib.hid (by
      rw [E0.out, if_neg (by decide)]
      by_cases h0 : 0 < qf
      · rw [if_pos ⟨k8, h0⟩, if_pos h0]
      · rw [if_neg (fun h => h0 h.2), if_neg h0])
    have HT9 : Hid (newTh o = ⟨o, true, o.t, false⟩) := Lib.hid (by rw [newTh, if_pos k8])
    have k8' : ((o.k.toNat : Int) == 8) = true := by rw [k8]; rfl
    clear k8
    by_cases hq0 : 0 < qf
    · obtain ⟨rfl, rfl, rfl⟩ := HNO.out 3 (by decide) (by rw [E8.out, if_pos hq0])
      go_wp2_with fail
      refine (ofR_p HH4.out HZR o.t qf HQF).mono ?_
      rintro e w5 ⟨rfl, rfl⟩
      go_wp2_with fail
      go_ret2
      exact ⟨rfl, col, St.fresh HB4.out _ _, H0.out.at.fresh HB4.out⟩
    go_wp2_with fail
    refine (ofR_p HH4.out HZR o.t qf HQF).mono ?_
    rintro e w5 ⟨rfl, rfl⟩
    go_upto_region 9 with (refine wpL_storeAt rfl _ _ _ rfl (v := .int .i64 o.t) rfl rfl rfl rfl (by kernel_rfl) HT4.out rfl ?_; intro w8 hg8 hr8)
    have HT8 : Hid (Row w8 gx 103 [.int .u8 (o.k.toNat : Int), .int .i64 o.t, .slice aC n cC, .string (str o.s), .bool true, .int .i64 o.t, .bool false]) := Lib.hid hr8
    have HR8 := Lib.hid (HR4.out.grown hg8 (fun e => HWX.out (Option.some.inj e).symm))
    have HV8 := Lib.hid (HV4.out.kept hg8 (by
      cases hq : (Value.slice aC n cC).ownBlock with
      | none => exact .inl rfl
      | some g => exact .inr (fun e => by have := HVX.out g hq; have e2 := Option.some.inj e; omega)))
    have HB28 := Lib.hid (HB24.out.grown hg8 HB24.out.size (fun g e => by cases e; exact HGX.out))
    have HH8 := Lib.hid (HH2.out.fresh HB28.out)
    have HB8 := Lib.hid (HB2.out.trans (HB28.out.mono HB2.out.size))
    have HFULL : Hid (m < U + Z → N = 0 ∧ E = 6 ∧ H' = H) := Lib.hid (fun hf => HNO.out 6 (by decide) (by rw [E8.out, if_neg (show ¬ 0 < qf by omega), if_pos hf]))
    have HOK : Hid (¬ m < U + Z → N = (H.length : Nat) ∧ E = 0 ∧ H' = H ++ [⟨o, true, o.t, false⟩]) := Lib.hid (fun hf => by
      have e : allocE H m o = 0 := by rw [E8.out, if_neg (show ¬ 0 < qf by omega), if_neg hf]
      exact ⟨by rw [hE.out.1, allocN, e, if_pos rfl], hE.out.2.trans e, by rw [hH.out, allocH, e, if_pos rfl, HT9.out]⟩)
    clear hg8 hr8 HR4 HT4 HV4 HH4 HB24 HB4 r0 r1 hq0 E8 HT9
    have r0 := HR8.out.cell 0
    have r1 := HR8.out.cell 1
    have r2 := HR8.out.cell 2
    have r3 := HR8.out.cell 3
    simp only [List.getElem?_cons_zero, List.getElem?_cons_succ] at r0 r1 r2 r3
    go_upto_region 9 with fail
    have q0 := later_cell r0
    have q1 := later_cell r1
    have q2 := later_cell r2
    have q3 := later_cell r3
    have qm := later_cell (HH8.out.c0)
    clear r0 r1 r2 r3
    try go_frame
    refine wp_region_idx Rb Rb_refl Rb_trans [(0,0),(0,2),(0,5),(0,6),(0,7),(0,8),(1,1),(1,3),(0,4),(0,9)] (by kernel_rfl) (by kernel_rfl) (by kernel_rfl) ?_
    simp only [pickO, List.getD_cons_succ, List.getD_cons_zero]
    refine wpCan_seg 6 (by kernel_rfl) ?_
    simp only [List.take_succ_cons, List.take_zero, List.drop_succ_cons, List.drop_zero, List.map_cons, List.map_nil]
    iterate 6 (go_big_quiet_step (fail))
    refine wpQuiet_nil ?_
    clear q0 q1 q2 q3 qm
    refine wpCan_list (k := 0) (fun KK hK => ?_) (fun _ => Rb_refl _)
    go_wp2_with fail
    refine (usedR_p (HH8.out.fresh (Below.refl _ _).drew) hg hm U HU).mono ?_
    rintro e w9 ⟨rfl, hb9⟩
    go_wp2_with fail
    refine hK _ _ (fun _ => hb9) ?_
    clear hK KK
    have HB9 := Lib.hid ((Below.refl w8.heap.size w8).drew.trans hb9)
    clear hb9
    refine wpCan_list (k := 0) (fun KK hK => ?_) (fun _ => Rb_refl _)
    go_wp2_with fail
    refine (sizeR_any o a n c o.s.length w9 HNL.out rfl (by omega) (by have := HS9.out; omega) Z HZ).mono ?_
    rintro e wE ⟨rfl, hbE⟩
    go_wp2_with fail
    refine hK _ _ (fun _ => hbE) ?_
    clear hK KK
    have HBE := Lib.hid (HB9.out.trans (hbE.mono HB9.out.size))
    clear hbE HB9
    by_cases hfull : m < U + Z
    · have hf : (m : Int) < (U : Int) + (Z : Int) := by omega
      obtain ⟨rfl, rfl, rfl⟩ := HFULL.out hfull
      refine wpCan_seg 2 (by kernel_rfl) ?_
      simp only [List.take_succ_cons, List.take_zero, List.drop_succ_cons, List.drop_zero, List.map_cons, List.map_nil]
      iterate 2 (go_big_quiet_step (fail))
      refine wpQuiet_nil ?_
      unfold wpCan
      go_wp2_with fail
      go_ret2
      exact ⟨rfl, col, St.fresh (HB8.out.trans (HBE.out.mono HB8.out.size)) _ _, H0.out.at.fresh (HB8.out.trans (HBE.out.mono HB8.out.size))⟩
    have hf : ¬ (m : Int) < (U : Int) + (Z : Int) := by omega
    obtain ⟨rfl, rfl, rfl⟩ := HOK.out hfull
    clear hfull HFULL HOK
    refine wpCan_seg 2 (by kernel_rfl) ?_
    simp only [List.take_succ_cons, List.take_zero, List.drop_succ_cons, List.drop_zero, List.map_cons, List.map_nil]
    iterate 2 (go_big_quiet_step (fail))
    refine wpQuiet_nil ?_
    unfold wpCan
    have HTE := Lib.hid (HT8.out.after HBE.out)
    have HHE := Lib.hid (HH8.out.fresh HBE.out)
    have HVE := Lib.hid (HV8.out.below HBE.out)
    have HB2E := Lib.hid (HB28.out.trans (HBE.out.mono HB28.out.size))
    clear HT8 HH8 HV8 HB28 hf
    go_upto_region 11 with fail
    have hgr : gx ≠ gl := fun e => by have h1 := HH2.out.own.1.lives gl rfl; have h2 := HGX.out; omega
    have hrg : r ≠ gl := fun e => HHE.out.ne e.symm
    have t0 := laterG_cell (g := gl) (HTE.out.cell 0) hgr
    have t1 := laterG_cell (g := gl) (HTE.out.cell 1) hgr
    have t2 := laterG_cell (g := gl) (HTE.out.cell 2) hgr
    have t3 := laterG_cell (g := gl) (HTE.out.cell 3) hgr
    have t4 := laterG_cell (g := gl) (HTE.out.cell 4) hgr
    have t5 := laterG_cell (g := gl) (HTE.out.cell 5) hgr
    have t6 := laterG_cell (g := gl) (HTE.out.cell 6) hgr
    have qc := laterG_cell (g := gl) (HHE.out.c1) hrg
    try go_frame
    refine wp_region_idx (RG gl) (RG_refl gl) (RG_trans gl) [(0,0),(0,1),(0,2),(0,3),(0,4),(0,5),(1,6),(1,7),(2,8),(2,9),(2,10)] (by kernel_rfl) (by kernel_rfl) (by kernel_rfl) ?_
    simp only [pickO, List.getD_cons_succ, List.getD_cons_zero]
    refine wpCan_seg 6 (by kernel_rfl) ?_
    simp only [List.take_succ_cons, List.take_zero, List.drop_succ_cons, List.drop_zero, List.map_cons, List.map_nil]
    iterate 6 (go_big_quiet_step (fail))
    refine wpQuiet_nil ?_
    clear t0 t1 t2 t3 t4 t5 t6 qc
    refine wpCan_list (k := 0) (fun KK hK => ?_) (fun _ => RG_refl _ _)
    go_wp2_with fail
    obtain ⟨tc, htc⟩ : ∃ x, x = ([.int .u8 (o.k.toNat : Int), .int .i64 o.t, .slice aC n cC, .string (str o.s), .bool true, .int .i64 (o.t), .bool false] : List Value) := ⟨_, rfl⟩
    obtain ⟨wA, hwA⟩ : ∃ x, x = (wE.alloc (.cells #[.int .u8 (o.k.toNat : Int), .int .i64 o.t, .slice aC n cC, .string (str o.s), .bool true, .int .i64 (o.t), .bool false] 103)).drew := ⟨_, rfl⟩
    rw [← hwA]
    have hbA : Below wE.heap.size wE wA := by rw [hwA]; exact ((Below.refl wE.heap.size wE).alloc (Nat.le_refl _) _).drew
    have HSA : Hid (Sl wA 7 (.slice (some ⟨wE.heap.size, 0, none⟩) 1 1) 1 tc) := Lib.hid (by rw [hwA, htc]; exact (Sl.litS wE [.int .u8 (o.k.toNat : Int), .int .i64 o.t, .slice aC n cC, .string (str o.s), .bool true, .int .i64 (o.t), .bool false] 103 7 1 rfl (by decide)).drew)
    have HOA := Lib.hid (HHE.out.fresh hbA).own.1
    have HBA := Lib.hid hbA
    refine hK _ wA (fun _ => Mods.fresh (by rw [hwA]; exact ⟨rfl, rfl, rfl, by simp, fun k hk => Below.heap_alloc wE _ k hk⟩) _) ?_
    clear hK KK hbA
    have HTC := Lib.hid htc
    have h1c : ∀ u ∈ tc, u.oneCell' = true := by rw [htc]; simp [Value.oneCell']
    clear htc hwA
    refine wpCan_list (k := 0) (fun KK hK => ?_) (fun _ => RG_refl _ _)
    go_wp2_with (at_builtin; refine wpL_appendX2 etTg rfl _ _ rfl HOA.out rfl HSA.out rfl h1c (by omega) (by simp [maxLen]; omega) (Nat.zero_le _) ?_; intro vF wF hoF hgF hXF; obtain ⟨aF, cF, rfl⟩ := hoF.form)
    refine hK _ _ (fun _ => (Mods.grown hgF).mono (fun g e => (Option.some.inj e).symm)) ?_
    clear hK KK
    have HOF := Lib.hid hoF
    have HGF := Lib.hid hgF
    have HXF := Lib.hid hXF
    clear hoF hgF hXF
    refine wpCan_list (k := 1) (fun KK hK => ?_) (fun h => by cases h)
    go_wp2_with fail
    refine hK _ _ (fun h => by cases h) ?_
    clear hK KK
    refine wpCan_list (k := 1) (fun KK hK => ?_) (fun h => by cases h)
    go_wp2_with fail
    refine hK _ _ (fun h => by cases h) ?_
    clear hK KK
    have hrF : Row wF r 101 [.int .i64 (m : Nat), .slice (some ⟨gl, ol, none⟩) H.length cl] := ((HHE.out.fresh HBA.out).row).grown HGF.out (fun e => HHE.out.ne (Option.some.inj e).symm)
    refine wpCan_list (k := 1) (fun KK hK => ?_) (fun h => by cases h)
    refine wpL_storeAt rfl _ _ _ rfl (v := .slice aF (H.length + 1) cF) rfl rfl rfl rfl (by kernel_rfl) hrF rfl ?_
    intro wG hgG hrG
    refine hK _ _ (fun h => by cases h) ?_
    clear hK KK
    unfold wpCan
    have HGG := Lib.hid hgG
    have HRG : Hid (Row wG r 101 [.int .i64 (m : Nat), .slice aF (H.length + 1) cF]) := Lib.hid hrG
    clear hgG hrG hrF
    have c1 : wG.cell? ⟨r, 1, none⟩ = some (.slice aF (H.length + 1) cF) := HRG.out.cell 1
    go_wp2_with fail
    go_ret2
    have hVE := HVE.out
    have hOF := HOF.out
    rw [HTC.out] at hOF
    rw [← HNL.out] at hVE hOF
    obtain ⟨col', f1, f2⟩ := HH2.out.snoc (t := ⟨o, true, (o.t), false⟩) HB2E.out hVE HBA.out hOF HGF.out HXF.out HGG.out HRG.out
    exact ⟨by congr <;> omega, col', (St.fresh HB2.out RQ col).trans f1, f2⟩
  · have E8 : Hid (allocE H m o = if m < U + Z then 6 else 0) := Lib.hid (by rw [E0.out, if_neg (by decide), if_neg (fun h => k8 h.1)])
    have HT9 : Hid (newTh o = ⟨o, true, 0, false⟩) := Lib.hid (by rw [newTh, if_neg k8])
    have k8' : ((o.k.toNat : Int) == 8) = false := by simp; intro e; exact k8 (u8_eq.2 (by have : (8 : UInt8).toNat = 8 := rfl; omega))
    clear k8
    have HFULL : Hid (m < U + Z → N = 0 ∧ E = 6 ∧ H' = H) := Lib.hid (fun hf => HNO.out 6 (by decide) (by rw [E8.out, if_pos hf]))
    have HOK : Hid (¬ m < U + Z → N = (H.length : Nat) ∧ E = 0 ∧ H' = H ++ [⟨o, true, 0, false⟩]) := Lib.hid (fun hf => by
      have e : allocE H m o = 0 := by rw [E8.out, if_neg hf]
      exact ⟨by rw [hE.out.1, allocN, e, if_pos rfl], hE.out.2.trans e, by rw [hH.out, allocH, e, if_pos rfl, HT9.out]⟩)
    go_upto_region 9 with fail
    obtain ⟨w8, hw8⟩ : ∃ x, x = w4 := ⟨_, rfl⟩
    rw [← hw8] at HR4 HT4 HV4 HH4 HB24 HB4 ⊢
    have HR8 := HR4
    have HT8 := HT4
    have HV8 := HV4
    have HB28 := HB24
    have HH8 := HH4
    have HB8 := HB4
    clear hw8 HR4 HT4 HV4 HH4 HB24 HB4 r0 r1 E8 HT9
    have r0 := HR8.out.cell 0
    have r1 := HR8.out.cell 1
    have r2 := HR8.out.cell 2
    have r3 := HR8.out.cell 3
    simp only [List.getElem?_cons_zero, List.getElem?_cons_succ] at r0 r1 r2 r3
    go_upto_region 9 with fail
    have q0 := later_cell r0
    have q1 := later_cell r1
    have q2 := later_cell r2
    have q3 := later_cell r3
    have qm := later_cell (HH8.out.c0)
    clear r0 r1 r2 r3
    try go_frame
    refine wp_region_idx Rb Rb_refl Rb_trans [(0,0),(0,2),(0,5),(0,6),(0,7),(0,8),(1,1),(1,3),(0,4),(0,9)] (by kernel_rfl) (by kernel_rfl) (by kernel_rfl) ?_
    simp only [pickO, List.getD_cons_succ, List.getD_cons_zero]
    refine wpCan_seg 6 (by kernel_rfl) ?_
    simp only [List.take_succ_cons, List.take_zero, List.drop_succ_cons, List.drop_zero, List.map_cons, List.map_nil]
    iterate 6 (go_big_quiet_step (fail))
    refine wpQuiet_nil ?_
    clear q0 q1 q2 q3 qm
    refine wpCan_list (k := 0) (fun KK hK => ?_) (fun _ => Rb_refl _)
    go_wp2_with fail
    refine (usedR_p (HH8.out.fresh (Below.refl _ _).drew) hg hm U HU).mono ?_
    rintro e w9 ⟨rfl, hb9⟩
    go_wp2_with fail
    refine hK _ _ (fun _ => hb9) ?_
    clear hK KK
    have HB9 := Lib.hid ((Below.refl w8.heap.size w8).drew.trans hb9)
    clear hb9
    refine wpCan_list (k := 0) (fun KK hK => ?_) (fun _ => Rb_refl _)
    go_wp2_with fail
    refine (sizeR_any o a n c o.s.length w9 HNL.out rfl (by omega) (by have := HS9.out; omega) Z HZ).mono ?_
    rintro e wE ⟨rfl, hbE⟩
    go_wp2_with fail
    refine hK _ _ (fun _ => hbE) ?_
    clear hK KK
    have HBE := Lib.hid (HB9.out.trans (hbE.mono HB9.out.size))
    clear hbE HB9
    by_cases hfull : m < U + Z
    · have hf : (m : Int) < (U : Int) + (Z : Int) := by omega
      obtain ⟨rfl, rfl, rfl⟩ := HFULL.out hfull
      refine wpCan_seg 2 (by kernel_rfl) ?_
      simp only [List.take_succ_cons, List.take_zero, List.drop_succ_cons, List.drop_zero, List.map_cons, List.map_nil]
      iterate 2 (go_big_quiet_step (fail))
      refine wpQuiet_nil ?_
      unfold wpCan
      go_wp2_with fail
      go_ret2
      exact ⟨rfl, col, St.fresh (HB8.out.trans (HBE.out.mono HB8.out.size)) _ _, H0.out.at.fresh (HB8.out.trans (HBE.out.mono HB8.out.size))⟩
    have hf : ¬ (m : Int) < (U : Int) + (Z : Int) := by omega
    obtain ⟨rfl, rfl, rfl⟩ := HOK.out hfull
    clear hfull HFULL HOK
    refine wpCan_seg 2 (by kernel_rfl) ?_
    simp only [List.take_succ_cons, List.take_zero, List.drop_succ_cons, List.drop_zero, List.map_cons, List.map_nil]
    iterate 2 (go_big_quiet_step (fail))
    refine wpQuiet_nil ?_
    unfold wpCan
    have HTE := Lib.hid (HT8.out.after HBE.out)
    have HHE := Lib.hid (HH8.out.fresh HBE.out)
    have HVE := Lib.hid (HV8.out.below HBE.out)
    have HB2E := Lib.hid (HB28.out.trans (HBE.out.mono HB28.out.size))
    clear HT8 HH8 HV8 HB28 hf
    go_upto_region 11 with fail
    have hgr : gx ≠ gl := fun e => by have h1 := HH2.out.own.1.lives gl rfl; have h2 := HGX.out; omega
    have hrg : r ≠ gl := fun e => HHE.out.ne e.symm
    have t0 := laterG_cell (g := gl) (HTE.out.cell 0) hgr
    have t1 := laterG_cell (g := gl) (HTE.out.cell 1) hgr
    have t2 := laterG_cell (g := gl) (HTE.out.cell 2) hgr
    have t3 := laterG_cell (g := gl) (HTE.out.cell 3) hgr
    have t4 := laterG_cell (g := gl) (HTE.out.cell 4) hgr
    have t5 := laterG_cell (g := gl) (HTE.out.cell 5) hgr
    have t6 := laterG_cell (g := gl) (HTE.out.cell 6) hgr
    have qc := laterG_cell (g := gl) (HHE.out.c1) hrg
    try go_frame
    refine wp_region_idx (RG gl) (RG_refl gl) (RG_trans gl) [(0,0),(0,1),(0,2),(0,3),(0,4),(0,5),(1,6),(1,7),(2,8),(2,9),(2,10)] (by kernel_rfl) (by kernel_rfl) (by kernel_rfl) ?_
    simp only [pickO, List.getD_cons_succ, List.getD_cons_zero]
    refine wpCan_seg 6 (by kernel_rfl) ?_
    simp only [List.take_succ_cons, List.take_zero, List.drop_succ_cons, List.drop_zero, List.map_cons, List.map_nil]
    iterate 6 (go_big_quiet_step (fail))
    refine wpQuiet_nil ?_
    clear t0 t1 t2 t3 t4 t5 t6 qc
    refine wpCan_list (k := 0) (fun KK hK => ?_) (fun _ => RG_refl _ _)
    go_wp2_with fail
    obtain ⟨tc, htc⟩ : ∃ x, x = ([.int .u8 (o.k.toNat : Int), .int .i64 o.t, .slice aC n cC, .string (str o.s), .bool true, .int .i64 (0 : Int), .bool false] : List Value) := ⟨_, rfl⟩
    obtain ⟨wA, hwA⟩ : ∃ x, x = (wE.alloc (.cells #[.int .u8 (o.k.toNat : Int), .int .i64 o.t, .slice aC n cC, .string (str o.s), .bool true, .int .i64 (0 : Int), .bool false] 103)).drew := ⟨_, rfl⟩
    rw [← hwA]
    have hbA : Below wE.heap.size wE wA := by rw [hwA]; exact ((Below.refl wE.heap.size wE).alloc (Nat.le_refl _) _).drew
    have HSA : Hid (Sl wA 7 (.slice (some ⟨wE.heap.size, 0, none⟩) 1 1) 1 tc) := Lib.hid (by rw [hwA, htc]; exact (Sl.litS wE [.int .u8 (o.k.toNat : Int), .int .i64 o.t, .slice aC n cC, .string (str o.s), .bool true, .int .i64 (0 : Int), .bool false] 103 7 1 rfl (by decide)).drew)
    have HOA := Lib.hid (HHE.out.fresh hbA).own.1
    have HBA := Lib.hid hbA
    refine hK _ wA (fun _ => Mods.fresh (by rw [hwA]; exact ⟨rfl, rfl, rfl, by simp, fun k hk => Below.heap_alloc wE _ k hk⟩) _) ?_
    clear hK KK hbA
    have HTC := Lib.hid htc
    have h1c : ∀ u ∈ tc, u.oneCell' = true := by rw [htc]; simp [Value.oneCell']
    clear htc hwA
    refine wpCan_list (k := 0) (fun KK hK => ?_) (fun _ => RG_refl _ _)
    go_wp2_with (at_builtin; refine wpL_appendX2 etTg rfl _ _ rfl HOA.out rfl HSA.out rfl h1c (by omega) (by simp [maxLen]; omega) (Nat.zero_le _) ?_; intro vF wF hoF hgF hXF; obtain ⟨aF, cF, rfl⟩ := hoF.form)
    refine hK _ _ (fun _ => (Mods.grown hgF).mono (fun g e => (Option.some.inj e).symm)) ?_
    clear hK KK
    have HOF := Lib.hid hoF
    have HGF := Lib.hid hgF
    have HXF := Lib.hid hXF
    clear hoF hgF hXF
    refine wpCan_list (k := 1) (fun KK hK => ?_) (fun h => by cases h)
    go_wp2_with fail
    refine hK _ _ (fun h => by cases h) ?_
    clear hK KK
    refine wpCan_list (k := 1) (fun KK hK => ?_) (fun h => by cases h)
    go_wp2_with fail
    refine hK _ _ (fun h => by cases h) ?_
    clear hK KK
    have hrF : Row wF r 101 [.int .i64 (m : Nat), .slice (some ⟨gl, ol, none⟩) H.length cl] := ((HHE.out.fresh HBA.out).row).grown HGF.out (fun e => HHE.out.ne (Option.some.inj e).symm)
    refine wpCan_list (k := 1) (fun KK hK => ?_) (fun h => by cases h)
    refine wpL_storeAt rfl _ _ _ rfl (v := .slice aF (H.length + 1) cF) rfl rfl rfl rfl (by kernel_rfl) hrF rfl ?_
    intro wG hgG hrG
    refine hK _ _ (fun h => by cases h) ?_
    clear hK KK
    unfold wpCan
    have HGG := Lib.hid hgG
    have HRG : Hid (Row wG r 101 [.int .i64 (m : Nat), .slice aF (H.length + 1) cF]) := Lib.hid hrG
    clear hgG hrG hrF
    have c1 : wG.cell? ⟨r, 1, none⟩ = some (.slice aF (H.length + 1) cF) := HRG.out.cell 1
    go_wp2_with fail
    go_ret2
    have hVE := HVE.out
    have hOF := HOF.out
    rw [HTC.out] at hOF
    rw [← HNL.out] at hVE hOF
    obtain ⟨col', f1, f2⟩ := HH2.out.snoc (t := ⟨o, true, (0 : Int), false⟩) HB2E.out hVE HBA.out hOF HGF.out HXF.out HGG.out HRG.out
    exact ⟨by congr <;> omega, col', (St.fresh HB2.out RQ col).trans f1, f2⟩
end
end Go.Proofs.Ytekmgffjdheifaa
