/-
  A heap's Collect, walked. Conditions: the heap reads as one; 2^20 roots at most.
-/
import Derived.Test.YtekmgffjdheifaaHpJ
namespace Go.Proofs.Ytekmgffjdheifaa
open Go Go.RowKit
set_option linter.unusedVariables false
set_option linter.unusedSimpArgs false
set_option maxRecDepth 100000

theorem collect_nil (a : Option Addr) (n c : Nat) (w : World) : Calls Try.prog 29 #[.pointer none, .slice a n c] w fun e w' => e = .returned (.int .i64 0) ∧ w = w' := by
  go_enter Try.func29, Try.ntmps29
  go_wp2_with fail
  go_ret
  exact ⟨rfl, rfl⟩
theorem rows2 {w : World} {v1 v2 : Value} {n1 n2 : Nat} {l1 l2 : List Int} {a1 a2 : Option Addr} {c1 c2 : Nat} (e1 : v1 = .slice a1 n1 c1) (e2 : v2 = .slice a2 n2 c2) (h1 : Sl w 1 v1 n1 (ints l1)) (h2 : Sl w 1 v2 n2 (ints l2)) : RowsI w [v1, v2] [l1, l2] := by
  subst e1 e2
  have g1 : n1 = l1.length := by have := h1.1; rw [ints_length] at this; omega
  have g2 : n2 = l2.length := by have := h2.1; rw [ints_length] at this; omega
  subst g1 g2
  refine ⟨rfl, fun i r hr => ?_⟩
  match i, hr with
  | 0, hr => cases hr; exact ⟨_, _, rfl, h1⟩
  | 1, hr => cases hr; exact ⟨_, _, rfl, h2⟩
  | i + 2, hr => simp at hr
def CoRel (col col1 : Nat → Nat) (w : World) (b m bm bt bs r : Nat) (ss : List Int) (f : Int → Unit) (H : List Th) (R : List Int) (wr : World) : Prop :=
  ∃ (l : List Int) (Hc : List Th) (ks ts : List Int) (at_ : Int → Option Nat) (tf : Int → Int), Hid (RangeIs ptrE Try.prog 3 wr bm r ks at_ l) ∧ Hid (HpIn col1 wr b m Hc bm bt ks at_ ts tf) ∧ Hid (MapIs unitE Try.prog 3 wr bs ss f) ∧ Hid (Mid H R m l Hc) ∧ Hid (Mods (fun g => col g = 5) w wr)
theorem CoRel.mk {col col1 : Nat → Nat} {w : World} {b m bm bt bs r : Nat} {ss : List Int} {f : Int → Unit} {H : List Th} {R : List Int} {wr : World} {l : List Int} {Hc : List Th} {ks ts : List Int} {at_ : Int → Option Nat} {tf : Int → Int}
    (h1 : RangeIs ptrE Try.prog 3 wr bm r ks at_ l) (h2 : HpIn col1 wr b m Hc bm bt ks at_ ts tf) (h3 : MapIs unitE Try.prog 3 wr bs ss f) (h4 : Mid H R m l Hc) (h5 : Mods (fun g => col g = 5) w wr) : CoRel col col1 w b m bm bt bs r ss f H R wr :=
  ⟨l, Hc, ks, ts, at_, tf, Lib.hid h1, Lib.hid h2, Lib.hid h3, Lib.hid h4, Lib.hid h5⟩
set_option maxHeartbeats 16000000 in
theorem collect_p {col : Nat → Nat} {w : World} {b m bm bt : Nat} {H : List Th} {ks ts : List Int} {at_ : Int → Option Nat} {tf : Int → Int} (h : HpIn col w b m H bm bt ks at_ ts tf) (hg : Good H m) (hm : m ≤ 16777216) (hlen9 : H.length ≤ 1000000) (hwf : WfH H)
    (R : List Int) (a : Option Addr) (n c : Nat) (hR : Sl w 1 (.slice a n c) n (ints R)) (hRw : ∀ k ∈ R, (Lit.int .i64 k).wf = true) (hn9 : n ≤ 1048576) (H' : List Th) (hH : Hid (H' = collectH H R)) (N : Int) (hN : Hid (N = (countH H : Int) - (countH H' : Int))) :
    Calls Try.prog 29 #[.pointer (some ⟨b, 0, none⟩), .slice a n c] w (StepP (.int .i64 N) H' m col w b) := by
  have H0 := Lib.hid h
  have HR := Lib.hid hR
  have hRn : R.length = n := by have := hR.1; rw [ints_length] at this; omega
  have HRN := Lib.hid hRn
  obtain ⟨D, hD⟩ : ∃ D, D = dirtyL H := ⟨_, rfl⟩
  have hD9 : D.length ≤ 1000000 := by rw [hD]; exact Nat.le_trans (dirtyL_len H) hlen9
  have hDw : ∀ k ∈ D, (Lit.int .i64 k).wf = true := fun k hk => by
    rw [hD, mem_dirtyL] at hk
    obtain ⟨i, rfl, hi, _⟩ := thAt_is hk.1
    exact wf_lit (by omega) (by omega)
  have HRD : Hid (∀ k ∈ R ++ D, (Lit.int .i64 k).wf = true) := Lib.hid (fun k hk => by
    rcases List.mem_append.1 hk with h | h
    · exact hRw k h
    · exact hDw k h)
  obtain ⟨nd, hnd⟩ : ∃ nd, nd = D.length := ⟨_, rfl⟩
  have HD := Lib.hid hD
  have HND := Lib.hid hnd
  have HWF := Lib.hid hwf
  have hnd9 : nd ≤ 1000000 := by omega
  clear h hR hRw hRn hD hDw hnd hwf hD9
  go_enter Try.func29, Try.ntmps29
  go_wp2_with fail
  refine (dirty_p H0.out hg hlen9 D HD nd HND).mono ?_
  rintro e w1 ⟨aD, cD, rfl, ho1, hb1⟩
  have HO1 := Lib.hid ho1
  have HB1 := Lib.hid hb1
  clear ho1 hb1
  obtain ⟨w2, hw2⟩ : ∃ x, x = w1.alloc (.cells #[.slice a n c, .slice aD nd cD] 43) := ⟨_, rfl⟩
  have hb2 : Below w1.heap.size w1 w2 := by rw [hw2]; exact (Below.refl _ _).alloc (Nat.le_refl _) _
  have hsl2 : Sl w2 1 (.slice (some ⟨w1.heap.size, 0, none⟩) 2 2) 2 [.slice a n c, .slice aD nd cD] := by rw [hw2]; exact Sl.lit w1 [.slice a n c, .slice aD nd cD] _ 2 rfl (by decide)
  have hrows : RowsI w2 [.slice a n c, .slice aD nd cD] [R, D] := rows2 rfl rfl ((HR.out.below HB1.out).below hb2) (HO1.out.sl.below hb2)
  have HS2 := Lib.hid hsl2
  have HW2 := Lib.hid hrows
  have HB2 := Lib.hid (HB1.out.trans (hb2.mono HB1.out.size))
  clear hsl2 hrows hb2
  go_wp2_with fail
  rw [← hw2]
  clear hw2 HO1 HB1
  have hfl : [R, D].flatten = R ++ D := by simp
  refine (concatI_any (some ⟨w1.heap.size, 0, none⟩) 2 2 [.slice a n c, .slice aD nd cD] [R, D] w2 HS2.out HW2.out (by rw [hfl, List.length_append, HRN.out, ← HND.out]; omega)).mono ?_
  rw [hfl]
  rintro e w3 ⟨v3, rfl, ho3, hb3⟩
  have hlen3 : (R ++ D).length = n + nd := by rw [List.length_append, HRN.out, ← HND.out]
  rw [hlen3] at ho3
  have HO3 := Lib.hid ho3
  have HB3 := Lib.hid (HB2.out.trans (hb3.mono HB2.out.size))
  obtain ⟨a3, c3, rfl⟩ := ho3.form
  clear ho3 hb3 HS2 HW2 HB2 hfl hlen3
  go_wp2_with fail
  refine (reached_p (H0.out.fresh HB3.out) hg hm hlen9 (R ++ D) a3 (n + nd) c3 HO3.out.sl HRD.out (by omega) HWF.out).mono ?_
  rintro e w4 ⟨bs, rfl, ss, f, HX⟩
  have HSE : Hid (MapIs unitE Try.prog 3 w4 bs ss f) := Lib.hid HX.out.2.1
  have HLV : Hid (∀ k, k ∈ ss ↔ Live H (R ++ dirtyL H) k) := Lib.hid (by rw [← HD.out]; exact HX.out.2.2.1)
  have HB4 := Lib.hid (HB3.out.trans (HX.out.2.2.2.mono HB3.out.size))
  have hbsw : w.heap.size ≤ bs := Nat.le_trans HB3.out.size HX.out.1
  clear HX HO3 HB3
  have H4 := Lib.hid (H0.out.fresh HB4.out)
  have c3' := H4.out.c3
  have hlen := H4.out.mp.len mapTh 3
  rw [H4.out.count] at hlen
  have hmp := H4.out.mp
  obtain ⟨r, hr⟩ : ∃ r, r = w4.heap.size := ⟨_, rfl⟩
  have hrw : w.heap.size ≤ r := by rw [hr]; exact HB4.out.size
  have hrbs : bs < r := by rw [hr]; exact HSE.out.lt
  go_wp2_with (at_range; refine wpL_range hmp keyInt mapTh rfl _ rfl rfl ?_; intro w0 hrg0 hg0 hs0; rw [← hr] at hrg0 hs0 ⊢; have HRG := Lib.hid hrg0; have HG0 := Lib.hid hg0; clear hrg0 hg0 hs0 hmp c3' hlen)
  go_frame
  have hB0 : Below w4.heap.size w4 w0 := below_of_grown0 HG0.out
  obtain ⟨col1, hcol1⟩ : ∃ x, x = recol col w.heap.size 9 := ⟨_, rfl⟩
  have HCR : Hid (col1 r = 9) := Lib.hid (by rw [hcol1]; exact recol_ge hrw)
  have HCO : Hid (∀ g, g < w.heap.size → col1 g = col g) := Lib.hid (fun g hg => by rw [hcol1]; exact recol_lt hg)
  have HB0 := Lib.hid (HB4.out.trans (hB0.mono HB4.out.size))
  have HC0 : Hid (HpIn col1 w0 b m H bm bt ks at_ ts tf) := Lib.hid (by rw [hcol1]; exact H0.out.st (St.new HB0.out (fun _ => False) col 9) (fun _ _ h => h))
  have HS0 := Lib.hid (HSE.out.below hB0)
  have HM0 : Hid (Mid H R m ks H) := Lib.hid (Mid.start hg H0.out.keys)
  have HW0 : Hid (Mods (fun g => col g = 5) w w0) := Lib.hid (Mods.fresh HB0.out _)
  clear hcol1 hr HSE HB0 hB0 HG0 H4
  go_loopw [7] (fun _ wr => CoRel col col1 w b m bm bt bs r ss f H R wr) (fun _ wr => wr.rangeLeft bm r)
  case atStart => exact CoRel.mk HRG.out HC0.out HS0.out HM0.out HW0.out
  case round =>
    clear HRG HC0 HS0 HM0 HW0
    obtain ⟨l, Hc, ks, ts, at_, tf, HRG, HC, HS, HM, HW⟩ := hrel
    have hrg := HRG.out
    go_wp2_with (at_next; refine wpL_next hrg keyInt rfl _ rfl rfl ?_ ?_)
    · intro hl
      subst hl
      clear hrg
      have hfin := HM.out.done
      rw [← hH.out] at hfin
      subst hfin
      have c3 := HC.out.c3
      have hlen := HC.out.mp.len mapTh 3
      rw [HC.out.count] at hlen
      have hc1 : countH H ≤ 1000000 := Nat.le_trans List.countP_le_length hlen9
      have hc2 : countH Hc ≤ 1000000 := Nat.le_trans List.countP_le_length (by rw [HM.out.len]; exact hlen9)
      obtain ⟨n1, hn1⟩ : ∃ x, x = countH H := ⟨_, rfl⟩
      obtain ⟨n2, hn2⟩ : ∃ x, x = countH Hc := ⟨_, rfl⟩
      have hNN : N = (n1 : Int) - (n2 : Int) := by rw [hN.out, hn1, hn2]
      rw [← hn1] at hc1 ⊢
      rw [← hn2] at hc2 hlen
      subst hNN
      clear hn1 hn2
      go_wp2_with fail
      go_ret
      have km : St (fun y => y = 5) col w col1 wr := ⟨HW.out, HCO.out⟩
      exact ⟨rfl, col1, km.mono (fun y hy => .inl hy), _, _, _, _, _, _, HC.out⟩
    · intro x w2 hxl hxk hwx hrg2 hlt2 hg2 hs2 hen
      have hrl := hrg.lts
      have hnd := hrg.nodup
      have HND2 := Lib.hid hnd
      have k2 : St (fun y => y = 9) col1 wr col1 w2 := St.one hg2 _ _ HCR.out
      have HC2 := Lib.hid (HC.out.st k2 (fun y hy e => by rcases hy with h | h <;> omega))
      have HW2 := Lib.hid (HW.out.after (Mods.grown hg2) (fun g e => .inr (by rw [← Option.some.inj e]; exact hrw)))
      have hsm := HS.out.kept hg2 (fun e => by have := Option.some.inj e; omega)
      have HS2 := Lib.hid hsm
      have hlk := hsm.look_ok keyInt mapTu (zeroU _) hwx
      have HXL := Lib.hid (And.intro hxl hxk)
      have HRG2 := Lib.hid hrg2
      have HMS := Lib.hid hlt2
      have hxi : (thAt Hc x).is = true := (HC2.out.keys x).1 hxk
      obtain ⟨g, v, hat, hth⟩ := HC2.out.has hxi
      rw [show ptrE.val (at_ x) = .pointer (some ⟨g, 0, none⟩) from ptrV_some' hat] at hen ⊢
      have HTH := Lib.hid hth
      have HXI := Lib.hid hxi
      have HSZ := Lib.hid hs2
      clear hrg hrg2 hlt2 hnd hxl hxk hsm k2 hs2 hg2 hxi HC HS HW
      by_cases hlive : x ∈ ss
      · rw [decide_eq_true hlive] at hlk
        have HLL : Hid (Live H (R ++ dirtyL H) x) := Lib.hid ((HLV.out x).1 hlive)
        clear hlive
        go_wp2_with (refine wpL_storeRow rfl _ _ _ rfl (cs := []) rfl rfl (Row.new _ _ _) (by kernel_rfl) rfl rfl ?_; intro w5 hg5 hr5)
        have hb5 : Below w2.heap.size w2 w5 := below_grown ((Below.refl _ _).alloc (Nat.le_refl _) _) hg5 (Nat.le_refl _) (by simp)
        have hl2 := HRG2.out.lts
        refine ⟨CoRel.mk (HRG2.out.mods (Mods.fresh hb5 (fun _ => False)) (fun h => h) (fun h => h)) (HC2.out.fresh hb5) (HS2.out.below hb5) (HM.out.stay HND2.out HLL.out) (HW2.out.trans (Mods.fresh hb5 _)), ?_⟩
        rw [rangeLeft_mods (hb5.block bm hl2.1) (hb5.block r hl2.2)]
        exact HMS.out
      rw [decide_eq_false hlive] at hlk
      have HNL : Hid (¬ Live H (R ++ dirtyL H) x) := Lib.hid (fun e => hlive ((HLV.out x).2 e))
      clear hlive
      have hgc := HM.out.good
      have hmay := hgc.may x HXI.out
      have hwl := sizeO_words hmay
      have htx := sizeO_text hmay
      have hz1 := sz_le (H := Hc) x
      rw [show sz (thAt Hc x) = sizeO (thAt Hc x).o from if_pos HXI.out] at hz1
      have hroom := hgc.room
      obtain ⟨o, ho⟩ : ∃ o, o = (thAt Hc x).o := ⟨_, rfl⟩
      obtain ⟨oid, hoid⟩ : ∃ y, y = (thAt Hc x).oid := ⟨_, rfl⟩
      obtain ⟨nw, hnw⟩ : ∃ y, y = o.l.length := ⟨_, rfl⟩
      obtain ⟨ns, hns⟩ : ∃ y, y = o.s.length := ⟨_, rfl⟩
      obtain ⟨Z, hZ⟩ : ∃ y, y = sizeO o := ⟨_, rfl⟩
      obtain ⟨u, hu⟩ : ∃ y, y = usedH Hc := ⟨_, rfl⟩
      rw [← ho] at hwl htx hz1
      rw [← hZ, ← hnw] at hwl
      rw [← hZ, ← hns] at htx
      rw [← hZ, ← hu] at hz1
      rw [← hu] at hroom
      have d0 := hth.cell 0
      have d1 := hth.cell 1
      have d2 := hth.cell 2
      have d3 := hth.cell 3
      have d4 := hth.cell 4
      simp only [thRow, List.getElem?_cons_zero, List.getElem?_cons_succ] at d0 d1 d2 d3 d4
      rw [← ho] at d0 d1 d3
      rw [← hoid] at d4
      obtain ⟨av, cv, hv⟩ := hth.own.1.form
      rw [hv, ← ho, ← hnw] at d2
      have HO := Lib.hid ho
      have HOI := Lib.hid hoid
      have HNW := Lib.hid hnw
      have HNS := Lib.hid hns
      have HZ := Lib.hid hZ
      have HU := Lib.hid hu
      have hoid2 := hgc.oid x
      rw [← hoid] at hoid2
      clear ho hoid hnw hns hZ hu hv hth hmay hgc
      go_upto_region 10 with (refine wpL_storeRow rfl _ _ _ rfl (cs := []) rfl rfl (Row.new _ _ _) (by kernel_rfl) rfl rfl ?_; intro w5 hg5 hr5)
      have hb5 : Below w2.heap.size w2 w5 := below_grown ((Below.refl _ _).alloc (Nat.le_refl _) _) hg5 (Nat.le_refl _) (by simp)
      have HB5 := Lib.hid hb5
      have HC5 := Lib.hid (HC2.out.fresh hb5)
      have q0 := later_cell ((hb5.cell (p := ⟨g, 0, none⟩) (lt_of_cell d0)).trans d0)
      have q1 := later_cell ((hb5.cell (p := ⟨g, 1, none⟩) (lt_of_cell d1)).trans d1)
      have q2 := later_cell ((hb5.cell (p := ⟨g, 2, none⟩) (lt_of_cell d2)).trans d2)
      have q3 := later_cell ((hb5.cell (p := ⟨g, 3, none⟩) (lt_of_cell d3)).trans d3)
      have q4' : w5.cell? ⟨b, 1, none⟩ = some (.int .i64 (u : Nat)) := by rw [HU.out]; exact HC5.out.c1
      have q4 := later_cell q4'
      clear q4' hg5 hr5 d0 d1 d2 d3 d4 hb5 hlk hen
      try go_frame
      refine wp_region_idx Rb Rb_refl Rb_trans [(0,0),(0,1),(0,2),(0,3),(0,4),(0,5),(0,6),(0,7),(1,8),(0,9),(0,10),(0,11),(2,12)] (by kernel_rfl) (by kernel_rfl) (by kernel_rfl) ?_
      simp only [pickO, List.getD_cons_succ, List.getD_cons_zero]
      refine wpCan_seg 8 (by kernel_rfl) ?_
      simp only [List.take_succ_cons, List.take_zero, List.drop_succ_cons, List.drop_zero, List.map_cons, List.map_nil]
      iterate 8 (go_big_quiet_step (fail))
      refine wpQuiet_nil ?_
      clear q0 q1 q2 q3 q4
      refine wpCan_list (k := 0) (fun KK hK => ?_) (fun _ => Rb_refl _)
      go_wp2_with fail
      refine (size_any o av nw cv ns w5.drew HNW.out.symm HNS.out.symm (by omega) (by omega) Z HZ).mono ?_
      rintro e w6 ⟨rfl, hb6⟩
      go_wp2_with fail
      refine hK _ _ (fun _ => hb6) ?_
      clear hK KK
      have HB6 : Hid (Below w2.heap.size w2 w6) := Lib.hid (HB5.out.trans (((Below.refl w5.heap.size w5).drew.trans hb6).mono HB5.out.size))
      have HC6 := Lib.hid (HC2.out.fresh HB6.out)
      have hrow := HC6.out.row
      clear hb6 HB5 HC5
      refine wpCan_seg 3 (by kernel_rfl) ?_
      simp only [List.take_succ_cons, List.take_zero, List.drop_succ_cons, List.drop_zero, List.map_cons, List.map_nil]
      iterate 3 (go_big_quiet_step (fail))
      refine wpQuiet_nil ?_
      refine wpCan_list (k := 1) (fun KK hK => ?_) (fun h => by cases h)
      refine wpL_storeAt rfl _ _ _ rfl (v := .int .i64 ((u : Int) - (Z : Int))) rfl rfl rfl rfl (by kernel_rfl) hrow rfl ?_
      intro w7 hg7 hr7
      refine hK _ _ (fun h => by cases h) ?_
      clear hK KK
      unfold wpCan
      have hcb := HC2.out.cb
      have hcm := HC2.out.cm
      have hct := HC2.out.ct
      have hnm := HC2.out.nm
      have hnt := HC2.out.nt
      have hnn := HC2.out.nn
      have hrc := HCR.out
      have nrb : r ≠ b := fun e => by rw [e, hcb] at hrc; omega
      have nrm : r ≠ bm := fun e => by rw [e, hcm] at hrc; omega
      have nrt : r ≠ bt := fun e => by rw [e, hct] at hrc; omega
      have ngb : g ≠ b := col_ne HTH.out.cg hcb (hc5 x)
      have ngt : g ≠ bt := col_ne HTH.out.cg hct (hc5 x)
      have hbw : b < w.heap.size := H0.out.row.lt
      have hbmw : bm < w.heap.size := H0.out.mp.lt
      have hbtw : bt < w.heap.size := H0.out.tm.lt
      have HR7 : Hid (Row w7 b 80 [.int .i64 (m : Nat), .int .i64 ((u : Int) - (Z : Int)), .int .i64 ((Hc.length : Int) - 1), .map (some bm), .map (some bt)]) := Lib.hid hr7
      have HG7 := Lib.hid hg7
      have HT7 := Lib.hid ((HTH.out.row.after HB6.out).grown hg7 (fun e => ngb (Option.some.inj e)))
      have hkm7 : Mods (fun y => y = b) w2 w7 := (Mods.fresh HB6.out _).trans ((Mods.grown hg7).mono (fun y e => (Option.some.inj e).symm))
      have HKM7 := Lib.hid hkm7
      have HI7 := Lib.hid (HC2.out.tm.mods hkm7 (fun e => hnt e))
      clear hrow hg7 hr7 hkm7
      have d4 : w7.cell? ⟨g, 4, none⟩ = some (.int .i64 oid) := by rw [HOI.out]; exact HT7.out.cell 4
      by_cases hpos : 0 < oid
      · have q0 := later_cell (HR7.out.cell 4 : w7.cell? ⟨b, 4, none⟩ = some (.map (some bt)))
        have q1 := later_cell d4
        have hti := HI7.out.below (Below.refl w7.heap.size w7).drew
        have hwo : (Lit.int .i64 oid).wf = true := wf_lit (by omega) (by omega)
        go_upto_region 12 with fail
        clear d4
        try go_frame
        refine wp_region_idx Rb Rb_refl Rb_trans [(0,0),(0,1),(0,2),(0,3),(0,4),(0,5),(0,6),(0,7),(0,8),(2,9)] (by kernel_rfl) (by kernel_rfl) (by kernel_rfl) ?_
        simp only [pickO, List.getD_cons_succ, List.getD_cons_zero]
        refine wpCan_seg 9 (by kernel_rfl) ?_
        simp only [List.take_succ_cons, List.take_zero, List.drop_succ_cons, List.drop_zero, List.map_cons, List.map_nil]
        iterate 9 (go_big_quiet_step (fail))
        refine wpQuiet_nil ?_
        clear q0 q1
        refine wpCan_list (k := 1) (fun KK hK => ?_) (fun h => by cases h)
        refine wpL_del hti keyInt mapTi rfl _ _ rfl rfl rfl hwo ?_
        intro w8 hm8 hg8
        refine hK _ _ (fun h => by cases h) ?_
        clear hK KK hti
        unfold wpCan
        have HK8 : Hid (Mods (fun y => y = b ∨ y = bt) w2 w8) := Lib.hid (((HKM7.out.mono (fun y e => .inl e)).trans (Mods.fresh (Below.refl w7.heap.size w7).drew _)).trans ((Mods.grown hg8).mono (fun y e => .inr (Option.some.inj e).symm)))
        have HR8 := Lib.hid ((HR7.out.after (Below.refl w7.heap.size w7).drew).grown hg8 (fun e => hnt (Option.some.inj e).symm))
        have HI8 := Lib.hid hm8
        have hTS : Hid ((0 < (thAt Hc x).oid → ts.erase oid = ts.erase (thAt Hc x).oid ∧ upd tf oid intE.z = upd tf (thAt Hc x).oid 0) ∧ ((thAt Hc x).oid ≤ 0 → ts.erase oid = ts ∧ upd tf oid intE.z = tf)) := Lib.hid (by rw [← HOI.out]; exact ⟨fun _ => ⟨rfl, rfl⟩, fun h => absurd hpos (by omega)⟩)
        clear hm8 hg8 HR7 HT7 HI7 HKM7 HG7
        go_upto_region 13 with fail
        try go_frame
        have hrg8 := HRG2.out.mods HK8.out (fun e => e.elim hnm hnn) (fun e => e.elim nrb nrt)
        have hxl8 : x ∉ l.erase x := fun e => ((List.Nodup.mem_erase_iff HND2.out).1 e).1 rfl
        have c38 := HR8.out.cell 3
        simp only [List.getElem?_cons_zero, List.getElem?_cons_succ] at c38
        have HLT := Lib.hid HRG2.out.lts
        have HEQ : Hid ((w8).rangeLeft bm r = w2.rangeLeft bm r) := Lib.hid (rangeLeft_mods (HK8.out.block bm HLT.out.1 (fun e => e.elim hnm hnn)) (HK8.out.block r HLT.out.2 (fun e => e.elim nrb nrt)))
        go_wp2_with (at_delete; refine wpL_delr hrg8 keyInt mapTh rfl _ _ rfl rfl rfl hwx hxl8 ?_; intro w9 hrg9 hlt9 hg9)
        have hM9 : Mods (fun y => y = b ∨ y = bt ∨ y = bm) w2 w9 := (HK8.out.mono (fun y e => e.elim .inl (fun e => .inr (.inl e)))).trans ((Mods.grown hg9).mono (fun y e => .inr (.inr (Option.some.inj e).symm)))
        have km : St (fun y => y = 5) col1 w2 col1 w9 := ⟨hM9.mono (fun y e => by rcases e with rfl | rfl | rfl; exact hcb; exact hct; exact hcm), fun _ _ => rfl⟩
        have hgood := HM.out.good
        have hd := HC2.out.drop hgood HXI.out km (by
          have e1 : ((u : Int) - (Z : Int)) = ((usedH (putTh Hc x noTh) : Nat) : Int) := by
            have h1 := used_drop hgood HXI.out
            rw [← HO.out, ← HZ.out, ← HU.out] at h1
            omega
          have := HR8.out.grown hg9 (fun e => hnm (Option.some.inj e).symm)
          rw [e1] at this
          exact this) hrg9.map (HI8.out.kept hg9 (fun e => hnn (Option.some.inj e).symm)) (fun h => hTS.out.1 h) (fun h => hTS.out.2 (by omega))
        have hC : CoRel col col1 w b m bm bt bs r ss f H R w9 := CoRel.mk hrg9 hd (HS2.out.mods hM9 (fun e => by rcases e with e | e | e <;> omega)) (HM.out.drop HND2.out HXL.out.1 (by rw [← HM.out.keep x (.inl HXL.out.1)]; exact HXI.out) HNL.out) (HW2.out.after hM9 (fun y e => .inl (by
          rcases e with rfl | rfl | rfl
          · rw [← HCO.out _ hbw]; exact hcb
          · rw [← HCO.out _ hbtw]; exact hct
          · rw [← HCO.out _ hbmw]; exact hcm)))
        refine ⟨?_, ?_⟩
        · first
            | exact hC
            | (repeat apply Exists.intro
               exact ⟨hC, rfl⟩)
        · have := HMS.out
          have := HEQ.out
          omega
      · have hpos' : oid ≤ 0 := by omega
        have HK8 : Hid (Mods (fun y => y = b ∨ y = bt) w2 w7) := Lib.hid (HKM7.out.mono (fun y e => .inl e))
        have HR8 := HR7
        have HI8 := HI7
        have hTS : Hid ((0 < (thAt Hc x).oid → ts = ts.erase (thAt Hc x).oid ∧ tf = upd tf (thAt Hc x).oid 0) ∧ ((thAt Hc x).oid ≤ 0 → True)) := Lib.hid (by rw [← HOI.out]; exact ⟨fun h => absurd h (by omega), fun _ => trivial⟩)
        go_upto_region 13 with fail
        clear HR7 HT7 HI7 HKM7 HG7 d4
        have hrg8 := HRG2.out.mods HK8.out (fun e => e.elim hnm hnn) (fun e => e.elim nrb nrt)
        have hxl8 : x ∉ l.erase x := fun e => ((List.Nodup.mem_erase_iff HND2.out).1 e).1 rfl
        have c38 := HR8.out.cell 3
        simp only [List.getElem?_cons_zero, List.getElem?_cons_succ] at c38
        have HLT := Lib.hid HRG2.out.lts
        have HEQ : Hid ((w7).rangeLeft bm r = w2.rangeLeft bm r) := Lib.hid (rangeLeft_mods (HK8.out.block bm HLT.out.1 (fun e => e.elim hnm hnn)) (HK8.out.block r HLT.out.2 (fun e => e.elim nrb nrt)))
        go_wp2_with (at_delete; refine wpL_delr hrg8 keyInt mapTh rfl _ _ rfl rfl rfl hwx hxl8 ?_; intro w9 hrg9 hlt9 hg9)
        have hM9 : Mods (fun y => y = b ∨ y = bt ∨ y = bm) w2 w9 := (HK8.out.mono (fun y e => e.elim .inl (fun e => .inr (.inl e)))).trans ((Mods.grown hg9).mono (fun y e => .inr (.inr (Option.some.inj e).symm)))
        have km : St (fun y => y = 5) col1 w2 col1 w9 := ⟨hM9.mono (fun y e => by rcases e with rfl | rfl | rfl; exact hcb; exact hct; exact hcm), fun _ _ => rfl⟩
        have hgood := HM.out.good
        have hd := HC2.out.drop hgood HXI.out km (by
          have e1 : ((u : Int) - (Z : Int)) = ((usedH (putTh Hc x noTh) : Nat) : Int) := by
            have h1 := used_drop hgood HXI.out
            rw [← HO.out, ← HZ.out, ← HU.out] at h1
            omega
          have := HR8.out.grown hg9 (fun e => hnm (Option.some.inj e).symm)
          rw [e1] at this
          exact this) hrg9.map (HI8.out.kept hg9 (fun e => hnn (Option.some.inj e).symm)) (fun h => hTS.out.1 h) (fun _ => ⟨rfl, rfl⟩)
        have hC : CoRel col col1 w b m bm bt bs r ss f H R w9 := CoRel.mk hrg9 hd (HS2.out.mods hM9 (fun e => by rcases e with e | e | e <;> omega)) (HM.out.drop HND2.out HXL.out.1 (by rw [← HM.out.keep x (.inl HXL.out.1)]; exact HXI.out) HNL.out) (HW2.out.after hM9 (fun y e => .inl (by
          rcases e with rfl | rfl | rfl
          · rw [← HCO.out _ hbw]; exact hcb
          · rw [← HCO.out _ hbtw]; exact hct
          · rw [← HCO.out _ hbmw]; exact hcm)))
        refine ⟨?_, ?_⟩
        · first
            | exact hC
            | (repeat apply Exists.intro
               exact ⟨hC, rfl⟩)
        · have := HMS.out
          have := HEQ.out
          omega
end Go.Proofs.Ytekmgffjdheifaa
