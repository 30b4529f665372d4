/-
  Check, walked. Condition: code within a machine's reach; the table as laid.
-/
import Derived.Test.YtoddklfblcfoiaaDoorCpC
namespace Go.Proofs.YtoddklfblcfoiaaDoor
open Go Go.RowKit
set_option linter.unusedVariables false
set_option linter.unusedSimpArgs false
set_option maxRecDepth 100000

/-- the checker in memory -/
structure CkS (w0 : World) (k : Nat) (aF : Option Addr) (nF kF : Nat) (aR : Option Addr) (nR kR : Nat) (bg og nB kB : Nat) (w : World) (gs : List Ins) : Prop where
  row : Row w k 79 [.slice aF nF kF, .slice aR nR kR, .slice (some ⟨bg, og, none⟩) nB kB]
  own : Own w w0.heap.size 5 (.slice (some ⟨bg, og, none⟩) nB kB) nB (inCells gs)
  box : Row w w0.heap.size 25 [.slice aF nF kF, .slice aR nR kR]
  bel : Below w0.heap.size w0 w
  ne : bg ≠ k ∧ bg ≠ w0.heap.size ∧ w0.heap.size < bg ∧ w0.heap.size < k
theorem CkS.fresh {w0 : World} {k : Nat} {aF : Option Addr} {nF kF : Nat} {aR : Option Addr} {nR kR : Nat} {bg og nB kB : Nat} {w w' : World} {gs : List Ins} (h : CkS w0 k aF nF kF aR nR kR bg og nB kB w gs) (hb : Below w.heap.size w w') : CkS w0 k aF nF kF aR nR kR bg og nB kB w' gs :=
  ⟨h.row.after hb, h.own.below hb, h.box.after hb, h.bel.trans (hb.mono h.bel.size), h.ne⟩
theorem CkS.grp {w0 : World} {k : Nat} {aF : Option Addr} {nF kF : Nat} {aR : Option Addr} {nR kR : Nat} {bg og nB kB : Nat} {w w' : World} {gs gs' : List Ins} (h : CkS w0 k aF nF kF aR nR kR bg og nB kB w gs) (hm : Mods (fun g => g = bg) w w') (ho : Own w' w0.heap.size 5 (.slice (some ⟨bg, og, none⟩) nB kB) nB (inCells gs')) : CkS w0 k aF nF kF aR nR kR bg og nB kB w' gs' :=
  ⟨h.row.mods hm (fun e => h.ne.1 e.symm), ho, h.box.mods hm (fun e => h.ne.2.1 e.symm), below_mods h.bel hm (fun g hg => by have := h.ne; omega) h.bel.size, h.ne⟩
/-- as far as operands and groups are looked at -/
def CkW (w0 : World) (k : Nat) (aF : Option Addr) (nF kF : Nat) (aR : Option Addr) (nR kR : Nat) (bg og : Nat) (c : Cod) (i : Nat) (l : List Ins) (j : Nat) (wr : World) : Prop :=
  ∃ gs b, CkS w0 k aF nF kF aR nR kR bg og nF nF wr gs ∧ gs.length = nF ∧ GrpM gs b ∧ OpsTo c i l j ∧ grpAll (preI c i l j) (fun _ => none) = some b
set_option maxHeartbeats 2000000 in
theorem check_p (W0 : World) (pb fuel pn : Nat) (HP0 : Hid (PrimsR W0 pb fuel pn)) (aF : Option Addr) (nF kF : Nat) (aR : Option Addr) (nR kR : Nat) (c : Cod) (w : World) (hW0 : Hid (Below W0.heap.size W0 w)) (hc : CodM w (.slice aF nF kF) (.slice aR nR kR) c) (hF : nF ≤ 65536) (hlen : ∀ l ∈ c.f, l.length ≤ 1000000 ∧ ∀ x ∈ l, x.t.length ≤ 1000000) (hR : nR ≤ 1000000) (E : Int) (HE : Hid (E = checkE c)) :
    Calls Tryd.prog 20 #[.agg #[.slice aF nF kF, .slice aR nR kR]] w fun e w' => e = .returned (.int .i64 E) ∧ Below w.heap.size w w' := by
  have HNF : Hid (c.f.length = nF) := Lib.hid (by obtain ⟨⟨vs, h1, h2⟩, h3⟩ := hc; have := h1.cap; omega)
  have HNR : Hid (c.r.length = nR) := Lib.hid (by obtain ⟨_, h3⟩ := hc; have h4 := h3.cap.2.2.2; rw [flat_len staC 2 (fun _ => rfl)] at h4; omega)
  have HC := Lib.hid hc
  have HL := Lib.hid hlen
  clear hc hlen
  obtain ⟨w1, hw1⟩ : ∃ y, y = w.alloc (.cells #[.slice aF nF kF, .slice aR nR kR] 25) := ⟨_, rfl⟩
  have r1 : Row w1 w.heap.size 25 [.slice aF nF kF, .slice aR nR kR] := by rw [hw1]; exact Row.new w _ _
  have hb1 : Below w.heap.size w w1 := by rw [hw1]; exact (Below.refl _ _).alloc (Nat.le_refl _) _
  have hs1 : w1.heap.size = w.heap.size + 1 := by rw [hw1]; simp
  have q0 := later_cell (r1.cell 0)
  have q1 := later_cell (r1.cell 1)
  have HR1 := Lib.hid r1
  have HB1 := Lib.hid hb1
  have HS1 := Lib.hid hs1
  clear r1 hb1 hs1
  go_enter Tryd.func20, Tryd.ntmps20
  go_upto_region 1 with fail
  rw [← hw1]
  clear hw1
  refine wp_region_idx Rb Rb_refl Rb_trans [(0,0),(0,1),(0,2),(0,3),(1,4),(0,5),(1,6),(0,7)] (by kernel_rfl) (by kernel_rfl) (by kernel_rfl) ?_
  simp only [pickO, List.getD_cons_succ, List.getD_cons_zero]
  refine wpCan_seg 4 (by kernel_rfl) ?_
  simp only [List.take_succ_cons, List.take_zero, List.drop_succ_cons, List.drop_zero, List.map_cons, List.map_nil]
  iterate 4 (go_big_quiet_step (fail))
  refine wpQuiet_nil ?_
  clear q0 q1
  refine wpCan_list (k := 0) (fun KK hK => ?_) (fun _ => Rb_refl _)
  go_wp2_with (at_make; refine wpL_makeIns etIns rfl _ _ rfl nF w1.drew.heap.size rfl rfl rfl rfl (by omega) (by simp [maxLen]; omega) (Nat.le_refl _) ?_; intro bg og w2 ho2 hb2 hg2)
  refine hK _ _ (fun _ => hb2) ?_
  clear hK KK
  have HO2 := Lib.hid ho2
  have HB2 := Lib.hid hb2
  have HG2 := Lib.hid hg2
  clear ho2 hb2 hg2
  refine wpCan_seg 1 (by kernel_rfl) ?_
  simp only [List.take_succ_cons, List.take_zero, List.drop_succ_cons, List.drop_zero, List.map_cons, List.map_nil]
  iterate 1 (go_big_quiet_step (fail))
  refine wpQuiet_nil ?_
  refine wpCan_list (k := 0) (fun KK hK => ?_) (fun _ => Rb_refl _)
  go_wp2_with fail
  have hb3 : Below w2.heap.size w2 (w2.alloc (.cells #[.slice aF nF kF, .slice aR nR kR, .slice (some ⟨bg, og, none⟩) nF nF] 79)) := (Below.refl _ _).alloc (Nat.le_refl _) _
  refine hK _ _ (fun _ => hb3) ?_
  clear hK KK
  obtain ⟨k, hk⟩ : ∃ y, y = w2.heap.size := ⟨_, rfl⟩
  obtain ⟨w3, hw3⟩ : ∃ y, y = w2.alloc (.cells #[.slice aF nF kF, .slice aR nR kR, .slice (some ⟨bg, og, none⟩) nF nF] 79) := ⟨_, rfl⟩
  have hr3 : Row w3 w2.heap.size 79 [.slice aF nF kF, .slice aR nR kR, .slice (some ⟨bg, og, none⟩) nF nF] := by rw [hw3]; exact Row.new w2 _ _
  rw [← hw3] at hb3 ⊢
  rw [← hk] at hr3 ⊢
  clear hw3
  have HCK : Hid (CkS w k aF nF kF aR nR kR bg og nF nF w3 (List.replicate nF ins0)) := Lib.hid (by
    have h1 := HB2.out.size
    have h2 := HS1.out
    have h3 := HG2.out
    have h4 := HO2.out.lives bg rfl
    have h5 : w1.drew.heap.size = w1.heap.size := rfl
    refine ⟨hr3, (HO2.out.below hb3).mono (by omega), ((HR1.out.drew).after HB2.out).after hb3, (HB1.out.trans (((Below.refl w1.heap.size w1).drew.mono HB1.out.size).trans (HB2.out.mono (by omega)))).trans (hb3.mono (by omega)), by omega, by omega, by omega, by omega⟩)
  clear hb3 hr3 hk HO2 HB2 HG2 HR1 HB1 HS1
  refine wpCan_seg 1 (by kernel_rfl) ?_
  simp only [List.take_succ_cons, List.take_zero, List.drop_succ_cons, List.drop_zero, List.map_cons, List.map_nil]
  iterate 1 (go_big_quiet_step (fail))
  refine wpQuiet_nil ?_
  unfold wpCan
  have b0 : w3.cell? ⟨w.heap.size, 0, none⟩ = some (.slice aF nF kF) := HCK.out.box.cell 0
  have hcm3 := HC.out.below HCK.out.bel
  have hrow3 := HCK.out.row
  by_cases hn0 : nF = 0
  · have hE : Hid (E = 17) := Lib.hid (HE.out.trans (checkE_no (fun h => h.1 (List.eq_nil_of_length_eq_zero (HNF.out.trans hn0)))))
    have hb : ((nF : Int) == 0) = true := by rw [hn0]; rfl
    clear hn0
    go_wp2_with fail
    go_ret
    rw [hE.out]
    exact ⟨rfl, HCK.out.bel⟩
  · have hb : ((nF : Int) == 0) = false := by rw [beq_eq_false_iff_ne]; omega
    obtain ⟨RB, hRB⟩ : ∃ y, y = rootedV c.r := ⟨_, rfl⟩
    have HRB := Lib.hid hRB
    clear hRB
    have hrt := rooted_p k (.slice aF nF kF) (.slice (some ⟨bg, og, none⟩) nF nF) aR nR kR c.r w3 hrow3 (by have := hcm3.2; rw [HNR.out] at this; exact this) RB HRB
    cases RB with
    | false =>
      have hE : Hid (E = 17) := Lib.hid (HE.out.trans (checkE_no (fun h => by have := rootedV_yes h.2.1; rw [← HRB.out] at this; cases this)))
      go_wp2_with fail
      refine hrt.mono ?_
      rintro e w4 ⟨rfl, hb4⟩
      go_wp2_with fail
      go_ret
      rw [hE.out]
      exact ⟨rfl, (HCK.out.fresh hb4).bel⟩
    | true =>
      go_wp2_with fail
      refine hrt.mono ?_
      rintro e w4 ⟨rfl, hb4⟩
      clear hrt b0 hcm3 hrow3
      have HCK4 := Lib.hid (HCK.out.fresh hb4)
      clear hb4 HCK
      have b0 : w4.cell? ⟨w.heap.size, 0, none⟩ = some (.slice aF nF kF) := HCK4.out.box.cell 0
      go_wp2_with fail
      clear b0
      go_loopw [28] (fun v28 wr => ∃ i : Nat, i ≤ nF ∧ v28 = .int .i64 (i : Nat) ∧ Hid (CkW w k aF nF kF aR nR kR bg og c i [] 0 wr)) (fun v28 _ => nF - (RowKit.intOf v28).toNat)
      case atStart => exact ⟨0, Nat.zero_le _, rfl, Lib.hid ⟨List.replicate nF ins0, fun _ => none, HCK4.out, List.length_replicate, GrpM.none nF, ⟨fun q l h => by omega, fun x hx => by simp at hx⟩, by rw [preI_start]; rfl⟩⟩
      case round =>
        clear HCK4
        obtain ⟨i, hi, rfl, HW⟩ := hrel
        by_cases hin : i = nF
        · have hin' : nF = i := hin.symm
          subst hin'
          clear hin hi
          obtain ⟨gs, b, hCk, hgl, hG, hO, hgr⟩ := HW.out
          have b0 : wr.cell? ⟨w.heap.size, 0, none⟩ = some (.slice aF nF kF) := hCk.box.cell 0
          have HCK := Lib.hid hCk
          have HGL := Lib.hid hgl
          have HG := Lib.hid hG
          have HO : Hid (OpsAll c) := Lib.hid (by rw [← HNF.out] at hO; exact hO.all)
          have HGR : Hid (grpAll c.f.flatten (fun _ => none) = some b) := Lib.hid (by rw [← HNF.out, preI_all] at hgr; exact hgr)
          clear hCk hgl hG hO hgr HW
          go_wp2_with fail
          clear b0
          go_loopw [8, 55] (fun v8 v55 wr2 => ∃ q : Nat, q ≤ nF ∧ v55 = .int .i64 (q : Nat) ∧ Hid (CkS w k aF nF kF aR nR kR bg og nF nF wr2 gs ∧ ∀ p, p < q → (0 < p → b p ≠ none) ∧ ∀ l, c.f[p]? = some l → RunsP l p (insOr (b p)))) (fun _ v55 _ => nF - (RowKit.intOf v55).toNat)
          case atStart => exact ⟨0, Nat.zero_le _, rfl, Lib.hid ⟨HCK.out, fun p hp => by omega⟩⟩
          case round =>
            clear HCK
            obtain ⟨q, hq, rfl, HQ⟩ := hrel
            by_cases hqn : q = nF
            · have hqn' : nF = q := hqn.symm
              subst hqn'
              have hE : Hid (E = 0) := Lib.hid (HE.out.trans (checkE_yes ⟨fun h => hn0 (by rw [← HNF.out, h]; rfl), (rootedV_spec HRB.out).1 rfl, HO.out, b, HGR.out, fun f h1 h2 => (HQ.out.2 f (by rw [← HNF.out]; exact h2)).1 h1, fun p l hl => (HQ.out.2 p (by rw [← HNF.out]; exact (List.getElem?_eq_some_iff.1 hl).1)).2 l hl⟩))
              go_wp2_with fail
              go_ret
              rw [hE.out]
              exact ⟨rfl, HQ.out.1.bel⟩
            · have hqlt : q < nF := by omega
              have hqlt' : (q : Int) < nF := by omega
              obtain ⟨l, hl⟩ : ∃ l, c.f[q]? = some l := ⟨_, List.getElem?_eq_getElem (by rw [HNF.out]; exact hqlt)⟩
              have hgq := HG.out.1 q (by rw [HGL.out]; exact hqlt)
              obtain ⟨RV, hRV⟩ : ∃ y, y = runsV l q (insOr (b q)) := ⟨_, rfl⟩
              have HRV := Lib.hid hRV
              have HLQ := Lib.hid hl
              have hrn := runs_p W0 pb fuel pn HP0 k aF nF kF aR nR kR (some ⟨bg, og, none⟩) nF nF gs c q l (insOr (b q)) wr (Lib.hid (hW0.out.trans (HQ.out.1.bel.mono hW0.out.size))) (HC.out.below HQ.out.1.bel) HQ.out.1.row HQ.out.1.own.sl hl hgq hF (HL.out l (List.mem_of_getElem? hl)).1 (fun x hx => by have := HO.out l (List.mem_of_getElem? hl) x hx; rw [HNF.out, HNR.out] at this; exact this) RV HRV
              have HRN := Lib.hid hrn
              have k2 : wr.cell? ⟨k, 2, none⟩ = some (.slice (some ⟨bg, og, none⟩) nF nF) := HQ.out.1.row.cell 2
              have hcell : wr.cell? ⟨bg, og + q * 5, none⟩ = some (.int .u8 ((insOr (b q)).op.toNat : Int)) := by
                have h1 := HQ.out.1.own.get (q * 5) (by rw [flat_len insC 5 insC_len, HGL.out]; omega)
                have h2 := flat_get insC 5 insC_len gs q 0 _ hgq (by decide)
                rw [h1]
                exact h2
              have HNO : Hid ((0 < q ∧ b q = none) ∨ RV = false → E = 17) := Lib.hid (fun h => HE.out.trans (checkE_no (fun hp => by
                obtain ⟨_, _, _, b', h1, h2, h3⟩ := hp
                rw [HGR.out] at h1
                cases h1
                rcases h with ⟨h4, h5⟩ | h4
                · exact h2 q h4 (by rw [HNF.out]; exact hqlt) h5
                · have := runsV_yes (h3 q l HLQ.out)
                  rw [← HRV.out, h4] at this
                  cases this)))
              clear hl hgq hRV hrn
              by_cases hq0 : q = 0
              · have hq1 : ¬ (0 : Int) < q := by omega
                have HP : Hid (0 < q → b q ≠ none) := Lib.hid (fun h => by omega)
                clear hq0
                cases RV with
                | false =>
                  go_wp2_with fail
                  refine (HRN.out).mono ?_
                  rintro e w5 ⟨rfl, hb5⟩
                  go_wp2_with fail
                  go_ret
                  rw [HNO.out (.inr (by trivial))]
                  exact ⟨rfl, (HQ.out.1.fresh hb5).bel⟩
                | true =>
                  go_wp2_with fail
                  refine (HRN.out).mono ?_
                  rintro e w5 ⟨rfl, hb5⟩
                  have HQ2 : Hid (CkS w k aF nF kF aR nR kR bg og nF nF w5 gs ∧ ∀ p, p < q + 1 → (0 < p → b p ≠ none) ∧ ∀ l, c.f[p]? = some l → RunsP l p (insOr (b p))) := Lib.hid ⟨HQ.out.1.fresh hb5, fun p hp => by
                    by_cases hpq : p = q
                    · subst hpq
                      refine ⟨HP.out, fun l' hl' => ?_⟩
                      rw [HLQ.out] at hl'
                      cases hl'
                      exact (runsV_spec HRV.out).1 rfl
                    · exact HQ.out.2 p (by omega)⟩
                  clear hb5
                  go_wp2_with fail
                  exact ⟨⟨q + 1, by omega, by go_num, HQ2⟩, by simp [RowKit.intOf]; omega⟩
              · have hq1 : (0 : Int) < q := by omega
                cases hbq : b q with
                | none =>
                  have HNE : Hid (E = 17) := Lib.hid (HNO.out (.inl ⟨by omega, hbq⟩))
                  have hb0 : (((insOr (b q)).op.toNat : Int) == 0) = true := by rw [hbq]; rfl
                  clear hbq
                  go_wp2_with fail
                  go_ret
                  rw [HNE.out]
                  exact ⟨rfl, HQ.out.1.bel⟩
                | some y =>
                  have h6 := HG.out.2 q y hbq
                  have hb0 : (((insOr (b q)).op.toNat : Int) == 0) = false := by rw [hbq]; show ((y.op.toNat : Int) == 0) = false; rw [h6]; rfl
                  have HP : Hid (0 < q → b q ≠ none) := Lib.hid (fun _ h => by rw [hbq] at h; cases h)
                  clear hbq h6
                  cases RV with
                  | false =>
                    go_wp2_with fail
                    refine (HRN.out).mono ?_
                    rintro e w5 ⟨rfl, hb5⟩
                    go_wp2_with fail
                    go_ret
                    rw [HNO.out (.inr (by trivial))]
                    exact ⟨rfl, (HQ.out.1.fresh hb5).bel⟩
                  | true =>
                    go_wp2_with fail
                    refine (HRN.out).mono ?_
                    rintro e w5 ⟨rfl, hb5⟩
                    have HQ2 : Hid (CkS w k aF nF kF aR nR kR bg og nF nF w5 gs ∧ ∀ p, p < q + 1 → (0 < p → b p ≠ none) ∧ ∀ l, c.f[p]? = some l → RunsP l p (insOr (b p))) := Lib.hid ⟨HQ.out.1.fresh hb5, fun p hp => by
                      by_cases hpq : p = q
                      · subst hpq
                        refine ⟨HP.out, fun l' hl' => ?_⟩
                        rw [HLQ.out] at hl'
                        cases hl'
                        exact (runsV_spec HRV.out).1 rfl
                      · exact HQ.out.2 p (by omega)⟩
                    clear hb5
                    go_wp2_with fail
                    exact ⟨⟨q + 1, by omega, by go_num, HQ2⟩, by simp [RowKit.intOf]; omega⟩
        · have hilt : i < nF := by omega
          have hilt' : (i : Int) < nF := by omega
          obtain ⟨l, hl⟩ : ∃ l, c.f[i]? = some l := ⟨_, List.getElem?_eq_getElem (by rw [HNF.out]; exact hilt)⟩
          have HLI := Lib.hid hl
          have HB0 : Hid (Below w.heap.size w wr) := Lib.hid (by obtain ⟨gs, b, hCk, _⟩ := HW.out; exact hCk.bel)
          obtain ⟨gF, oF, aL, cL, rfl, hcell0, hsl⟩ := HC.out.fun_at i l hl
          have hcell := (HB0.out.cell (lt_of_cell hcell0)).trans hcell0
          have HSL := Lib.hid hsl
          clear hcell0
          obtain ⟨nL, hnL⟩ : ∃ y, y = l.length := ⟨_, rfl⟩
          have HNL := Lib.hid hnL
          have hlen9 := (HL.out l (List.mem_of_getElem? hl)).1
          rw [← hnL] at hcell hlen9
          have HW1 : Hid (CkW w k (some ⟨gF, oF, none⟩) nF kF aR nR kR bg og c i l 0 wr) := Lib.hid (by
            obtain ⟨gs, b, h1, h2, h3, h4, h5⟩ := HW.out
            exact ⟨gs, b, h1, h2, h3, ⟨h4.1, fun x hx => by simp at hx⟩, by simpa [preI] using h5⟩)
          clear hl hsl hnL HW
          go_wp2_with fail
          go_loopw [7, 35] (fun v7 v35 wr2 => ∃ j : Nat, j ≤ nL ∧ v35 = .int .i64 (j : Nat) ∧ Hid (CkW w k (some ⟨gF, oF, none⟩) nF kF aR nR kR bg og c i l j wr2)) (fun _ v35 _ => nL - (RowKit.intOf v35).toNat)
          case atStart => exact ⟨0, Nat.zero_le _, rfl, HW1⟩
          case round =>
            clear HW1
            obtain ⟨j, hj, rfl, HJ⟩ := hrel
            by_cases hjn : j = nL
            · subst hjn
              go_wp2_with fail
              refine ⟨⟨i + 1, by omega, by go_num, Lib.hid ?_⟩, by simp [RowKit.intOf]; omega⟩
              obtain ⟨gs, b, h1, h2, h3, h4, h5⟩ := HJ.out
              rw [HNL.out] at h4 h5
              exact ⟨gs, b, h1, h2, h3, h4.next HLI.out [], by rw [preI_next HLI.out]; exact h5⟩
            · have hjlt : j < nL := by omega
              have hjlt' : (j : Int) < nL := by omega
              obtain ⟨gs, b, hCk, hgl, hG, hO, hgr⟩ := HJ.out
              obtain ⟨b5, o5, x, rfl, hx, hc5⟩ := (HSL.out.below hCk.bel).elem insC insC_len (by decide) j (by rw [← HNL.out]; exact hjlt)
              have d0 := hc5 0 _ rfl
              have d1 := hc5 1 _ rfl
              have d2 := hc5 2 _ rfl
              have d3 := hc5 3 _ rfl
              have d4 := hc5 4 _ rfl
              simp only [Nat.add_zero] at d0
              have HX := Lib.hid hx
              have HCK := Lib.hid hCk
              have HGL := Lib.hid hgl
              have HG := Lib.hid hG
              have HO := Lib.hid hO
              have HGR := Lib.hid hgr
              clear hCk hgl hG hO hgr hx hc5 HJ
              go_upto_region 10 with fail
              obtain ⟨w5, hw5⟩ : ∃ y, y = wr.alloc (.cells #[.int .u8 (x.op.toNat : Int), .int .i64 x.a, .int .i64 x.b, .int .i64 x.c, .string (str x.t)] 46) := ⟨_, rfl⟩
              have hb5 : Below wr.heap.size wr w5 := by rw [hw5]; exact (Below.refl _ _).alloc (Nat.le_refl _) _
              have r5 : Row w5 wr.heap.size 46 (insC x) := by rw [hw5]; exact Row.new wr _ _
              rw [← hw5]
              clear hw5 d0 d1 d2 d3 d4
              have HCK5 := Lib.hid (HCK.out.fresh hb5)
              have z0 : w5.cell? ⟨wr.heap.size, 0, none⟩ = some (.int .u8 (x.op.toNat : Int)) := r5.cell 0
              have z1 : w5.cell? ⟨wr.heap.size, 1, none⟩ = some (.int .i64 x.a) := r5.cell 1
              have z2 : w5.cell? ⟨wr.heap.size, 2, none⟩ = some (.int .i64 x.b) := r5.cell 2
              have z3 : w5.cell? ⟨wr.heap.size, 3, none⟩ = some (.int .i64 x.c) := r5.cell 3
              have z4 : w5.cell? ⟨wr.heap.size, 4, none⟩ = some (.string (str x.t)) := r5.cell 4
              have HR5 := Lib.hid r5
              clear hb5 r5 HCK
              obtain ⟨OB, hOB⟩ : ∃ y, y = opB c.f.length c.r.length l.length x := ⟨_, rfl⟩
              have HOB := Lib.hid hOB
              have hop := operands_p W0 pb fuel pn HP0 k (some ⟨gF, oF, none⟩) nF kF aR nR kR (.slice (some ⟨bg, og, none⟩) nF nF) c i l x w5 (Lib.hid (hW0.out.trans (HCK5.out.bel.mono hW0.out.size))) (HC.out.below HCK5.out.bel) HCK5.out.row HLI.out hF (by rw [← HNL.out]; exact hlen9) hR ((HL.out l (List.mem_of_getElem? HLI.out)).2 x (List.mem_of_getElem? HX.out))
              rw [← hOB] at hop
              have HOPP := Lib.hid hop
              clear hop hOB
              cases OB with
              | false =>
                have HE17 : Hid (E = 17) := Lib.hid (HE.out.trans (checkE_no (fun hp => by
                  have := hp.2.2.1 l (List.mem_of_getElem? HLI.out) x (List.mem_of_getElem? HX.out)
                  rw [← HOB.out] at this
                  cases this)))
                go_wp2_with fail
                refine (HOPP.out).mono ?_
                rintro e w6 ⟨rfl, hb6⟩
                go_wp2_with fail
                go_ret
                rw [HE17.out]
                exact ⟨rfl, (HCK5.out.fresh hb6).bel⟩
              | true =>
                go_wp2_with fail
                refine (HOPP.out).mono ?_
                rintro e w6 ⟨rfl, hb6⟩
                have HCK6 := Lib.hid (HCK5.out.fresh hb6)
                have r6 := HR5.out.after hb6
                clear z0 z1 z2 z3 z4 hb6 HOPP
                have z0 : w6.cell? ⟨wr.heap.size, 0, none⟩ = some (.int .u8 (x.op.toNat : Int)) := r6.cell 0
                have z1 : w6.cell? ⟨wr.heap.size, 1, none⟩ = some (.int .i64 x.a) := r6.cell 1
                have z2 : w6.cell? ⟨wr.heap.size, 2, none⟩ = some (.int .i64 x.b) := r6.cell 2
                have z3 : w6.cell? ⟨wr.heap.size, 3, none⟩ = some (.int .i64 x.c) := r6.cell 3
                have z4 : w6.cell? ⟨wr.heap.size, 4, none⟩ = some (.string (str x.t)) := r6.cell 4
                clear r6
                have hgp := group_p k (.slice (some ⟨gF, oF, none⟩) nF kF) (.slice aR nR kR) bg og nF nF w.heap.size gs b x w6 HCK6.out.row HCK6.out.own HCK6.out.ne.1 HG.out (fun h6 => by
                  have h7 := HOB.out.symm
                  rw [HNF.out, HNR.out] at h7
                  unfold opB at h7
                  rw [h6] at h7
                  simp [opK, opV, inB] at h7
                  omega) hF
                go_wp2_with fail
                refine hgp.mono ?_
                clear hgp
                rintro e w7 (⟨b', gs', HY, rfl, ho7, hm7⟩ | ⟨hno, rfl, hm7⟩)
                · have HW8 : Hid (CkW w k (some ⟨gF, oF, none⟩) nF kF aR nR kR bg og c i l (j + 1) w7) := Lib.hid ⟨gs', b', HCK6.out.grp hm7 ho7, HY.out.2.2, HY.out.2.1, HO.out.more HX.out HOB.out.symm, by rw [preI_more HX.out, grpAll_snoc HGR.out]; exact HY.out.1⟩
                  clear ho7 hm7 z0 z1 z2 z3 z4
                  go_wp2_with fail
                  exact ⟨⟨j + 1, by omega, by go_num, HW8⟩, by simp [RowKit.intOf]; omega⟩
                · have HE17 : Hid (E = 17) := Lib.hid (HE.out.trans (checkE_no (fun hp => by
                    obtain ⟨_, _, _, b', h1, h2⟩ := hp
                    obtain ⟨m, hm⟩ := preI_split HLI.out HX.out
                    rw [hm, grpAll_fail _ m _ _ x HGR.out hno] at h1
                    cases h1)))
                  have hbel := below_mods HCK6.out.bel hm7 (fun g hg => by have := HCK6.out.ne; omega) HCK6.out.bel.size
                  clear hno hm7 z0 z1 z2 z3 z4
                  go_wp2_with fail
                  go_ret
                  rw [HE17.out]
                  exact ⟨rfl, hbel⟩
end Go.Proofs.YtoddklfblcfoiaaDoor
