/-
  Barrier and On of the document's disk. Conditions: the disk reads as one.
-/
import Derived.Test.YtcocodpeigbdaaaDskF
namespace Go.Proofs.Ytcocodpeigbdaaa
open Go.RowKit
set_option linter.unusedVariables false
set_option linter.unusedSimpArgs false

set_option maxHeartbeats 4000000 in
theorem rbarrier_p (c : Nat) (col : Nat → Nat) (b : Nat) (D : Dk) (k : Nat) (w : World) (h : DkAt 59 c col w b D) (hF : D.Fits k) (hk : k < 1073741823) (E : Int) (hE : Hid (E = barrierE D)) (T : Dk) (hT : Hid (T = barrierD D)) :
    Calls Try.prog 51 #[.pointer (some ⟨b, 0, none⟩)] w fun e w' => e = .returned (.int .i64 E) ∧ Made 59 c col w b T w' := by
  have c2 := h.c2
  have H0 := Lib.hid h
  clear h
  obtain ⟨S1, hS1⟩ : ∃ S1, S1 = stepD D := ⟨_, rfl⟩
  have HS1 := Lib.hid hS1
  rcases barrier_cases D with ⟨hd, h1, h2⟩ | ⟨hd, hd2, hp, h1, h2⟩ | ⟨hd, hd2, hp, h1, h2⟩
  · obtain rfl := hE.out.trans h1
    obtain rfl := hT.out.trans h2
    rw [hd] at c2
    clear hE hT h1 h2 hd hS1
    go_enter Try.func51, Try.ntmps51
    go_wp2_with fail
    go_ret
    exact ⟨rfl, Made.refl H0.out⟩
  · obtain rfl := hE.out.trans h1
    obtain rfl : T = S1 := by rw [hT.out, h2, hS1]
    have hd3 : T.dead = true := by rw [hS1]; exact hd2
    have HD3 := Lib.hid hd3
    rw [hd] at c2
    clear hE hT h1 h2 hd hd2 hd3 hS1 hp
    go_enter Try.func51, Try.ntmps51
    go_wp2_with fail
    refine (rstep_p c col b D k w H0.out hF (by omega) _ HS1).mono ?_
    rintro e w6 ⟨rfl, hm6⟩
    rw [HD3.out]
    go_wp2_with fail
    go_ret
    exact ⟨rfl, hm6⟩
  · obtain rfl := hE.out.trans h1
    have hT2 : T = settleD allF S1 := by rw [hT.out, h2, hS1]
    have hd3 : S1.dead = false := by rw [hS1]; exact hd2
    have HD3 := Lib.hid hd3
    rw [hd] at c2
    have hF1 : S1.Fits (k + 1) := by rw [hS1]; exact hF.step
    have HF0 := Lib.hid hF1
    have hT3 := Lib.hid hT2
    clear hE hT h1 h2 hd hd2 hS1 hd3 hp hF1 hT2
    go_enter Try.func51, Try.ntmps51
    go_wp2_with fail
    refine (rstep_p c col b D k w H0.out hF (by omega) _ HS1).mono ?_
    rintro e w6 ⟨rfl, col6, k6, h6⟩
    rw [HD3.out]
    have K6 := Lib.hid k6
    obtain ⟨aS, cS, aP, cP, sv, pv, h6⟩ := h6
    obtain ⟨S, P, dead, armed, steps⟩ := S1
    have hpen := HF0.out.pen
    simp only at hpen
    have H := Lib.hid h6
    have HF := Lib.hid HF0.out
    clear h6 k6 HF0
    go_wp2_with fail
    go_loopw [3] (fun v13 wr => ∃ i svi col1, i ≤ P.length ∧ v13 = .int .i64 (i : Nat) ∧ Hid (St (fun x => x = c) col w col1 wr) ∧ Hid (DkIn 59 c col1 wr b ⟨settleN allF S P i, P, dead, armed, steps⟩ aS cS aP cP svi pv)) (fun v13 _ => P.length - (intOf v13).toNat)
    case atStart => exact ⟨0, sv, col6, Nat.zero_le _, rfl, K6, H⟩
    case round =>
      obtain ⟨i, svi, col1, hi, rfl, HST, HI⟩ := hrel
      have hr2 := HI.out.row
      simp only at hr2
      have f1 : wr.cell? ⟨b, 1, none⟩ = some (.slice aP P.length cP) := hr2.cell 1
      by_cases hiP : i = P.length
      · subst hiP
        obtain rfl := hT3.out.trans (rfl : settleD allF ⟨S, P, dead, armed, steps⟩ = (⟨settleN allF S P P.length, [], dead, armed, steps⟩ : Dk))
        go_wp2_with (refine wpL_storeAt rfl _ _ _ rfl rfl rfl rfl rfl (by kernel_rfl) hr2 rfl ?_; intro w3 hg3 hr3)
        go_ret
        exact ⟨rfl, col1, HST.out.trans (St.one hg3 _ _ HI.out.cb), _, _, _, _, _, _, HI.out.clear hg3 hr3⟩
      · clear hr2
        have hlt : i < P.length := by omega
        have hlt' : (i : Int) < P.length := by omega
        obtain ⟨x, hx⟩ : ∃ x, x = (penAt P i).1 := ⟨_, rfl⟩
        have hxS : x < S.length := by rw [hx]; exact penAt_lt HF.out.fit hlt
        have hxT : x < (settleN allF S P i).length := by rw [settleN_len]; exact hxS
        have hsl := HI.out.so.1.sl
        obtain ⟨gS, oS, haS, _, _⟩ := hsl.addr (by simp only; omega)
        subst haS
        clear hsl
        obtain ⟨g2, off2, av2, cv2, haP, hp0, hp1, hpm⟩ := HI.out.pAt i hlt
        subst haP
        simp only at hp0 hp1 hpm
        have HPM := Lib.hid hpm
        obtain ⟨n2, hn2⟩ : ∃ x, x = (penAt P i).2.length := ⟨_, rfl⟩
        rw [← hx] at hp0
        rw [← hn2] at hp1 HPM
        have HX := Lib.hid hx
        have HN2 := Lib.hid hn2
        clear hx hn2 hpm
        go_wp2_with fail
        obtain ⟨w2, hw2⟩ : ∃ w2, w2 = wr := ⟨_, rfl⟩
        have hbr : Below wr.heap.size wr w2 := by rw [hw2]; exact Below.refl _ _
        rw [← hw2]
        clear hw2
        have HID := Lib.hid (HI.out.st (St.fresh hbr.drew (fun _ => False) col1) (fun h => h) (fun h => h))
        have HU : Hid (Imm col1 w2.drew (.slice av2 n2 cv2) (penAt P i).2) := Lib.hid ((HPM.out).st (St.fresh hbr.drew (fun _ => False) col1) (fun h => h))
        have q0 := later_cell ((hbr.cell (p := ⟨g2, off2 + i * 2, none⟩) (lt_of_cell hp0)).trans hp0)
        have q1 := later_cell ((hbr.cell (p := ⟨g2, off2 + i * 2 + 1, none⟩) (lt_of_cell hp1)).trans hp1)
        have e0 : wr.cell? ⟨b, 0, none⟩ = some (.slice (some ⟨gS, oS, none⟩) (settleN allF S P i).length cS) := HI.out.row.cell 0
        have e1 : wr.cell? ⟨b, 1, none⟩ = some (.slice (some ⟨g2, off2, none⟩) P.length cP) := HI.out.row.cell 1
        have q2 := later_cell ((hbr.cell (p := ⟨b, 0, none⟩) (lt_of_cell e0)).trans e0)
        have q3 := later_cell ((hbr.cell (p := ⟨b, 1, none⟩) (lt_of_cell e1)).trans e1)
        have HSZ : Hid (St (fun x => x = c) col w col1 w2.drew) := Lib.hid (HST.out.down hbr.drew)
        have hxi : (x : Int) < (settleN allF S P i).length := by omega
        have HOW : Hid (Own w2.drew 0 1 (.slice (some ⟨gS, oS, none⟩) (settleN allF S P i).length cS) (settleN allF S P i).length svi) := Lib.hid HID.out.so.1
        have HSL : Hid (svi.length = (settleN allF S P i).length) := Lib.hid (by have := HI.out.so.1.1; simp only at this; omega)
        clear hp0 hp1 e0 e1
        have hxN : x < (settleN allF S P i).length := by omega
        obtain ⟨NS, hNS⟩ : ∃ NS, NS = (settleN allF S P i).length := ⟨_, rfl⟩
        rw [← hNS] at q2 hxi HOW HSL hxN
        have HNS := Lib.hid hNS
        clear hNS hxT
        refine wp_region_idx Rb Rb_refl Rb_trans [(0,0),(0,1),(0,2),(0,3),(0,4),(0,5),(0,6),(0,7),(0,8),(0,9),(0,10),(0,11),(0,12),(0,13),(0,14),(0,15),(0,16),(0,17),(0,18),(0,19),(0,20),(2,21)] (by kernel_rfl) (by kernel_rfl) (by kernel_rfl) ?_
        simp only [pickO, List.getD_cons_succ, List.getD_cons_zero]
        refine wpCan_seg 21 (by kernel_rfl) ?_
        simp only [List.take_succ_cons, List.take_zero, List.drop_succ_cons, List.drop_zero, List.map_cons, List.map_nil]
        iterate 21 (go_big_quiet_step (fail))
        refine wpQuiet_nil ?_
        clear q0 q1 q2 q3
        refine wpCan_list (k := 1) (fun KK hK => ?_) (fun h => by cases h)
        refine wpL_storeOwn (g := 0) rfl _ _ _ rfl (v := (.slice av2 n2 cv2)) rfl rfl rfl rfl (by kernel_rfl) HOW.out x rfl (by rw [HSL.out]; exact hxN) ?_
        intro w3 hg3 ho3
        have HG3 : Hid (w2.drew.grownBy w3 (some gS)) := Lib.hid hg3
        have HO3 := Lib.hid ho3
        clear hg3 ho3
        refine hK _ _ (fun h => by cases h) ?_
        clear hK KK
        unfold wpCan
        go_wp2_with fail
        refine ⟨⟨i + 1, svi.set x (.slice av2 n2 cv2), col1, hlt, by go_num, Lib.hid (HSZ.out.trans (St.one HG3.out _ _ (HID.out.so.2 gS rfl))), ?_⟩, by simp [intOf]; omega⟩
        have := HID.out.setS (x := x) HU.out HG3.out (by rw [← HNS.out]; exact HO3.out)
        rw [HX.out] at this ⊢
        exact Lib.hid this
set_option maxHeartbeats 4000000 in
theorem ron_p (c : Nat) (col : Nat → Nat) (b : Nat) (D : Dk) (k : Nat) (w : World) (h : DkAt 59 c col w b D) (hF : D.Fits k) (hk : k < 1073741823) (torn : Int) (ak : Option Addr) (nk ck : Nat) (keep : List Int)
    (hk0 : Sl w 1 (.slice ak nk ck) nk (ints keep)) (hka : keep ≠ [] → ∀ g, (Value.slice ak nk ck).ownBlock = some g → ¬ col g = c) (E : Int) (hE : Hid (E = onE D)) (T : Dk) (hT : Hid (T = onD D keep torn)) :
    Calls Try.prog 54 #[.pointer (some ⟨b, 0, none⟩), .slice ak nk ck, .int .i64 torn] w fun e w' => e = .returned (.int .i64 E) ∧ Made 59 c col w b T w' := by
  have d2 := h.c2
  cases hd : D.dead with
  | false =>
    obtain rfl : E = 3 := hE.out.trans (by simp [onE, hd])
    obtain rfl : T = D := hT.out.trans (by simp [onD, hd])
    rw [hd] at d2
    clear hE hT hd
    go_enter Try.func54, Try.ntmps54
    go_wp2_with fail
    go_ret
    exact ⟨rfl, Made.refl h⟩
  | true =>
    obtain rfl : E = 0 := hE.out.trans (by simp [onE, hd])
    have HT2 : Hid (T = { settleD (keepF keep torn) D with dead := false, armed := 0 }) := Lib.hid (hT.out.trans (by simp [onD, hd]))
    rw [hd] at d2
    obtain ⟨aS, cS, aP, cP, sv, pv, h⟩ := h
    obtain ⟨S, P, dead, armed, steps⟩ := D
    have hpen := hF.pen
    simp only at hpen
    have HF := Lib.hid hF
    have H := Lib.hid h
    have HK0 := Lib.hid hk0
    have HKA := Lib.hid hka
    clear hE hT hd h hF hk0 hka
    go_enter Try.func54, Try.ntmps54
    go_wp2_with fail
    go_loopw [7] (fun v13 wr => ∃ i svi col1, i ≤ P.length ∧ v13 = .int .i64 (i : Nat) ∧ Hid (St (fun x => x = c) col w col1 wr) ∧ Hid (DkIn 59 c col1 wr b ⟨settleN (keepF keep torn) S P i, P, dead, armed, steps⟩ aS cS aP cP svi pv)) (fun v13 _ => P.length - (intOf v13).toNat)
    case atStart => exact ⟨0, sv, col, Nat.zero_le _, rfl, Lib.hid (St.refl _ _ _), H⟩
    case round =>
      obtain ⟨i, svi, col1, hi, rfl, HST, HI⟩ := hrel
      have hr2 := HI.out.row
      simp only at hr2
      have f1 : wr.cell? ⟨b, 1, none⟩ = some (.slice aP P.length cP) := hr2.cell 1
      by_cases hiP : i = P.length
      · subst hiP
        go_upto_region 11 with (refine wpL_storeAt rfl _ _ _ rfl rfl rfl rfl rfl (by kernel_rfl) hr2 rfl ?_; intro w3 hg3 hr3)
        go_upto_region 12 with (refine wpL_storeAt rfl _ _ _ rfl rfl rfl rfl rfl (by kernel_rfl) hr3 rfl ?_; intro w4 hg4 hr4)
        go_wp2_with (refine wpL_storeAt rfl _ _ _ rfl rfl rfl rfl rfl (by kernel_rfl) hr4 rfl ?_; intro w5 hg5 hr5)
        go_ret
        have h5 := ((HI.out.clear hg3 hr3).put hg4 _ _ _ hr4).put hg5 _ _ _ hr5
        rw [HT2.out]
        exact ⟨rfl, col1, ((HST.out.trans (St.one hg3 _ _ HI.out.cb)).trans (St.one hg4 _ _ HI.out.cb)).trans (St.one hg5 _ _ HI.out.cb), _, _, _, _, _, _, h5⟩
      · clear hr2
        have hlt : i < P.length := by omega
        have hlt' : (i : Int) < P.length := by omega
        obtain ⟨x, hx⟩ : ∃ x, x = (penAt P i).1 := ⟨_, rfl⟩
        have hxS : x < S.length := by rw [hx]; exact penAt_lt HF.out.fit hlt
        have hxT : x < (settleN (keepF keep torn) S P i).length := by rw [settleN_len]; exact hxS
        have hsl := HI.out.so.1.sl
        obtain ⟨gS, oS, haS, _, _⟩ := hsl.addr (by simp only; omega)
        subst haS
        clear hsl
        obtain ⟨g2, off2, av2, cv2, haP, hp0, hp1, hpm⟩ := HI.out.pAt i hlt
        subst haP
        simp only at hp0 hp1 hpm
        have HPM := Lib.hid hpm
        obtain ⟨n2, hn2⟩ : ∃ x, x = (penAt P i).2.length := ⟨_, rfl⟩
        rw [← hx] at hp0
        rw [← hn2] at hp1 HPM
        have HX := Lib.hid hx
        have HN2 := Lib.hid hn2
        clear hx hn2 hpm
        by_cases ht : (i : Int) = torn
        · have ht' : ((i : Int) == torn) = true := by simp [ht]
          have HSE := Lib.hid (settle_torn (keep := keep) (S := S) (P := P) ht)
          clear ht
          go_wp2_with fail
          obtain ⟨w2, hw2⟩ : ∃ w2, w2 = wr := ⟨_, rfl⟩
          have hbr : Below wr.heap.size wr w2 := by rw [hw2]; exact Below.refl _ _
          rw [← hw2]
          clear hw2
          have HID := Lib.hid (HI.out.st (St.fresh hbr.drew (fun _ => False) col1) (fun h => h) (fun h => h))
          have HU : Hid (Imm col1 w2.drew (.slice none 0 0) []) := Lib.hid (((Imm.nil col1 wr)).st (St.fresh hbr.drew (fun _ => False) col1) (fun h => h))
          have q0 := later_cell ((hbr.cell (p := ⟨g2, off2 + i * 2, none⟩) (lt_of_cell hp0)).trans hp0)
          have q1 := later_cell ((hbr.cell (p := ⟨g2, off2 + i * 2 + 1, none⟩) (lt_of_cell hp1)).trans hp1)
          have e0 : wr.cell? ⟨b, 0, none⟩ = some (.slice (some ⟨gS, oS, none⟩) (settleN (keepF keep torn) S P i).length cS) := HI.out.row.cell 0
          have e1 : wr.cell? ⟨b, 1, none⟩ = some (.slice (some ⟨g2, off2, none⟩) P.length cP) := HI.out.row.cell 1
          have q2 := later_cell ((hbr.cell (p := ⟨b, 0, none⟩) (lt_of_cell e0)).trans e0)
          have q3 := later_cell ((hbr.cell (p := ⟨b, 1, none⟩) (lt_of_cell e1)).trans e1)
          have HSZ : Hid (St (fun x => x = c) col w col1 w2.drew) := Lib.hid (HST.out.down hbr.drew)
          have hxi : (x : Int) < (settleN (keepF keep torn) S P i).length := by omega
          have HOW : Hid (Own w2.drew 0 1 (.slice (some ⟨gS, oS, none⟩) (settleN (keepF keep torn) S P i).length cS) (settleN (keepF keep torn) S P i).length svi) := Lib.hid HID.out.so.1
          have HSL : Hid (svi.length = (settleN (keepF keep torn) S P i).length) := Lib.hid (by have := HI.out.so.1.1; simp only at this; omega)
          clear hp0 hp1 e0 e1
          have hxN : x < (settleN (keepF keep torn) S P i).length := by omega
          obtain ⟨NS, hNS⟩ : ∃ NS, NS = (settleN (keepF keep torn) S P i).length := ⟨_, rfl⟩
          rw [← hNS] at q2 hxi HOW HSL hxN
          have HNS := Lib.hid hNS
          clear hNS hxT
          refine wp_region_idx Rb Rb_refl Rb_trans [(0,0),(0,1),(0,2),(0,3),(0,4),(0,5),(0,6),(0,7),(0,8),(0,9),(0,10),(0,11),(0,12),(2,13)] (by kernel_rfl) (by kernel_rfl) (by kernel_rfl) ?_
          simp only [pickO, List.getD_cons_succ, List.getD_cons_zero]
          refine wpCan_seg 13 (by kernel_rfl) ?_
          simp only [List.take_succ_cons, List.take_zero, List.drop_succ_cons, List.drop_zero, List.map_cons, List.map_nil]
          iterate 13 (go_big_quiet_step (fail))
          refine wpQuiet_nil ?_
          clear q0 q1 q2 q3
          refine wpCan_list (k := 1) (fun KK hK => ?_) (fun h => by cases h)
          refine wpL_storeOwn (g := 0) rfl _ _ _ rfl (v := (.slice none 0 0)) rfl rfl rfl rfl (by kernel_rfl) HOW.out x rfl (by rw [HSL.out]; exact hxN) ?_
          intro w3 hg3 ho3
          have HG3 : Hid (w2.drew.grownBy w3 (some gS)) := Lib.hid hg3
          have HO3 := Lib.hid ho3
          clear hg3 ho3
          refine hK _ _ (fun h => by cases h) ?_
          clear hK KK
          unfold wpCan
          go_wp2_with fail
          refine ⟨⟨i + 1, svi.set x (.slice none 0 0), col1, hlt, by go_num, Lib.hid (HSZ.out.trans (St.one HG3.out _ _ (HID.out.so.2 gS rfl))), ?_⟩, by simp [intOf]; omega⟩
          have := HID.out.setS (x := x) HU.out HG3.out (by rw [← HNS.out]; exact HO3.out)
          rw [HSE.out]
          rw [HX.out] at this ⊢
          exact Lib.hid this
        · have ht' : ((i : Int) == torn) = false := by rw [beq_eq_false_iff_ne]; exact ht
          have hkr := HK0.out.mods0 HST.out.mods (fun hne g hg => HKA.out (fun e => hne (by rw [e]; rfl)) g hg)
          by_cases hkk : (i : Int) ∈ keep
          · have HSE := Lib.hid (settle_keep (S := S) (P := P) ht hkk)
            have HV : Hid (true = decide ((i : Int) ∈ keep)) := Lib.hid (decide_eq_true hkk).symm
            clear ht hkk
            go_wp2_with fail
            refine (among_any ak nk ck keep i wr hkr true HV).mono ?_
            rintro e w2 ⟨rfl, hbr⟩
            clear hkr
            go_wp2_with fail
            have HID := Lib.hid (HI.out.st (St.fresh hbr.drew (fun _ => False) col1) (fun h => h) (fun h => h))
            have HU : Hid (Imm col1 w2.drew (.slice av2 n2 cv2) (penAt P i).2) := Lib.hid ((HPM.out).st (St.fresh hbr.drew (fun _ => False) col1) (fun h => h))
            have q0 := later_cell ((hbr.cell (p := ⟨g2, off2 + i * 2, none⟩) (lt_of_cell hp0)).trans hp0)
            have q1 := later_cell ((hbr.cell (p := ⟨g2, off2 + i * 2 + 1, none⟩) (lt_of_cell hp1)).trans hp1)
            have e0 : wr.cell? ⟨b, 0, none⟩ = some (.slice (some ⟨gS, oS, none⟩) (settleN (keepF keep torn) S P i).length cS) := HI.out.row.cell 0
            have e1 : wr.cell? ⟨b, 1, none⟩ = some (.slice (some ⟨g2, off2, none⟩) P.length cP) := HI.out.row.cell 1
            have q2 := later_cell ((hbr.cell (p := ⟨b, 0, none⟩) (lt_of_cell e0)).trans e0)
            have q3 := later_cell ((hbr.cell (p := ⟨b, 1, none⟩) (lt_of_cell e1)).trans e1)
            have HSZ : Hid (St (fun x => x = c) col w col1 w2.drew) := Lib.hid (HST.out.down hbr.drew)
            have hxi : (x : Int) < (settleN (keepF keep torn) S P i).length := by omega
            have HOW : Hid (Own w2.drew 0 1 (.slice (some ⟨gS, oS, none⟩) (settleN (keepF keep torn) S P i).length cS) (settleN (keepF keep torn) S P i).length svi) := Lib.hid HID.out.so.1
            have HSL : Hid (svi.length = (settleN (keepF keep torn) S P i).length) := Lib.hid (by have := HI.out.so.1.1; simp only at this; omega)
            clear hp0 hp1 e0 e1
            have hxN : x < (settleN (keepF keep torn) S P i).length := by omega
            obtain ⟨NS, hNS⟩ : ∃ NS, NS = (settleN (keepF keep torn) S P i).length := ⟨_, rfl⟩
            rw [← hNS] at q2 hxi HOW HSL hxN
            have HNS := Lib.hid hNS
            clear hNS hxT
            refine wp_region_idx Rb Rb_refl Rb_trans [(0,0),(0,1),(0,2),(0,3),(0,4),(0,5),(0,6),(0,7),(0,8),(0,9),(0,10),(0,11),(0,12),(0,13),(0,14),(0,15),(0,16),(0,17),(0,18),(0,19),(0,20),(2,21)] (by kernel_rfl) (by kernel_rfl) (by kernel_rfl) ?_
            simp only [pickO, List.getD_cons_succ, List.getD_cons_zero]
            refine wpCan_seg 21 (by kernel_rfl) ?_
            simp only [List.take_succ_cons, List.take_zero, List.drop_succ_cons, List.drop_zero, List.map_cons, List.map_nil]
            iterate 21 (go_big_quiet_step (fail))
            refine wpQuiet_nil ?_
            clear q0 q1 q2 q3
            refine wpCan_list (k := 1) (fun KK hK => ?_) (fun h => by cases h)
            refine wpL_storeOwn (g := 0) rfl _ _ _ rfl (v := (.slice av2 n2 cv2)) rfl rfl rfl rfl (by kernel_rfl) HOW.out x rfl (by rw [HSL.out]; exact hxN) ?_
            intro w3 hg3 ho3
            have HG3 : Hid (w2.drew.grownBy w3 (some gS)) := Lib.hid hg3
            have HO3 := Lib.hid ho3
            clear hg3 ho3
            refine hK _ _ (fun h => by cases h) ?_
            clear hK KK
            unfold wpCan
            go_wp2_with fail
            refine ⟨⟨i + 1, svi.set x (.slice av2 n2 cv2), col1, hlt, by go_num, Lib.hid (HSZ.out.trans (St.one HG3.out _ _ (HID.out.so.2 gS rfl))), ?_⟩, by simp [intOf]; omega⟩
            have := HID.out.setS (x := x) HU.out HG3.out (by rw [← HNS.out]; exact HO3.out)
            rw [HSE.out]
            rw [HX.out] at this ⊢
            exact Lib.hid this
          · have HSE := Lib.hid (settle_lose (S := S) (P := P) ht hkk)
            have HV : Hid (false = decide ((i : Int) ∈ keep)) := Lib.hid (decide_eq_false hkk).symm
            clear ht hkk
            go_wp2_with fail
            refine (among_any ak nk ck keep i wr hkr false HV).mono ?_
            rintro e w2 ⟨rfl, hbr⟩
            clear hkr
            go_wp2_with fail
            refine ⟨⟨i + 1, svi, col1, hlt, by go_num, Lib.hid (HST.out.down hbr), ?_⟩, by simp [intOf]; omega⟩
            rw [HSE.out]
            exact Lib.hid (HI.out.st (St.fresh hbr (fun _ => False) col1) (fun h => h) (fun h => h))
end Go.Proofs.Ytcocodpeigbdaaa
