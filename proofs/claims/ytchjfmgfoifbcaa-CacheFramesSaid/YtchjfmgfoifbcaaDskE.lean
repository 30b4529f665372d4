/-
  settle of a disk, with each of the two functions that tell what lasts. Conditions: the disk reads as one.
-/
import Derived.Test.YtchjfmgfoifbcaaDskD
namespace Go.Proofs.Ytchjfmgfoifbcaa
open Go.RowKit
set_option linter.unusedVariables false
set_option linter.unusedSimpArgs false
set_option maxRecDepth 100000

theorem St.down {C : Nat → Prop} {col col1 : Nat → Nat} {w w1 w2 : World} (h : St C col w col1 w1) (hb : Below w1.heap.size w1 w2) : St C col w col1 w2 := h.trans (St.fresh hb _ _)
set_option maxHeartbeats 2000000 in
theorem settle_bar (c : Nat) (col : Nat → Nat) (b : Nat) (D : Dk) (k : Nat) (w : World) (h : DkAt 62 c col w b D) (hF : D.Fits k) (hk : k < 1073741824) (T : Dk) (hT : Hid (T = settleD allF D)) :
    Calls Try.prog 43 #[.pointer (some ⟨b, 0, none⟩), .func (.func 52) #[] #[]] w fun e w' => (∃ v, e = .returned v) ∧ Made 62 c col w b T w' := by
  obtain ⟨aS, cS, aP, cP, sv, pv, h⟩ := h
  obtain ⟨S, P, dead, armed, steps⟩ := D
  have hpen := hF.pen
  simp only at hpen
  have hr := h.row
  simp only at hr
  have c1 : w.cell? ⟨b, 1, none⟩ = some (.slice aP P.length cP) := hr.cell 1
  have HF := Lib.hid hF
  have H := Lib.hid h
  clear h hr hF
  go_enter Try.func43, Try.ntmps43
  go_wp2_with fail
  go_loopw [13] (fun v13 wr => ∃ i svi col1, i ≤ P.length ∧ v13 = .int .i64 (i : Nat) ∧ Hid (St (fun x => x = c) col w col1 wr) ∧ Hid (DkIn 62 c col1 wr b ⟨settleN allF S P i, P, dead, armed, steps⟩ aS cS aP cP svi pv)) (fun v13 _ => P.length - (intOf v13).toNat)
  case atStart => exact ⟨0, sv, col, Nat.zero_le _, rfl, Lib.hid (St.refl _ _ _), H⟩
  case round =>
    obtain ⟨i, svi, col1, hi, rfl, HST, HI⟩ := hrel
    by_cases hiP : i = P.length
    · subst hiP
      obtain rfl := hT.out.trans (rfl : settleD allF ⟨S, P, dead, armed, steps⟩ = (⟨settleN allF S P P.length, [], dead, armed, steps⟩ : Dk))
      have hr2 := HI.out.row
      simp only at hr2
      go_wp2_with (refine wpL_storeAt rfl _ _ _ rfl rfl rfl rfl rfl (by kernel_rfl) hr2 rfl ?_; intro w3 hg3 hr3)
      go_end0
      exact ⟨⟨_, rfl⟩, col1, HST.out.trans (St.one hg3 _ _ HI.out.cb), _, _, _, _, _, _, HI.out.clear hg3 hr3⟩
    · have hlt : i < P.length := by omega
      have hlt' : (i : Int) < P.length := by omega
      obtain ⟨x, hx⟩ : ∃ x, x = (penAt P i).1 := ⟨_, rfl⟩
      have hxS : x < S.length := by rw [hx]; exact penAt_lt HF.out.fit hlt
      have hxT : x < (settleN allF S P i).length := by rw [settleN_len]; exact hxS
      have hsl := HI.out.so.1.sl
      obtain ⟨gS, oS, haS, _, _⟩ := hsl.addr (by simp only; omega)
      subst haS
      clear hsl
      obtain ⟨g2, off2, av2, cv2, haP, hp0, hp1, hpm⟩ := HI.out.pAt i hlt
      subst haP
      simp only at hp0 hp1 hpm
      have HPM := Lib.hid hpm
      obtain ⟨n2, hn2⟩ : ∃ x, x = (penAt P i).2.length := ⟨_, rfl⟩
      rw [← hx] at hp0
      rw [← hn2] at hp1 HPM
      have HX := Lib.hid hx
      have HN2 := Lib.hid hn2
      have hb1 : Below wr.heap.size wr (wr.alloc (.cells #[.int .i64 (x : Int), .slice av2 n2 cv2] 78)) := (Below.refl _ _).alloc (Nat.le_refl _) _
      have hrw : Row (wr.alloc (.cells #[.int .i64 (x : Int), .slice av2 n2 cv2] 78)) wr.heap.size 78 [.int .i64 (x : Int), .slice av2 n2 cv2] := Row.new _ _ _
      have d0 : (wr.alloc (.cells #[.int .i64 (x : Int), .slice av2 n2 cv2] 78)).cell? ⟨wr.heap.size, 0, none⟩ = some (.int .i64 (x : Int)) := hrw.cell 0
      have d1 : (wr.alloc (.cells #[.int .i64 (x : Int), .slice av2 n2 cv2] 78)).cell? ⟨wr.heap.size, 1, none⟩ = some (.slice av2 n2 cv2) := hrw.cell 1
      have HB1 := Lib.hid hb1
      have HRW := Lib.hid hrw
      clear hx hn2 hpm hb1 hrw
      go_wp2_with (go_at_call 52; refine (bar1_any i x av2 n2 cv2 _).mono ?_; rintro e w2 ⟨rfl, hb2⟩)
      have HID := Lib.hid ((HI.out.st (St.fresh (HB1.out.trans (hb2.mono HB1.out.size)) (fun _ => False) col1) (fun h => h) (fun h => h)).st (St.fresh (Below.refl _ _).drew (fun _ => False) col1) (fun h => h) (fun h => h))
      have HI2 := Lib.hid (HI.out.st (St.fresh (HB1.out.trans (hb2.mono HB1.out.size)) (fun _ => False) col1) (fun h => h) (fun h => h))
      have HU : Hid (Imm col1 w2.drew (.slice av2 n2 cv2) (penAt P i).2) := Lib.hid (((HPM.out).st (St.fresh (HB1.out.trans (hb2.mono HB1.out.size)) (fun _ => False) col1) (fun h => h)).st (St.fresh (Below.refl _ _).drew (fun _ => False) col1) (fun h => h))
      have q0 := later_cell (hb2.cell (p := ⟨wr.heap.size, 0, none⟩) (lt_of_cell d0) |>.trans d0)
      have e0 : w2.cell? ⟨b, 0, none⟩ = some (.slice (some ⟨gS, oS, none⟩) (settleN allF S P i).length cS) := HI2.out.row.cell 0
      have q1 := later_cell e0
      have hw2 : wr.heap.size ≤ w2.heap.size := (HB1.out.trans (hb2.mono HB1.out.size)).size
      have HSZ : Hid (St (fun x => x = c) col w col1 w2.drew) := Lib.hid (HST.out.down (HB1.out.trans (hb2.mono HB1.out.size)).drew)
      have hxi : (x : Int) < (settleN allF S P i).length := by omega
      have HOW : Hid (Own w2.drew 0 1 (.slice (some ⟨gS, oS, none⟩) (settleN allF S P i).length cS) (settleN allF S P i).length svi) := Lib.hid HI2.out.so.1.drew
      have HSL : Hid (svi.length = (settleN allF S P i).length) := Lib.hid (by have := HI2.out.so.1.1; simp only at this; omega)
      clear d0 d1 hp0 hp1 e0
      have hxN : x < (settleN allF S P i).length := by omega
      obtain ⟨NS, hNS⟩ : ∃ NS, NS = (settleN allF S P i).length := ⟨_, rfl⟩
      rw [← hNS] at q1 hxi HOW HSL hxN
      have HNS := Lib.hid hNS
      clear hNS hxT
      refine wp_region_idx Rb Rb_refl Rb_trans [(0,0),(0,1),(0,2),(0,3),(0,4),(0,5),(0,6),(0,7),(2,8)] (by kernel_rfl) (by kernel_rfl) (by kernel_rfl) ?_
      simp only [pickO, List.getD_cons_succ, List.getD_cons_zero]
      refine wpCan_seg 8 (by kernel_rfl) ?_
      simp only [List.take_succ_cons, List.take_zero, List.drop_succ_cons, List.drop_zero, List.map_cons, List.map_nil]
      iterate 8 (go_big_quiet_step (fail))
      refine wpQuiet_nil ?_
      clear q0 q1
      refine wpCan_list (k := 1) (fun KK hK => ?_) (fun h => by cases h)
      refine wpL_storeOwn (g := 0) rfl _ _ _ rfl (v := (.slice av2 n2 cv2)) rfl rfl rfl rfl (by kernel_rfl) HOW.out x rfl (by rw [HSL.out]; exact hxN) ?_
      intro w3 hg3 ho3
      have HG3 : Hid (w2.drew.grownBy w3 (some gS)) := Lib.hid hg3
      have HO3 := Lib.hid ho3
      clear hg3 ho3
      refine hK _ _ (fun h => by cases h) ?_
      clear hK KK
      unfold wpCan
      go_wp2_with fail
      refine ⟨⟨i + 1, svi.set x (.slice av2 n2 cv2), col1, hlt, by go_num, Lib.hid (HSZ.out.trans (St.one HG3.out _ _ (HID.out.so.2 gS rfl))), ?_⟩, by simp [intOf]; omega⟩
      have := HID.out.setS (x := x) HU.out HG3.out (by rw [← HNS.out]; exact HO3.out)
      rw [HX.out] at this ⊢
      exact Lib.hid this
theorem Sl.mods0 {w w' : World} {P : Nat → Prop} {size m : Nat} {v : Value} {xs : List Value} (h : Sl w size v m xs) (hm : Mods P w w') (hn : xs ≠ [] → ∀ g, v.ownBlock = some g → ¬ P g) : Sl w' size v m xs := by
  by_cases hx : xs = []
  · subst hx
    obtain ⟨hl, a, c, rfl, h1, h2, h3, h4⟩ := h
    exact ⟨hl, a, c, rfl, h1, h2, h3, fun j u hu => by simp at hu⟩
  · exact h.mods hm (hn hx)
theorem settle_torn {keep : List Int} {torn : Int} {S : List (List UInt8)} {P : Pend} {i : Nat} (h : (i : Int) = torn) : settleN (keepF keep torn) S P (i + 1) = (settleN (keepF keep torn) S P i).set (penAt P i).1 [] := by
  rw [settleN, keepF, if_pos h]
theorem settle_keep {keep : List Int} {torn : Int} {S : List (List UInt8)} {P : Pend} {i : Nat} (h : ¬ (i : Int) = torn) (hk : (i : Int) ∈ keep) : settleN (keepF keep torn) S P (i + 1) = (settleN (keepF keep torn) S P i).set (penAt P i).1 (penAt P i).2 := by
  rw [settleN, keepF, if_neg h, if_pos hk]
theorem settle_lose {keep : List Int} {torn : Int} {S : List (List UInt8)} {P : Pend} {i : Nat} (h : ¬ (i : Int) = torn) (hk : ¬ (i : Int) ∈ keep) : settleN (keepF keep torn) S P (i + 1) = settleN (keepF keep torn) S P i := by
  rw [settleN, keepF, if_neg h, if_neg hk]
set_option maxHeartbeats 4000000 in
theorem settle_on (c : Nat) (col : Nat → Nat) (b : Nat) (D : Dk) (k : Nat) (w : World) (h : DkAt 62 c col w b D) (hF : D.Fits k) (hk : k < 1073741824) (tb kb : Nat) (torn : Int) (ak : Option Addr) (nk ck : Nat) (keep : List Int)
    (hct0 : w.cell? ⟨tb, 0, none⟩ = some (.int .i64 torn)) (hkb0 : w.cell? ⟨kb, 0, none⟩ = some (.slice ak nk ck)) (hk0 : Sl w 1 (.slice ak nk ck) nk (ints keep)) (hct : ¬ col tb = c) (hck : ¬ col kb = c) (hka : keep ≠ [] → ∀ g, (Value.slice ak nk ck).ownBlock = some g → ¬ col g = c) (T : Dk) (hT : Hid (T = settleD (keepF keep torn) D)) :
    Calls Try.prog 43 #[.pointer (some ⟨b, 0, none⟩), .func (.func 44) #[] #[.pointer (some ⟨tb, 0, none⟩), .pointer (some ⟨kb, 0, none⟩)]] w fun e w' => (∃ v, e = .returned v) ∧ Made 62 c col w b T w' := by
  obtain ⟨aS, cS, aP, cP, sv, pv, h⟩ := h
  obtain ⟨S, P, dead, armed, steps⟩ := D
  have hpen := hF.pen
  simp only at hpen
  have hr := h.row
  simp only at hr
  have c1 : w.cell? ⟨b, 1, none⟩ = some (.slice aP P.length cP) := hr.cell 1
  have HF := Lib.hid hF
  have H := Lib.hid h
  clear h hr hF
  go_enter Try.func43, Try.ntmps43
  go_wp2_with fail
  go_loopw [13] (fun v13 wr => ∃ i svi col1, i ≤ P.length ∧ v13 = .int .i64 (i : Nat) ∧ Hid (St (fun x => x = c) col w col1 wr) ∧ Hid (DkIn 62 c col1 wr b ⟨settleN (keepF keep torn) S P i, P, dead, armed, steps⟩ aS cS aP cP svi pv)) (fun v13 _ => P.length - (intOf v13).toNat)
  case atStart => exact ⟨0, sv, col, Nat.zero_le _, rfl, Lib.hid (St.refl _ _ _), H⟩
  case round =>
    obtain ⟨i, svi, col1, hi, rfl, HST, HI⟩ := hrel
    by_cases hiP : i = P.length
    · subst hiP
      obtain rfl := hT.out.trans (rfl : settleD (keepF keep torn) ⟨S, P, dead, armed, steps⟩ = (⟨settleN (keepF keep torn) S P P.length, [], dead, armed, steps⟩ : Dk))
      have hr2 := HI.out.row
      simp only at hr2
      go_wp2_with (refine wpL_storeAt rfl _ _ _ rfl rfl rfl rfl rfl (by kernel_rfl) hr2 rfl ?_; intro w3 hg3 hr3)
      go_end0
      exact ⟨⟨_, rfl⟩, col1, HST.out.trans (St.one hg3 _ _ HI.out.cb), _, _, _, _, _, _, HI.out.clear hg3 hr3⟩
    · have hlt : i < P.length := by omega
      have hlt' : (i : Int) < P.length := by omega
      obtain ⟨x, hx⟩ : ∃ x, x = (penAt P i).1 := ⟨_, rfl⟩
      have hxS : x < S.length := by rw [hx]; exact penAt_lt HF.out.fit hlt
      have hxT : x < (settleN (keepF keep torn) S P i).length := by rw [settleN_len]; exact hxS
      have hsl := HI.out.so.1.sl
      obtain ⟨gS, oS, haS, _, _⟩ := hsl.addr (by simp only; omega)
      subst haS
      clear hsl
      obtain ⟨g2, off2, av2, cv2, haP, hp0, hp1, hpm⟩ := HI.out.pAt i hlt
      subst haP
      simp only at hp0 hp1 hpm
      have HPM := Lib.hid hpm
      obtain ⟨n2, hn2⟩ : ∃ x, x = (penAt P i).2.length := ⟨_, rfl⟩
      rw [← hx] at hp0
      rw [← hn2] at hp1 HPM
      have HX := Lib.hid hx
      have HN2 := Lib.hid hn2
      have hb1 : Below wr.heap.size wr (wr.alloc (.cells #[.int .i64 (x : Int), .slice av2 n2 cv2] 78)) := (Below.refl _ _).alloc (Nat.le_refl _) _
      have hrw : Row (wr.alloc (.cells #[.int .i64 (x : Int), .slice av2 n2 cv2] 78)) wr.heap.size 78 [.int .i64 (x : Int), .slice av2 n2 cv2] := Row.new _ _ _
      have d0 : (wr.alloc (.cells #[.int .i64 (x : Int), .slice av2 n2 cv2] 78)).cell? ⟨wr.heap.size, 0, none⟩ = some (.int .i64 (x : Int)) := hrw.cell 0
      have d1 : (wr.alloc (.cells #[.int .i64 (x : Int), .slice av2 n2 cv2] 78)).cell? ⟨wr.heap.size, 1, none⟩ = some (.slice av2 n2 cv2) := hrw.cell 1
      have HB1 := Lib.hid hb1
      have HRW := Lib.hid hrw
      clear hx hn2 hpm hb1 hrw
      have k1 := ((HST.out.mods.cell hct0 hct).trans rfl)
      have k2 := ((HST.out.mods.cell hkb0 hck).trans rfl)
      have k3 := hk0.mods0 HST.out.mods (fun hne g hg => hka (fun e => hne (by rw [e]; rfl)) g hg)
      replace k1 := (HB1.out.cell (p := ⟨tb, 0, none⟩) (lt_of_cell k1)).trans k1
      replace k2 := (HB1.out.cell (p := ⟨kb, 0, none⟩) (lt_of_cell k2)).trans k2
      replace k3 := k3.below HB1.out
      have K1 := Lib.hid k1
      have K2 := Lib.hid k2
      have K3 := Lib.hid k3
      clear k1 k2 k3
      by_cases ht : (i : Int) = torn
      · have HV : Hid ((Value.slice none 0 0, true) = if (i : Int) = torn then (.slice none 0 0, true) else (.slice av2 n2 cv2, decide ((i : Int) ∈ keep))) := Lib.hid (by rw [if_pos ht])
        have HSE := Lib.hid (settle_torn (keep := keep) (S := S) (P := P) ht)
        clear ht
        go_wp2_with (go_at_call 44; refine (on1_any i x av2 n2 cv2 tb kb torn ak nk ck keep _ K1.out K2.out K3.out _ _ HV).mono ?_; rintro e w2 ⟨rfl, hb2⟩)
        have HID := Lib.hid ((HI.out.st (St.fresh (HB1.out.trans (hb2.mono HB1.out.size)) (fun _ => False) col1) (fun h => h) (fun h => h)).st (St.fresh (Below.refl _ _).drew (fun _ => False) col1) (fun h => h) (fun h => h))
        have HI2 := Lib.hid (HI.out.st (St.fresh (HB1.out.trans (hb2.mono HB1.out.size)) (fun _ => False) col1) (fun h => h) (fun h => h))
        have HU : Hid (Imm col1 w2.drew (.slice none 0 0) []) := Lib.hid ((((Imm.nil col1 wr)).st (St.fresh (HB1.out.trans (hb2.mono HB1.out.size)) (fun _ => False) col1) (fun h => h)).st (St.fresh (Below.refl _ _).drew (fun _ => False) col1) (fun h => h))
        have q0 := later_cell (hb2.cell (p := ⟨wr.heap.size, 0, none⟩) (lt_of_cell d0) |>.trans d0)
        have e0 : w2.cell? ⟨b, 0, none⟩ = some (.slice (some ⟨gS, oS, none⟩) (settleN (keepF keep torn) S P i).length cS) := HI2.out.row.cell 0
        have q1 := later_cell e0
        have hw2 : wr.heap.size ≤ w2.heap.size := (HB1.out.trans (hb2.mono HB1.out.size)).size
        have HSZ : Hid (St (fun x => x = c) col w col1 w2.drew) := Lib.hid (HST.out.down (HB1.out.trans (hb2.mono HB1.out.size)).drew)
        have hxi : (x : Int) < (settleN (keepF keep torn) S P i).length := by omega
        have HOW : Hid (Own w2.drew 0 1 (.slice (some ⟨gS, oS, none⟩) (settleN (keepF keep torn) S P i).length cS) (settleN (keepF keep torn) S P i).length svi) := Lib.hid HI2.out.so.1.drew
        have HSL : Hid (svi.length = (settleN (keepF keep torn) S P i).length) := Lib.hid (by have := HI2.out.so.1.1; simp only at this; omega)
        clear d0 d1 hp0 hp1 e0
        have hxN : x < (settleN (keepF keep torn) S P i).length := by omega
        obtain ⟨NS, hNS⟩ : ∃ NS, NS = (settleN (keepF keep torn) S P i).length := ⟨_, rfl⟩
        rw [← hNS] at q1 hxi HOW HSL hxN
        have HNS := Lib.hid hNS
        clear hNS hxT
        refine wp_region_idx Rb Rb_refl Rb_trans [(0,0),(0,1),(0,2),(0,3),(0,4),(0,5),(0,6),(0,7),(2,8)] (by kernel_rfl) (by kernel_rfl) (by kernel_rfl) ?_
        simp only [pickO, List.getD_cons_succ, List.getD_cons_zero]
        refine wpCan_seg 8 (by kernel_rfl) ?_
        simp only [List.take_succ_cons, List.take_zero, List.drop_succ_cons, List.drop_zero, List.map_cons, List.map_nil]
        iterate 8 (go_big_quiet_step (fail))
        refine wpQuiet_nil ?_
        clear q0 q1
        refine wpCan_list (k := 1) (fun KK hK => ?_) (fun h => by cases h)
        refine wpL_storeOwn (g := 0) rfl _ _ _ rfl (v := (.slice none 0 0)) rfl rfl rfl rfl (by kernel_rfl) HOW.out x rfl (by rw [HSL.out]; exact hxN) ?_
        intro w3 hg3 ho3
        have HG3 : Hid (w2.drew.grownBy w3 (some gS)) := Lib.hid hg3
        have HO3 := Lib.hid ho3
        clear hg3 ho3
        refine hK _ _ (fun h => by cases h) ?_
        clear hK KK
        unfold wpCan
        go_wp2_with fail
        refine ⟨⟨i + 1, svi.set x (.slice none 0 0), col1, hlt, by go_num, Lib.hid (HSZ.out.trans (St.one HG3.out _ _ (HID.out.so.2 gS rfl))), ?_⟩, by simp [intOf]; omega⟩
        have := HID.out.setS (x := x) HU.out HG3.out (by rw [← HNS.out]; exact HO3.out)
        rw [HSE.out]
        rw [HX.out] at this ⊢
        exact Lib.hid this
      · by_cases hkk : (i : Int) ∈ keep
        · have HV : Hid ((Value.slice av2 n2 cv2, true) = if (i : Int) = torn then (.slice none 0 0, true) else (.slice av2 n2 cv2, decide ((i : Int) ∈ keep))) := Lib.hid (by rw [if_neg ht, decide_eq_true hkk])
          have HSE := Lib.hid (settle_keep (S := S) (P := P) ht hkk)
          clear ht hkk
          go_wp2_with (go_at_call 44; refine (on1_any i x av2 n2 cv2 tb kb torn ak nk ck keep _ K1.out K2.out K3.out _ _ HV).mono ?_; rintro e w2 ⟨rfl, hb2⟩)
          have HID := Lib.hid ((HI.out.st (St.fresh (HB1.out.trans (hb2.mono HB1.out.size)) (fun _ => False) col1) (fun h => h) (fun h => h)).st (St.fresh (Below.refl _ _).drew (fun _ => False) col1) (fun h => h) (fun h => h))
          have HI2 := Lib.hid (HI.out.st (St.fresh (HB1.out.trans (hb2.mono HB1.out.size)) (fun _ => False) col1) (fun h => h) (fun h => h))
          have HU : Hid (Imm col1 w2.drew (.slice av2 n2 cv2) (penAt P i).2) := Lib.hid (((HPM.out).st (St.fresh (HB1.out.trans (hb2.mono HB1.out.size)) (fun _ => False) col1) (fun h => h)).st (St.fresh (Below.refl _ _).drew (fun _ => False) col1) (fun h => h))
          have q0 := later_cell (hb2.cell (p := ⟨wr.heap.size, 0, none⟩) (lt_of_cell d0) |>.trans d0)
          have e0 : w2.cell? ⟨b, 0, none⟩ = some (.slice (some ⟨gS, oS, none⟩) (settleN (keepF keep torn) S P i).length cS) := HI2.out.row.cell 0
          have q1 := later_cell e0
          have hw2 : wr.heap.size ≤ w2.heap.size := (HB1.out.trans (hb2.mono HB1.out.size)).size
          have HSZ : Hid (St (fun x => x = c) col w col1 w2.drew) := Lib.hid (HST.out.down (HB1.out.trans (hb2.mono HB1.out.size)).drew)
          have hxi : (x : Int) < (settleN (keepF keep torn) S P i).length := by omega
          have HOW : Hid (Own w2.drew 0 1 (.slice (some ⟨gS, oS, none⟩) (settleN (keepF keep torn) S P i).length cS) (settleN (keepF keep torn) S P i).length svi) := Lib.hid HI2.out.so.1.drew
          have HSL : Hid (svi.length = (settleN (keepF keep torn) S P i).length) := Lib.hid (by have := HI2.out.so.1.1; simp only at this; omega)
          clear d0 d1 hp0 hp1 e0
          have hxN : x < (settleN (keepF keep torn) S P i).length := by omega
          obtain ⟨NS, hNS⟩ : ∃ NS, NS = (settleN (keepF keep torn) S P i).length := ⟨_, rfl⟩
          rw [← hNS] at q1 hxi HOW HSL hxN
          have HNS := Lib.hid hNS
          clear hNS hxT
          refine wp_region_idx Rb Rb_refl Rb_trans [(0,0),(0,1),(0,2),(0,3),(0,4),(0,5),(0,6),(0,7),(2,8)] (by kernel_rfl) (by kernel_rfl) (by kernel_rfl) ?_
          simp only [pickO, List.getD_cons_succ, List.getD_cons_zero]
          refine wpCan_seg 8 (by kernel_rfl) ?_
          simp only [List.take_succ_cons, List.take_zero, List.drop_succ_cons, List.drop_zero, List.map_cons, List.map_nil]
          iterate 8 (go_big_quiet_step (fail))
          refine wpQuiet_nil ?_
          clear q0 q1
          refine wpCan_list (k := 1) (fun KK hK => ?_) (fun h => by cases h)
          refine wpL_storeOwn (g := 0) rfl _ _ _ rfl (v := (.slice av2 n2 cv2)) rfl rfl rfl rfl (by kernel_rfl) HOW.out x rfl (by rw [HSL.out]; exact hxN) ?_
          intro w3 hg3 ho3
          have HG3 : Hid (w2.drew.grownBy w3 (some gS)) := Lib.hid hg3
          have HO3 := Lib.hid ho3
          clear hg3 ho3
          refine hK _ _ (fun h => by cases h) ?_
          clear hK KK
          unfold wpCan
          go_wp2_with fail
          refine ⟨⟨i + 1, svi.set x (.slice av2 n2 cv2), col1, hlt, by go_num, Lib.hid (HSZ.out.trans (St.one HG3.out _ _ (HID.out.so.2 gS rfl))), ?_⟩, by simp [intOf]; omega⟩
          have := HID.out.setS (x := x) HU.out HG3.out (by rw [← HNS.out]; exact HO3.out)
          rw [HSE.out]
          rw [HX.out] at this ⊢
          exact Lib.hid this
        · have HV : Hid ((Value.slice av2 n2 cv2, false) = if (i : Int) = torn then (.slice none 0 0, true) else (.slice av2 n2 cv2, decide ((i : Int) ∈ keep))) := Lib.hid (by rw [if_neg ht, decide_eq_false hkk])
          have HSE := Lib.hid (settle_lose (S := S) (P := P) ht hkk)
          clear ht hkk
          go_wp2_with (go_at_call 44; refine (on1_any i x av2 n2 cv2 tb kb torn ak nk ck keep _ K1.out K2.out K3.out _ _ HV).mono ?_; rintro e w2 ⟨rfl, hb2⟩)
          have hB2 := HB1.out.trans (hb2.mono HB1.out.size)
          refine ⟨⟨i + 1, svi, col1, hlt, by go_num, Lib.hid (HST.out.down hB2), ?_⟩, by simp [intOf]; omega⟩
          rw [HSE.out]
          exact Lib.hid (HI.out.st (St.fresh hB2 (fun _ => False) col1) (fun h => h) (fun h => h))
end Go.Proofs.Ytchjfmgfoifbcaa
