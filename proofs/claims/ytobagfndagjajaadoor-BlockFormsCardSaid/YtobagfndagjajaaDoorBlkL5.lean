/-
  BlockForms, walked.
-/
import Derived.Test.YtobagfndagjajaaDoorBlkF
import Derived.Test.YtobagfndagjajaaDoorBlkW
import Derived.Test.YtobagfndagjajaaDoorOpen
namespace Go.Proofs.YtobagfndagjajaaDoor
open Go.RowKit
set_option linter.unusedVariables false
set_option linter.unusedSimpArgs false

theorem seal_7 (a : Option Addr) (n c : Nat) (b : List UInt8) (w : World) (hl : Sl w 1 (.slice a n c) n (bvs b)) (hn : n ≤ 248) :
    Calls Tryd.prog 11 #[.int .u8 7, .slice a n c] w fun e w' => ∃ v, e = .returned (.tuple #[v, .int .i64 0]) ∧ Own w' w.heap.size 1 v 256 (bvs (blkL 7 b)) ∧ Below w.heap.size w w' :=
  seal_yes 7 7 rfl (by decide) a n c b w hl hn
theorem bounds_4 {P : Program} (w : World) (n c x : Nat) (h : 4 + x ≤ 252) (hc : 252 ≤ c) : (Instr.sliceBounds true n c (some (.int .i64 4)) (some (.int .i64 (4 + (x : Int)))) none).run P w = .ok (4, 4 + x, c) w := by
  have := bounds_lh (P := P) w n c 4 (4 + x) .i64 .i64 (by omega) (by omega)
  rw [show ((4 + x : Nat) : Int) = 4 + (x : Int) by omega] at this
  exact this
set_option maxRecDepth 100000 in
set_option maxHeartbeats 8000000 in
theorem blockForms_walk (a : Option Addr) (n c : Nat) (l : List UInt8) (A : Nat) (hA : A < 256) (V : UInt8) (w : World) (hl : Sl w 1 (.slice a n c) n (bvs l)) :
    Calls Tryd.prog 7 #[.slice a n c, .int .u8 (A : Int), .int .u8 (V.toNat : Int)] w fun e w' => e = .returned (.bool true) ∧ Below w.heap.size w w' := by
  have HN : Hid (l.length = n) := by have := hl.len.1; show _ = _; omega
  have hnm := hl.len.2.1
  have hB0 := Below.refl w.heap.size w
  go_enter Tryd.func7, Tryd.ntmps7
  by_cases hbig : 248 < n
  · have hbigi : (248 : Int) < n := by omega
    go_wp2_with fail
    refine (works_any w).mono ?_
    rintro e wZ ⟨rfl, hbZ⟩
    go_wp2_with fail
    go_ret
    exact ⟨rfl, (hB0).trans (hbZ.mono (hB0).size)⟩
  have hbigi : ¬ (248 : Int) < n := by omega
  obtain ⟨k, hk⟩ : ∃ k, k = A % 252 := ⟨_, rfl⟩
  have hk9 : k < 252 := by omega
  have hxt : ((A : Int).tmod 252) = (k : Int) := by rw [hk, Int.tmod_eq_emod_of_nonneg (by omega)]; rfl
  have hxt2 : ((A : Int) % 252) = (k : Int) := by rw [hk]; rfl
  clear hk
  go_wp2_with fail
  refine (seal_7 a n c l w hl (by omega)).mono ?_
  rintro e w1 ⟨v1, rfl, ho1, hb1⟩
  obtain ⟨a1, c1, rfl⟩ := ho1.form
  have hc1 := ho1.sl.len.2.2.1
  obtain ⟨g, o, rfl, hq⟩ := ho1.sl.byte (k := k) (by omega)
  have hgw : w.heap.size ≤ g := ho1.lt g rfl
  have hfz := ho1.free k (by rw [bvs_length, blkL_len 7 l (by rw [HN.out]; omega)]; omega)
  have hg9 := grown_setCell w1 g (o + k) (.int .u8 (V.toNat : Int))
  have hi9 := ho1.set k (.int .u8 (V.toNat : Int))
  have HG9 := Lib.hid hg9
  have HI9 := Lib.hid hi9
  have hV9 := V.toNat_lt
  have hki : (k : Int) < 256 := by omega
  clear hg9 hi9
  go_upto_region 10 with fail
  have hg9 := HG9.out
  have hi9 := HI9.out
  generalize w1.setCell ⟨g, o + k, none⟩ (.int .u8 (V.toNat : Int)) = w9 at hg9 hi9 ⊢
  rw [bvs_set] at hi9
  have hB9 : Below w.heap.size w w9 := hb1.grown hg9 hb1.size (fun g' e => by cases e; exact hgw)
  clear HG9 HI9 hg9 hq hfz ho1 hb1
  obtain ⟨X, hX⟩ : ∃ X, X = (blkL 7 l).set k V := ⟨_, rfl⟩
  rw [← hX] at hi9
  have hln : l.length ≤ 248 := by rw [HN.out]; omega
  have HXL : Hid (X.length = 256) := by show _ = _; rw [hX, List.length_set, blkL_len 7 l hln]
  have HXT : Hid (X.take 252 = (blkP 7 l).set k V) := by show _ = _; rw [hX, take_blk 7 l hln]
  clear hX
  go_wp2_with fail
  refine (summed_any _ c1 X w9 hi9.sl).mono ?_
  rintro e wS ⟨vS, rfl, hoS, hbS⟩
  obtain ⟨aS, cS, rfl⟩ := hoS.form
  have hiS := hi9.below hbS
  have hBS := hB9.trans (hbS.mono hB9.size)
  clear hi9 hB9 hbS
  obtain ⟨S, hS⟩ : ∃ S, S = sumL (X.take 252) := ⟨_, rfl⟩
  rw [← hS] at hoS
  have HS : Hid (S = sumL ((blkP 7 l).set k V)) := by show _ = _; rw [hS, HXT.out]
  have HBODY : Hid (opN S ≤ 248 → opB S = (X.drop 4).take (opN S)) := by
    intro h
    rw [hS] at h ⊢
    exact sum_body X HXL.out h
  have HGET : Hid (getN X 2 2 = opN S) := by show _ = _; rw [hS]; exact sum_get X HXL.out
  have HX0 : Hid (X.getD 0 0 = opK S) := by show _ = _; rw [hS, opK, sum_same X HXL.out 0 (by decide)]
  clear hS
  have h7 : (7 : UInt8) ≠ 0 := by decide
  by_cases hk0 : k = 0
  · have hkb : ((k : Int) == 0) = true := by simp [hk0]
    have hki0 : ((k : Int) = 0) = True := eq_true (by omega)
    have HOK : Hid (opOk S = !decide (V = 0)) := by show _ = _; rw [HS.out, hk0]; exact form_0 hln V
    have HNN : Hid (opN S = n) := by show _ = _; rw [HS.out, opN_set hln k V hk9 (by omega) (by omega), HN.out]
    clear hk0
    by_cases hv : V = 0
    · have HF : Hid (opOk S = false) := by show _ = _; rw [HOK.out, decide_eq_true hv]; rfl
      have hv0 : V.toNat = 0 := by rw [hv]; rfl
      clear hv
      have hvb : ((V.toNat : Int) == 0) = true := by simp [hv0]
      have hvn : ((V.toNat : Int) != 0) = false := by simp [hv0]
      have hvi : ((V.toNat : Int) = 0) = True := eq_true (by omega)
      clear hv0
      go_wp2_with fail
      refine (open_bad aS 256 cS S wS hoS.sl HF).mono ?_
      rintro e wT ⟨vT, rfl, hoT, hbT⟩
      obtain ⟨aT, cT, rfl⟩ := hoT.form
      have hBT := hBS.trans (hbT.mono hBS.size)
      go_wp2_with fail
      refine (works_any wT).mono ?_
      rintro e wZ ⟨rfl, hbZ⟩
      go_wp2_with fail
      go_ret
      exact ⟨rfl, (hBT).trans (hbZ.mono (hBT).size)⟩
    · have HF : Hid (opOk S = true) := by show _ = _; rw [HOK.out, decide_eq_false hv]; rfl
      have hv0 : V.toNat ≠ 0 := fun h => hv (UInt8.toNat_inj.1 h)
      clear hv
      have hvb : ((V.toNat : Int) == 0) = false := by simp [hv0]
      have hvn : ((V.toNat : Int) != 0) = true := by simp [hv0]
      have hvi : ¬ (V.toNat : Int) = 0 := by omega
      obtain ⟨kS, hkS⟩ : ∃ kS, (opK S).toNat = kS := ⟨_, rfl⟩
      have HKS := Lib.hid hkS
      clear hkS
      have HBL : Hid ((opB S).length = n) := by
        show _ = _
        rw [HBODY.out (by rw [(HNN).out]; omega), (HNN).out, List.length_take, List.length_drop, HXL.out]
        omega
      go_wp2_with fail
      refine (open_good aS 256 cS S wS hoS.sl HF kS n HKS HBL).mono ?_
      rintro e wT ⟨vT, rfl, hoT, hbT⟩
      obtain ⟨aT, cT, rfl⟩ := hoT.form
      have hiT := hiS.below hbT
      have hBT := hBS.trans (hbT.mono hBS.size)
      obtain ⟨_, _, e9, c0⟩ := hiT.sl.byte (k := 0) (by omega)
      cases e9
      rw [HX0.out, HKS.out, Nat.add_zero] at c0
      have hkk : ((kS : Int) == kS) = true := by simp
      have hav : Sl wT 1 (.slice (some ⟨g, o + 4, none⟩) n (c1 - 4)) n (bvs (opB S)) := by
        have h := (hiT.sl.front (m := 4 + n) (by omega)).rest (m := 4) (by omega) (by omega)
        rw [Nat.mul_one, Nat.add_sub_cancel_left, bvs_take, bvs_drop, List.drop_take, Nat.add_sub_cancel_left] at h
        rw [HBODY.out (by rw [(HNN).out]; omega), (HNN).out]
        exact h
      go_wp2_with fail
      refine (eqb_any aT n cT (some ⟨g, o + 4, none⟩) n (c1 - 4) (opB S) (opB S) wT hoT.sl hav (by omega) (by omega)).mono ?_
      rintro e wU ⟨rfl, hbU⟩
      rw [decide_eq_true rfl]
      have hBU := hBT.trans (hbU.mono hBT.size)
      clear hav hoT hiT hbU hBT
      go_wp2_with fail
      refine (works_any wU).mono ?_
      rintro e wZ ⟨rfl, hbZ⟩
      go_wp2_with fail
      go_ret
      exact ⟨rfl, (hBU).trans (hbZ.mono (hBU).size)⟩
  have hkb0 : ((k : Int) == 0) = false := by simp [hk0]
  have hki0 : ¬ (k : Int) = 0 := by omega
  by_cases hk1 : k = 1
  · have hkb : ((k : Int) == 1) = true := by simp [hk1]
    have hki1 : ((k : Int) = 1) = True := eq_true (by omega)
    have HOK : Hid (opOk S = decide (V = 0)) := by show _ = _; rw [HS.out, hk1]; exact form_1 hln V h7
    have HNN : Hid (opN S = n) := by show _ = _; rw [HS.out, opN_set hln k V hk9 (by omega) (by omega), HN.out]
    clear hk1
    by_cases hv : V = 0
    · have HF : Hid (opOk S = true) := by show _ = _; rw [HOK.out, decide_eq_true hv]
      have hv0 : V.toNat = 0 := by rw [hv]; rfl
      clear hv
      have hvb : ((V.toNat : Int) == 0) = true := by simp [hv0]
      have hvn : ((V.toNat : Int) != 0) = false := by simp [hv0]
      have hvi : ((V.toNat : Int) = 0) = True := eq_true (by omega)
      clear hv0
      obtain ⟨kS, hkS⟩ : ∃ kS, (opK S).toNat = kS := ⟨_, rfl⟩
      have HKS := Lib.hid hkS
      clear hkS
      have HBL : Hid ((opB S).length = n) := by
        show _ = _
        rw [HBODY.out (by rw [(HNN).out]; omega), (HNN).out, List.length_take, List.length_drop, HXL.out]
        omega
      go_wp2_with fail
      refine (open_good aS 256 cS S wS hoS.sl HF kS n HKS HBL).mono ?_
      rintro e wT ⟨vT, rfl, hoT, hbT⟩
      obtain ⟨aT, cT, rfl⟩ := hoT.form
      have hiT := hiS.below hbT
      have hBT := hBS.trans (hbT.mono hBS.size)
      obtain ⟨_, _, e9, c0⟩ := hiT.sl.byte (k := 0) (by omega)
      cases e9
      rw [HX0.out, HKS.out, Nat.add_zero] at c0
      have hkk : ((kS : Int) == kS) = true := by simp
      have hav : Sl wT 1 (.slice (some ⟨g, o + 4, none⟩) n (c1 - 4)) n (bvs (opB S)) := by
        have h := (hiT.sl.front (m := 4 + n) (by omega)).rest (m := 4) (by omega) (by omega)
        rw [Nat.mul_one, Nat.add_sub_cancel_left, bvs_take, bvs_drop, List.drop_take, Nat.add_sub_cancel_left] at h
        rw [HBODY.out (by rw [(HNN).out]; omega), (HNN).out]
        exact h
      go_wp2_with fail
      refine (eqb_any aT n cT (some ⟨g, o + 4, none⟩) n (c1 - 4) (opB S) (opB S) wT hoT.sl hav (by omega) (by omega)).mono ?_
      rintro e wU ⟨rfl, hbU⟩
      rw [decide_eq_true rfl]
      have hBU := hBT.trans (hbU.mono hBT.size)
      clear hav hoT hiT hbU hBT
      go_wp2_with fail
      refine (works_any wU).mono ?_
      rintro e wZ ⟨rfl, hbZ⟩
      go_wp2_with fail
      go_ret
      exact ⟨rfl, (hBU).trans (hbZ.mono (hBU).size)⟩
    · have HF : Hid (opOk S = false) := by show _ = _; rw [HOK.out, decide_eq_false hv]
      have hv0 : V.toNat ≠ 0 := fun h => hv (UInt8.toNat_inj.1 h)
      clear hv
      have hvb : ((V.toNat : Int) == 0) = false := by simp [hv0]
      have hvn : ((V.toNat : Int) != 0) = true := by simp [hv0]
      have hvi : ¬ (V.toNat : Int) = 0 := by omega
      go_wp2_with fail
      refine (open_bad aS 256 cS S wS hoS.sl HF).mono ?_
      rintro e wT ⟨vT, rfl, hoT, hbT⟩
      obtain ⟨aT, cT, rfl⟩ := hoT.form
      have hBT := hBS.trans (hbT.mono hBS.size)
      go_wp2_with fail
      refine (works_any wT).mono ?_
      rintro e wZ ⟨rfl, hbZ⟩
      go_wp2_with fail
      go_ret
      exact ⟨rfl, (hBT).trans (hbZ.mono (hBT).size)⟩
  have hkb1 : ((k : Int) == 1) = false := by simp; omega
  have hki1 : ¬ (k : Int) = 1 := by omega
  by_cases hk23 : k = 2 ∨ k = 3
  · obtain ⟨M, hM⟩ : ∃ M, opN S = M := ⟨_, rfl⟩
    have hM9 : M < 65536 := by rw [← hM]; exact getN_lt2 S 2
    have HMM : Hid (opN S = M) := hM
    clear hM
    have H23 : Hid (opOk S = true ↔ M ≤ 248 ∧ ∀ i, 4 + M ≤ i → i < 252 → X.getD i 0 = 0) := by
      have h := form_23 hln k V h7 hk23
      rw [← HS.out, HMM.out, ← HXT.out] at h
      have e : ∀ i, i < 252 → (X.take 252).getD i 0 = X.getD i 0 := fun i hi => by simp [List.getD, List.getElem?_take, hi]
      exact h.trans ⟨fun ⟨h1, h2⟩ => ⟨h1, fun i a b => by rw [← e i b]; exact h2 i a b⟩, fun ⟨h1, h2⟩ => ⟨h1, fun i a b => by rw [e i b]; exact h2 i a b⟩⟩
    have hkt : (((k : Int) == 2) = true ∧ ((k : Int) = 2)) ∨ (((k : Int) == 2) = false ∧ ¬ ((k : Int) = 2) ∧ ((k : Int) == 3) = true ∧ ((k : Int) = 3)) := by
      rcases hk23 with h | h
      · exact .inl ⟨by simp [h], by omega⟩
      · exact .inr ⟨by simp [h], by omega, by simp [h], by omega⟩
    clear hk23
    rcases hkt with ⟨hkb2, hki2'⟩ | ⟨hkb2, hki2, hkb3, hki3'⟩
    · have hki2 : ((k : Int) = 2) = True := eq_true hki2'
      clear hki2'
      cases hF : opOk S with
      | false =>
        have HF := Lib.hid hF
        clear hF
        go_wp2_with fail
        refine (open_bad aS 256 cS S wS hoS.sl HF).mono ?_
        rintro e wT ⟨vT, rfl, hoT, hbT⟩
        obtain ⟨aT, cT, rfl⟩ := hoT.form
        have hiT := hiS.below hbT
        have hBT := hBS.trans (hbT.mono hBS.size)
        go_wp2_with fail
        refine (rget_any _ 256 c1 X wT 2 2 hiT.sl (by decide)).mono ?_
        rintro e wG ⟨rfl, rfl⟩
        rw [HGET.out, HMM.out]
        clear hbT
        go_wp2_with fail
        go_loopw [13, 17] (fun v13 v17 wr => ∃ (i : Nat) (B : Bool), 4 + M ≤ i ∧ (i ≤ 252 ∨ i = 4 + M) ∧ v13 = .bool B ∧ v17 = .int .i64 i ∧ Hid (B = true ↔ M ≤ 248 ∧ ∀ j, 4 + M ≤ j → j < i → X.getD j 0 = 0) ∧ wr = wT) (fun _ v17 _ => 252 - (intOf v17).toNat)
        case atStart => exact ⟨4 + M, decide (M ≤ 248), Nat.le_refl _, .inr rfl, by go_num, by go_num, by show _ ↔ _; rw [decide_eq_true_eq]; exact ⟨fun h => ⟨h, fun j h1 h2 => by omega⟩, fun h => h.1⟩, rfl⟩
        case round =>
          obtain ⟨i, B, hi1, hi2, rfl, rfl, HB, rfl⟩ := hrel
          by_cases hlt : i < 252 ∧ B = true
          · obtain ⟨hlt, hBt⟩ := hlt
            subst hBt
            have hlti : (i : Int) < 252 := by omega
            obtain ⟨_, _, e9, cx⟩ := hiT.sl.byte (k := i) (by omega)
            cases e9
            have hb9 := HB.out.1 rfl
            have HB9 := Lib.hid hb9
            obtain ⟨y, hy⟩ : ∃ y, y = (X.getD i 0).toNat := ⟨_, rfl⟩
            rw [← hy] at cx
            have HY := Lib.hid hy
            clear hy hb9
            go_wp2_with fail
            refine ⟨⟨i + 1, ((y : Int) == 0), by omega, .inl (by omega), by go_num, by go_num, ?_, by trivial⟩, by simp [intOf]; omega⟩
            show _ ↔ _
            obtain ⟨p1, p2⟩ := HB9.out
            rw [beq_iff_eq]
            constructor
            · intro h
              refine ⟨p1, fun j u1 u2 => ?_⟩
              by_cases hj : j = i
              · rw [hj]
                apply UInt8.toNat_inj.1
                have := HY.out
                simp only [UInt8.toNat_zero]
                omega
              · exact p2 j u1 (by omega)
            · rintro ⟨_, h⟩
              rw [HY.out, h i hi1 (by omega)]
              rfl
          · have hBf : B = false := by
              cases B with
              | false => rfl
              | true =>
                exfalso
                have h := HB.out.1 rfl
                have hi3 : ¬ i < 252 := fun h => hlt ⟨h, rfl⟩
                have h2 : opOk S = true := H23.out.2 ⟨h.1, fun j u1 u2 => h.2 j u1 (by omega)⟩
                rw [HF.out] at h2
                cases h2
            subst hBf
            clear hlt
            by_cases hlt2 : i < 252
            · have hlti : (i : Int) < 252 := by omega
              go_wp2_with fail
              refine (works_any wr).mono ?_
              rintro e wZ ⟨rfl, hbZ⟩
              go_wp2_with fail
              go_ret
              exact ⟨rfl, (hBT).trans (hbZ.mono (hBT).size)⟩
            · have hlti : ¬ (i : Int) < 252 := by omega
              go_wp2_with fail
              refine (works_any wr).mono ?_
              rintro e wZ ⟨rfl, hbZ⟩
              go_wp2_with fail
              go_ret
              exact ⟨rfl, (hBT).trans (hbZ.mono (hBT).size)⟩
      | true =>
        have HF := Lib.hid hF
        clear hF
        have hM8 : M ≤ 248 := (H23.out.1 HF.out).1
        obtain ⟨kS, hkS⟩ : ∃ kS, (opK S).toNat = kS := ⟨_, rfl⟩
        have HKS := Lib.hid hkS
        clear hkS
        have HBL : Hid ((opB S).length = M) := by
          show _ = _
          rw [HBODY.out (by rw [(HMM).out]; omega), (HMM).out, List.length_take, List.length_drop, HXL.out]
          omega
        go_wp2_with fail
        refine (open_good aS 256 cS S wS hoS.sl HF kS M HKS HBL).mono ?_
        rintro e wT ⟨vT, rfl, hoT, hbT⟩
        obtain ⟨aT, cT, rfl⟩ := hoT.form
        have hiT := hiS.below hbT
        have hBT := hBS.trans (hbT.mono hBS.size)
        go_wp2_with fail
        refine (rget_any _ 256 c1 X wT 2 2 hiT.sl (by decide)).mono ?_
        rintro e wG ⟨rfl, rfl⟩
        rw [HGET.out, HMM.out]
        clear hbT
        go_wp2_with fail
        go_loopw [13, 17] (fun v13 v17 wr => ∃ (i : Nat) (B : Bool), 4 + M ≤ i ∧ (i ≤ 252 ∨ i = 4 + M) ∧ v13 = .bool B ∧ v17 = .int .i64 i ∧ Hid (B = true ↔ M ≤ 248 ∧ ∀ j, 4 + M ≤ j → j < i → X.getD j 0 = 0) ∧ wr = wT) (fun _ v17 _ => 252 - (intOf v17).toNat)
        case atStart => exact ⟨4 + M, decide (M ≤ 248), Nat.le_refl _, .inr rfl, by go_num, by go_num, by show _ ↔ _; rw [decide_eq_true_eq]; exact ⟨fun h => ⟨h, fun j h1 h2 => by omega⟩, fun h => h.1⟩, rfl⟩
        case round =>
          obtain ⟨i, B, hi1, hi2, rfl, rfl, HB, rfl⟩ := hrel
          by_cases hlt : i < 252 ∧ B = true
          · obtain ⟨hlt, hBt⟩ := hlt
            subst hBt
            have hlti : (i : Int) < 252 := by omega
            obtain ⟨_, _, e9, cx⟩ := hiT.sl.byte (k := i) (by omega)
            cases e9
            have hb9 := HB.out.1 rfl
            have HB9 := Lib.hid hb9
            obtain ⟨y, hy⟩ : ∃ y, y = (X.getD i 0).toNat := ⟨_, rfl⟩
            rw [← hy] at cx
            have HY := Lib.hid hy
            clear hy hb9
            go_wp2_with fail
            refine ⟨⟨i + 1, ((y : Int) == 0), by omega, .inl (by omega), by go_num, by go_num, ?_, by trivial⟩, by simp [intOf]; omega⟩
            show _ ↔ _
            obtain ⟨p1, p2⟩ := HB9.out
            rw [beq_iff_eq]
            constructor
            · intro h
              refine ⟨p1, fun j u1 u2 => ?_⟩
              by_cases hj : j = i
              · rw [hj]
                apply UInt8.toNat_inj.1
                have := HY.out
                simp only [UInt8.toNat_zero]
                omega
              · exact p2 j u1 (by omega)
            · rintro ⟨_, h⟩
              rw [HY.out, h i hi1 (by omega)]
              rfl
          · have h9 := H23.out.1 HF.out
            have hBt : B = true := HB.out.2 ⟨h9.1, fun j u1 u2 => h9.2 j u1 (by omega)⟩
            subst hBt
            have hi3 : ¬ i < 252 := fun h => hlt ⟨h, rfl⟩
            have hlti : ¬ (i : Int) < 252 := by omega
            clear hlt hi3 HB
            clear h9
            obtain ⟨_, _, e9, c0⟩ := hiT.sl.byte (k := 0) (by omega)
            cases e9
            rw [HX0.out, HKS.out, Nat.add_zero] at c0
            have hkk : ((kS : Int) == kS) = true := by simp
            have hav : Sl wr 1 (.slice (some ⟨g, o + 4, none⟩) M (c1 - 4)) M (bvs (opB S)) := by
              have h := (hiT.sl.front (m := 4 + M) (by omega)).rest (m := 4) (by omega) (by omega)
              rw [Nat.mul_one, Nat.add_sub_cancel_left, bvs_take, bvs_drop, List.drop_take, Nat.add_sub_cancel_left] at h
              rw [HBODY.out (by rw [(HMM).out]; omega), (HMM).out]
              exact h
            go_wp2_with fail
            refine (eqb_any aT M cT (some ⟨g, o + 4, none⟩) M (c1 - 4) (opB S) (opB S) wr hoT.sl hav (by omega) (by omega)).mono ?_
            rintro e wU ⟨rfl, hbU⟩
            rw [decide_eq_true rfl]
            have hBU := hBT.trans (hbU.mono hBT.size)
            clear hav hoT hiT hbU hBT
            go_wp2_with fail
            refine (works_any wU).mono ?_
            rintro e wZ ⟨rfl, hbZ⟩
            go_wp2_with fail
            go_ret
            exact ⟨rfl, (hBU).trans (hbZ.mono (hBU).size)⟩
    · have hki3 : ((k : Int) = 3) = True := eq_true hki3'
      clear hki3'
      cases hF : opOk S with
      | false =>
        have HF := Lib.hid hF
        clear hF
        go_wp2_with fail
        refine (open_bad aS 256 cS S wS hoS.sl HF).mono ?_
        rintro e wT ⟨vT, rfl, hoT, hbT⟩
        obtain ⟨aT, cT, rfl⟩ := hoT.form
        have hiT := hiS.below hbT
        have hBT := hBS.trans (hbT.mono hBS.size)
        go_wp2_with fail
        refine (rget_any _ 256 c1 X wT 2 2 hiT.sl (by decide)).mono ?_
        rintro e wG ⟨rfl, rfl⟩
        rw [HGET.out, HMM.out]
        clear hbT
        go_wp2_with fail
        go_loopw [13, 17] (fun v13 v17 wr => ∃ (i : Nat) (B : Bool), 4 + M ≤ i ∧ (i ≤ 252 ∨ i = 4 + M) ∧ v13 = .bool B ∧ v17 = .int .i64 i ∧ Hid (B = true ↔ M ≤ 248 ∧ ∀ j, 4 + M ≤ j → j < i → X.getD j 0 = 0) ∧ wr = wT) (fun _ v17 _ => 252 - (intOf v17).toNat)
        case atStart => exact ⟨4 + M, decide (M ≤ 248), Nat.le_refl _, .inr rfl, by go_num, by go_num, by show _ ↔ _; rw [decide_eq_true_eq]; exact ⟨fun h => ⟨h, fun j h1 h2 => by omega⟩, fun h => h.1⟩, rfl⟩
        case round =>
          obtain ⟨i, B, hi1, hi2, rfl, rfl, HB, rfl⟩ := hrel
          by_cases hlt : i < 252 ∧ B = true
          · obtain ⟨hlt, hBt⟩ := hlt
            subst hBt
            have hlti : (i : Int) < 252 := by omega
            obtain ⟨_, _, e9, cx⟩ := hiT.sl.byte (k := i) (by omega)
            cases e9
            have hb9 := HB.out.1 rfl
            have HB9 := Lib.hid hb9
            obtain ⟨y, hy⟩ : ∃ y, y = (X.getD i 0).toNat := ⟨_, rfl⟩
            rw [← hy] at cx
            have HY := Lib.hid hy
            clear hy hb9
            go_wp2_with fail
            refine ⟨⟨i + 1, ((y : Int) == 0), by omega, .inl (by omega), by go_num, by go_num, ?_, by trivial⟩, by simp [intOf]; omega⟩
            show _ ↔ _
            obtain ⟨p1, p2⟩ := HB9.out
            rw [beq_iff_eq]
            constructor
            · intro h
              refine ⟨p1, fun j u1 u2 => ?_⟩
              by_cases hj : j = i
              · rw [hj]
                apply UInt8.toNat_inj.1
                have := HY.out
                simp only [UInt8.toNat_zero]
                omega
              · exact p2 j u1 (by omega)
            · rintro ⟨_, h⟩
              rw [HY.out, h i hi1 (by omega)]
              rfl
          · have hBf : B = false := by
              cases B with
              | false => rfl
              | true =>
                exfalso
                have h := HB.out.1 rfl
                have hi3 : ¬ i < 252 := fun h => hlt ⟨h, rfl⟩
                have h2 : opOk S = true := H23.out.2 ⟨h.1, fun j u1 u2 => h.2 j u1 (by omega)⟩
                rw [HF.out] at h2
                cases h2
            subst hBf
            clear hlt
            by_cases hlt2 : i < 252
            · have hlti : (i : Int) < 252 := by omega
              go_wp2_with fail
              refine (works_any wr).mono ?_
              rintro e wZ ⟨rfl, hbZ⟩
              go_wp2_with fail
              go_ret
              exact ⟨rfl, (hBT).trans (hbZ.mono (hBT).size)⟩
            · have hlti : ¬ (i : Int) < 252 := by omega
              go_wp2_with fail
              refine (works_any wr).mono ?_
              rintro e wZ ⟨rfl, hbZ⟩
              go_wp2_with fail
              go_ret
              exact ⟨rfl, (hBT).trans (hbZ.mono (hBT).size)⟩
      | true =>
        have HF := Lib.hid hF
        clear hF
        have hM8 : M ≤ 248 := (H23.out.1 HF.out).1
        obtain ⟨kS, hkS⟩ : ∃ kS, (opK S).toNat = kS := ⟨_, rfl⟩
        have HKS := Lib.hid hkS
        clear hkS
        have HBL : Hid ((opB S).length = M) := by
          show _ = _
          rw [HBODY.out (by rw [(HMM).out]; omega), (HMM).out, List.length_take, List.length_drop, HXL.out]
          omega
        go_wp2_with fail
        refine (open_good aS 256 cS S wS hoS.sl HF kS M HKS HBL).mono ?_
        rintro e wT ⟨vT, rfl, hoT, hbT⟩
        obtain ⟨aT, cT, rfl⟩ := hoT.form
        have hiT := hiS.below hbT
        have hBT := hBS.trans (hbT.mono hBS.size)
        go_wp2_with fail
        refine (rget_any _ 256 c1 X wT 2 2 hiT.sl (by decide)).mono ?_
        rintro e wG ⟨rfl, rfl⟩
        rw [HGET.out, HMM.out]
        clear hbT
        go_wp2_with fail
        go_loopw [13, 17] (fun v13 v17 wr => ∃ (i : Nat) (B : Bool), 4 + M ≤ i ∧ (i ≤ 252 ∨ i = 4 + M) ∧ v13 = .bool B ∧ v17 = .int .i64 i ∧ Hid (B = true ↔ M ≤ 248 ∧ ∀ j, 4 + M ≤ j → j < i → X.getD j 0 = 0) ∧ wr = wT) (fun _ v17 _ => 252 - (intOf v17).toNat)
        case atStart => exact ⟨4 + M, decide (M ≤ 248), Nat.le_refl _, .inr rfl, by go_num, by go_num, by show _ ↔ _; rw [decide_eq_true_eq]; exact ⟨fun h => ⟨h, fun j h1 h2 => by omega⟩, fun h => h.1⟩, rfl⟩
        case round =>
          obtain ⟨i, B, hi1, hi2, rfl, rfl, HB, rfl⟩ := hrel
          by_cases hlt : i < 252 ∧ B = true
          · obtain ⟨hlt, hBt⟩ := hlt
            subst hBt
            have hlti : (i : Int) < 252 := by omega
            obtain ⟨_, _, e9, cx⟩ := hiT.sl.byte (k := i) (by omega)
            cases e9
            have hb9 := HB.out.1 rfl
            have HB9 := Lib.hid hb9
            obtain ⟨y, hy⟩ : ∃ y, y = (X.getD i 0).toNat := ⟨_, rfl⟩
            rw [← hy] at cx
            have HY := Lib.hid hy
            clear hy hb9
            go_wp2_with fail
            refine ⟨⟨i + 1, ((y : Int) == 0), by omega, .inl (by omega), by go_num, by go_num, ?_, by trivial⟩, by simp [intOf]; omega⟩
            show _ ↔ _
            obtain ⟨p1, p2⟩ := HB9.out
            rw [beq_iff_eq]
            constructor
            · intro h
              refine ⟨p1, fun j u1 u2 => ?_⟩
              by_cases hj : j = i
              · rw [hj]
                apply UInt8.toNat_inj.1
                have := HY.out
                simp only [UInt8.toNat_zero]
                omega
              · exact p2 j u1 (by omega)
            · rintro ⟨_, h⟩
              rw [HY.out, h i hi1 (by omega)]
              rfl
          · have h9 := H23.out.1 HF.out
            have hBt : B = true := HB.out.2 ⟨h9.1, fun j u1 u2 => h9.2 j u1 (by omega)⟩
            subst hBt
            have hi3 : ¬ i < 252 := fun h => hlt ⟨h, rfl⟩
            have hlti : ¬ (i : Int) < 252 := by omega
            clear hlt hi3 HB
            clear h9
            obtain ⟨_, _, e9, c0⟩ := hiT.sl.byte (k := 0) (by omega)
            cases e9
            rw [HX0.out, HKS.out, Nat.add_zero] at c0
            have hkk : ((kS : Int) == kS) = true := by simp
            have hav : Sl wr 1 (.slice (some ⟨g, o + 4, none⟩) M (c1 - 4)) M (bvs (opB S)) := by
              have h := (hiT.sl.front (m := 4 + M) (by omega)).rest (m := 4) (by omega) (by omega)
              rw [Nat.mul_one, Nat.add_sub_cancel_left, bvs_take, bvs_drop, List.drop_take, Nat.add_sub_cancel_left] at h
              rw [HBODY.out (by rw [(HMM).out]; omega), (HMM).out]
              exact h
            go_wp2_with fail
            refine (eqb_any aT M cT (some ⟨g, o + 4, none⟩) M (c1 - 4) (opB S) (opB S) wr hoT.sl hav (by omega) (by omega)).mono ?_
            rintro e wU ⟨rfl, hbU⟩
            rw [decide_eq_true rfl]
            have hBU := hBT.trans (hbU.mono hBT.size)
            clear hav hoT hiT hbU hBT
            go_wp2_with fail
            refine (works_any wU).mono ?_
            rintro e wZ ⟨rfl, hbZ⟩
            go_wp2_with fail
            go_ret
            exact ⟨rfl, (hBU).trans (hbZ.mono (hBU).size)⟩
  have hkb2 : ((k : Int) == 2) = false := by simp; omega
  have hki2 : ¬ (k : Int) = 2 := by omega
  have hkb3 : ((k : Int) == 3) = false := by simp; omega
  have hki3 : ¬ (k : Int) = 3 := by omega
  have HNN : Hid (opN S = n) := by show _ = _; rw [HS.out, opN_set hln k V hk9 (by omega) (by omega), HN.out]
  by_cases hkn : 4 + n ≤ k
  · have hkni : 4 + (n : Int) ≤ k := by omega
    have HOK : Hid (opOk S = decide (V = 0)) := by show _ = _; rw [HS.out]; exact form_z hln k V h7 hk9 (by rw [HN.out]; exact hkn)
    by_cases hv : V = 0
    · have HF : Hid (opOk S = true) := by show _ = _; rw [HOK.out, decide_eq_true hv]
      have hv0 : V.toNat = 0 := by rw [hv]; rfl
      clear hv
      have hvb : ((V.toNat : Int) == 0) = true := by simp [hv0]
      have hvn : ((V.toNat : Int) != 0) = false := by simp [hv0]
      have hvi : ((V.toNat : Int) = 0) = True := eq_true (by omega)
      clear hv0
      obtain ⟨kS, hkS⟩ : ∃ kS, (opK S).toNat = kS := ⟨_, rfl⟩
      have HKS := Lib.hid hkS
      clear hkS
      have HBL : Hid ((opB S).length = n) := by
        show _ = _
        rw [HBODY.out (by rw [(HNN).out]; omega), (HNN).out, List.length_take, List.length_drop, HXL.out]
        omega
      go_wp2_with fail
      refine (open_good aS 256 cS S wS hoS.sl HF kS n HKS HBL).mono ?_
      rintro e wT ⟨vT, rfl, hoT, hbT⟩
      obtain ⟨aT, cT, rfl⟩ := hoT.form
      have hiT := hiS.below hbT
      have hBT := hBS.trans (hbT.mono hBS.size)
      obtain ⟨_, _, e9, c0⟩ := hiT.sl.byte (k := 0) (by omega)
      cases e9
      rw [HX0.out, HKS.out, Nat.add_zero] at c0
      have hkk : ((kS : Int) == kS) = true := by simp
      have hav : Sl wT 1 (.slice (some ⟨g, o + 4, none⟩) n (c1 - 4)) n (bvs (opB S)) := by
        have h := (hiT.sl.front (m := 4 + n) (by omega)).rest (m := 4) (by omega) (by omega)
        rw [Nat.mul_one, Nat.add_sub_cancel_left, bvs_take, bvs_drop, List.drop_take, Nat.add_sub_cancel_left] at h
        rw [HBODY.out (by rw [(HNN).out]; omega), (HNN).out]
        exact h
      go_wp2_with fail
      refine (eqb_any aT n cT (some ⟨g, o + 4, none⟩) n (c1 - 4) (opB S) (opB S) wT hoT.sl hav (by omega) (by omega)).mono ?_
      rintro e wU ⟨rfl, hbU⟩
      rw [decide_eq_true rfl]
      have hBU := hBT.trans (hbU.mono hBT.size)
      clear hav hoT hiT hbU hBT
      go_wp2_with fail
      refine (works_any wU).mono ?_
      rintro e wZ ⟨rfl, hbZ⟩
      go_wp2_with fail
      go_ret
      exact ⟨rfl, (hBU).trans (hbZ.mono (hBU).size)⟩
    · have HF : Hid (opOk S = false) := by show _ = _; rw [HOK.out, decide_eq_false hv]
      have hv0 : V.toNat ≠ 0 := fun h => hv (UInt8.toNat_inj.1 h)
      clear hv
      have hvb : ((V.toNat : Int) == 0) = false := by simp [hv0]
      have hvn : ((V.toNat : Int) != 0) = true := by simp [hv0]
      have hvi : ¬ (V.toNat : Int) = 0 := by omega
      go_wp2_with fail
      refine (open_bad aS 256 cS S wS hoS.sl HF).mono ?_
      rintro e wT ⟨vT, rfl, hoT, hbT⟩
      obtain ⟨aT, cT, rfl⟩ := hoT.form
      have hBT := hBS.trans (hbT.mono hBS.size)
      go_wp2_with fail
      refine (works_any wT).mono ?_
      rintro e wZ ⟨rfl, hbZ⟩
      go_wp2_with fail
      go_ret
      exact ⟨rfl, (hBT).trans (hbZ.mono (hBT).size)⟩
  · have hkni : ¬ 4 + (n : Int) ≤ k := by omega
    have HF : Hid (opOk S = true) := by show _ = _; rw [HS.out]; exact form_b hln k V h7 (by omega) (by rw [HN.out]; omega)
    obtain ⟨kS, hkS⟩ : ∃ kS, (opK S).toNat = kS := ⟨_, rfl⟩
    have HKS := Lib.hid hkS
    clear hkS
    have HBL : Hid ((opB S).length = n) := by
      show _ = _
      rw [HBODY.out (by rw [(HNN).out]; omega), (HNN).out, List.length_take, List.length_drop, HXL.out]
      omega
    go_wp2_with fail
    refine (open_good aS 256 cS S wS hoS.sl HF kS n HKS HBL).mono ?_
    rintro e wT ⟨vT, rfl, hoT, hbT⟩
    obtain ⟨aT, cT, rfl⟩ := hoT.form
    have hiT := hiS.below hbT
    have hBT := hBS.trans (hbT.mono hBS.size)
    obtain ⟨_, _, e9, c0⟩ := hiT.sl.byte (k := 0) (by omega)
    cases e9
    rw [HX0.out, HKS.out, Nat.add_zero] at c0
    have hkk : ((kS : Int) == kS) = true := by simp
    have hav : Sl wT 1 (.slice (some ⟨g, o + 4, none⟩) n (c1 - 4)) n (bvs (opB S)) := by
      have h := (hiT.sl.front (m := 4 + n) (by omega)).rest (m := 4) (by omega) (by omega)
      rw [Nat.mul_one, Nat.add_sub_cancel_left, bvs_take, bvs_drop, List.drop_take, Nat.add_sub_cancel_left] at h
      rw [HBODY.out (by rw [(HNN).out]; omega), (HNN).out]
      exact h
    go_wp2_with fail
    refine (eqb_any aT n cT (some ⟨g, o + 4, none⟩) n (c1 - 4) (opB S) (opB S) wT hoT.sl hav (by omega) (by omega)).mono ?_
    rintro e wU ⟨rfl, hbU⟩
    rw [decide_eq_true rfl]
    have hBU := hBT.trans (hbU.mono hBT.size)
    clear hav hoT hiT hbU hBT
    go_wp2_with fail
    refine (works_any wU).mono ?_
    rintro e wZ ⟨rfl, hbZ⟩
    go_wp2_with fail
    go_ret
    exact ⟨rfl, (hBU).trans (hbZ.mono (hBU).size)⟩
theorem blockForms_top (a : Option Addr) (n c : Nat) (l : List UInt8) (x : Int) (hx : (Lit.int .u8 x).wf = true) (y : Int) (hy : (Lit.int .u8 y).wf = true) (w : World) (hl : Sl w 1 (.slice a n c) n (bvs l)) :
    Calls Tryd.prog 7 #[.slice a n c, .int .u8 x, .int .u8 y] w fun e w' => e = .returned (.bool true) ∧ Below w.heap.size w w' := by
  obtain ⟨A, hA, rfl⟩ := nat_u8 hx
  obtain ⟨V, rfl⟩ := u8_of hy
  exact blockForms_walk a n c l A hA V w hl
end Go.Proofs.YtobagfndagjajaaDoor
