/-
  The document's Turned, walked. Conditions: a map reads as one.
-/
import Derived.Test.YtljbpflcnicaiaaPagI
namespace Go.Proofs.Ytljbpflcnicaiaa
open Go.RowKit
set_option linter.unusedVariables false
set_option linter.unusedSimpArgs false

theorem str_beq (l m : List UInt8) : ((str l).toList == (str m).toList) = decide (l = m) := by
  rw [ByteArray.toList_eq, ByteArray.toList_eq, str_toList, str_toList]
  by_cases h : l = m
  · subst h; simp
  · rw [decide_eq_false h, beq_eq_false_iff_ne]; exact h
set_option maxRecDepth 100000 in
set_option maxHeartbeats 1600000 in
theorem rturned_p (b1 b2 : Nat) (S T : List Nat) (w : World) (h1 : RM w b1 S) (h2 : RM w b2 T) (L : List Int) (hL : Hid (L = turnedL S T)) (N : Nat) (hN : Hid (N = L.length)) :
    Calls Try.prog 29 #[.pointer (some ⟨b1, 0, none⟩), .pointer (some ⟨b2, 0, none⟩)] w fun e w' => ∃ v, e = .returned v ∧ Own w' w.heap.size 1 v N (ints L) ∧ Below w.heap.size w w' := by
  have hB1 := Below.refl w.heap.size w
  go_enter Try.func29, Try.ntmps29
  go_wp2_with fail
  go_loopw [5, 6] (fun v5 v6 wr => ∃ k M : Nat, k ≤ 9 ∧ v6 = .int .i64 k ∧ M = (sel (otherP S T) k).length ∧ Own wr (w).heap.size 1 v5 M (ints (sel (otherP S T) k)) ∧ Below (w).heap.size w wr) (fun _ v6 _ => 9 - (intOf v6).toNat)
  case atStart => exact ⟨0, 0, Nat.zero_le _, rfl, rfl, Own.nil _ _ _, Below.refl _ _⟩
  case round =>
    obtain ⟨k, M, hk, rfl, hM, ho, hb⟩ := hrel
    obtain ⟨a5, c5, rfl⟩ := ho.form
    by_cases hk9 : k = 9
    · subst hk9
      have HNM : Hid (N = M ∧ L = sel (otherP S T) 9) := ⟨by rw [hN.out, hL.out, hM]; rfl, hL.out⟩
      clear hM
      go_wp2_with fail
      go_ret
      rw [HNM.out.1, HNM.out.2]
      exact ⟨_, rfl, ho.mono hB1.size, hB1.trans (hb.mono hB1.size)⟩
    · have hlt : k < 9 := by omega
      have hlt' : (k : Int) < 9 := by omega
      have hM9 : M ≤ 9 := by rw [hM]; have := sel_len (otherP S T) k; omega
      have HM := Lib.hid hM
      have HSC := Lib.hid (sel_succ (otherP S T) k)
      have HIJ := Lib.hid (partB_inj h1.2 h2.2 k hlt)
      obtain ⟨P1, hP1⟩ : ∃ P1, P1 = partB S (k : Int) := ⟨_, rfl⟩
      obtain ⟨P2, hP2⟩ : ∃ P2, P2 = partB T (k : Int) := ⟨_, rfl⟩
      have HP1 := Lib.hid hP1
      have HP2 := Lib.hid hP2
      clear hM hP1 hP2
      go_wp2_with fail
      refine wp_region_idx Rb Rb_refl Rb_trans [(0,0),(0,1),(0,4),(0,5),(1,2),(0,3),(1,6),(0,7),(0,8)] (by kernel_rfl) (by kernel_rfl) (by kernel_rfl) ?_
      simp only [pickO, List.getD_cons_succ, List.getD_cons_zero]
      refine wpCan_seg 4 (by kernel_rfl) ?_
      simp only [List.take_succ_cons, List.take_zero, List.drop_succ_cons, List.drop_zero, List.map_cons, List.map_nil]
      iterate 4 (go_big_quiet_step (fail))
      refine wpQuiet_nil ?_
      refine wpCan_list (k := 0) (fun K hK => ?_) (fun _ => Rb_refl _)
      go_wp2_with fail
      refine (rpart_p b1 S (k : Int) _ (h1.below hb.drew) P1 HP1).mono ?_
      rintro e w3 ⟨v3, rfl, ho3, hb3⟩
      obtain ⟨a3, c3, rfl⟩ := ho3.form
      go_wp2_with fail
      refine hK _ _ (fun _ => hb3) ?_
      clear hK K
      have k1 := conv_later (w := w3) ho3.sl
      obtain ⟨N1, hN1⟩ : ∃ N1, N1 = P1.length := ⟨_, rfl⟩
      rw [← hN1] at k1 ⊢
      clear hN1
      refine wpCan_seg 1 (by kernel_rfl) ?_
      simp only [List.take_succ_cons, List.take_zero, List.drop_succ_cons, List.drop_zero, List.map_cons, List.map_nil]
      iterate 1 (go_big_quiet_step (fail))
      refine wpQuiet_nil ?_
      clear k1
      have hb4 := hb.drew.trans (hb3.mono hb.size)
      have ho4 := ho.drew.below hb3
      refine wpCan_list (k := 0) (fun K hK => ?_) (fun _ => Rb_refl _)
      go_wp2_with fail
      refine (rpart_p b2 T (k : Int) _ (h2.below hb4) P2 HP2).mono ?_
      rintro e w5 ⟨v5, rfl, ho5, hb5⟩
      obtain ⟨a6, c6, rfl⟩ := ho5.form
      go_wp2_with fail
      refine hK _ _ (fun _ => hb5) ?_
      clear hK K
      have k2 := conv_later (w := w5) ho5.sl
      obtain ⟨N2, hN2⟩ : ∃ N2, N2 = P2.length := ⟨_, rfl⟩
      rw [← hN2] at k2 ⊢
      clear hN2
      have hb6 := hb4.trans (hb5.mono hb4.size)
      have ho6 := ho4.below hb5
      refine wpCan_seg 2 (by kernel_rfl) ?_
      simp only [List.take_succ_cons, List.take_zero, List.drop_succ_cons, List.drop_zero, List.map_cons, List.map_nil]
      iterate 2 (go_big_quiet_step (fail))
      refine wpQuiet_nil ?_
      clear k2 ho3 ho5 hb3 hb5 ho4 hb4
      unfold wpCan
      obtain ⟨R, hR⟩ : ∃ R, R = decide (partL S k = partL T k) := ⟨_, rfl⟩
      have hst : ((str P1).toList == (str P2).toList) = R := by rw [str_beq, HP1.out, HP2.out, HIJ.out, hR]
      have HO2 : Hid (otherP S T k = !R) := by show _ = _; rw [otherP, hR]
      rw [hst]
      clear hst hR
      cases R with
      | true =>
        have HSF : Hid (sel (otherP S T) (k + 1) = sel (otherP S T) k) := by show _ = _; rw [HSC.out, HO2.out]; simp
        go_wp2_with fail
        exact ⟨⟨k + 1, M, by omega, by go_num, by rw [HSF.out]; exact HM.out, by rw [HSF.out]; exact ho6, hb6⟩, by simp [intOf]; omega⟩
      | false =>
        have HST : Hid (sel (otherP S T) (k + 1) = sel (otherP S T) k ++ [(k : Int)]) := by show _ = _; rw [HSC.out, HO2.out]; simp
        have ho7 := ho6.alloc (.cells #[.int .i64 (k : Int)] 3)
        have hs7 := Sl.one w5 (.int .i64 (k : Int)) 3
        have hb7 := hb6.alloc hb6.size (.cells #[.int .i64 (k : Int)] 3)
        go_wp2_with (at_builtin; refine wpL_append etI rfl _ _ rfl ho7 rfl hs7 rfl (by simp [Value.oneCell']) (by omega) (by simp [maxLen]; omega) hb7.size ?_; intro v8 w8 ho8 hg8; have hb8 := below_own hb7 ho7 hg8 (Nat.le_refl _) hb7.size; clear hg8)
        refine ⟨⟨k + 1, M + 1, by omega, by go_num, by rw [HST.out, List.length_append, HM.out]; rfl, ?_, hb8⟩, by simp [intOf]; omega⟩
        rw [HST.out, ints_append]
        exact ho8
set_option maxRecDepth 100000 in
set_option maxHeartbeats 1600000 in
theorem rturned_n (b1 : Nat) (S T : List Nat) (w : World) (h0 : RM w b1 S) (hT0 : T = List.replicate 1024 0) (L : List Int) (hL : Hid (L = turnedL S T)) (N : Nat) (hN : Hid (N = L.length)) :
    Calls Try.prog 29 #[.pointer (some ⟨b1, 0, none⟩), .pointer none] w fun e w' => ∃ v, e = .returned v ∧ Own w' w.heap.size 1 v N (ints L) ∧ Below w.heap.size w w' := by
  have HT := Lib.hid hT0
  clear hT0
  go_enter Try.func29, Try.ntmps29
  go_wp2_with fail
  refine (rnew_h w).mono ?_
  rintro e w1 ⟨rfl, h2, hB1⟩
  have h1 := h0.below hB1
  rw [← HT.out] at h2
  obtain ⟨b2, hb2⟩ : ∃ b2, b2 = w.heap.size := ⟨_, rfl⟩
  rw [← hb2] at h2
  have hb2' : (Value.pointer (some ⟨w.heap.size, 0, none⟩)) = .pointer (some ⟨b2, 0, none⟩) := by rw [hb2]
  rw [hb2']
  clear hb2 hb2' h0
  go_wp2_with fail
  go_loopw [5, 6] (fun v5 v6 wr => ∃ k M : Nat, k ≤ 9 ∧ v6 = .int .i64 k ∧ M = (sel (otherP S T) k).length ∧ Own wr (w1).heap.size 1 v5 M (ints (sel (otherP S T) k)) ∧ Below (w1).heap.size w1 wr) (fun _ v6 _ => 9 - (intOf v6).toNat)
  case atStart => exact ⟨0, 0, Nat.zero_le _, rfl, rfl, Own.nil _ _ _, Below.refl _ _⟩
  case round =>
    obtain ⟨k, M, hk, rfl, hM, ho, hb⟩ := hrel
    obtain ⟨a5, c5, rfl⟩ := ho.form
    by_cases hk9 : k = 9
    · subst hk9
      have HNM : Hid (N = M ∧ L = sel (otherP S T) 9) := ⟨by rw [hN.out, hL.out, hM]; rfl, hL.out⟩
      clear hM
      go_wp2_with fail
      go_ret
      rw [HNM.out.1, HNM.out.2]
      exact ⟨_, rfl, ho.mono hB1.size, hB1.trans (hb.mono hB1.size)⟩
    · have hlt : k < 9 := by omega
      have hlt' : (k : Int) < 9 := by omega
      have hM9 : M ≤ 9 := by rw [hM]; have := sel_len (otherP S T) k; omega
      have HM := Lib.hid hM
      have HSC := Lib.hid (sel_succ (otherP S T) k)
      have HIJ := Lib.hid (partB_inj h1.2 h2.2 k hlt)
      obtain ⟨P1, hP1⟩ : ∃ P1, P1 = partB S (k : Int) := ⟨_, rfl⟩
      obtain ⟨P2, hP2⟩ : ∃ P2, P2 = partB T (k : Int) := ⟨_, rfl⟩
      have HP1 := Lib.hid hP1
      have HP2 := Lib.hid hP2
      clear hM hP1 hP2
      go_wp2_with fail
      refine wp_region_idx Rb Rb_refl Rb_trans [(0,0),(0,1),(0,4),(0,5),(1,2),(0,3),(1,6),(0,7),(0,8)] (by kernel_rfl) (by kernel_rfl) (by kernel_rfl) ?_
      simp only [pickO, List.getD_cons_succ, List.getD_cons_zero]
      refine wpCan_seg 4 (by kernel_rfl) ?_
      simp only [List.take_succ_cons, List.take_zero, List.drop_succ_cons, List.drop_zero, List.map_cons, List.map_nil]
      iterate 4 (go_big_quiet_step (fail))
      refine wpQuiet_nil ?_
      refine wpCan_list (k := 0) (fun K hK => ?_) (fun _ => Rb_refl _)
      go_wp2_with fail
      refine (rpart_p b1 S (k : Int) _ (h1.below hb.drew) P1 HP1).mono ?_
      rintro e w3 ⟨v3, rfl, ho3, hb3⟩
      obtain ⟨a3, c3, rfl⟩ := ho3.form
      go_wp2_with fail
      refine hK _ _ (fun _ => hb3) ?_
      clear hK K
      have k1 := conv_later (w := w3) ho3.sl
      obtain ⟨N1, hN1⟩ : ∃ N1, N1 = P1.length := ⟨_, rfl⟩
      rw [← hN1] at k1 ⊢
      clear hN1
      refine wpCan_seg 1 (by kernel_rfl) ?_
      simp only [List.take_succ_cons, List.take_zero, List.drop_succ_cons, List.drop_zero, List.map_cons, List.map_nil]
      iterate 1 (go_big_quiet_step (fail))
      refine wpQuiet_nil ?_
      clear k1
      have hb4 := hb.drew.trans (hb3.mono hb.size)
      have ho4 := ho.drew.below hb3
      refine wpCan_list (k := 0) (fun K hK => ?_) (fun _ => Rb_refl _)
      go_wp2_with fail
      refine (rpart_p b2 T (k : Int) _ (h2.below hb4) P2 HP2).mono ?_
      rintro e w5 ⟨v5, rfl, ho5, hb5⟩
      obtain ⟨a6, c6, rfl⟩ := ho5.form
      go_wp2_with fail
      refine hK _ _ (fun _ => hb5) ?_
      clear hK K
      have k2 := conv_later (w := w5) ho5.sl
      obtain ⟨N2, hN2⟩ : ∃ N2, N2 = P2.length := ⟨_, rfl⟩
      rw [← hN2] at k2 ⊢
      clear hN2
      have hb6 := hb4.trans (hb5.mono hb4.size)
      have ho6 := ho4.below hb5
      refine wpCan_seg 2 (by kernel_rfl) ?_
      simp only [List.take_succ_cons, List.take_zero, List.drop_succ_cons, List.drop_zero, List.map_cons, List.map_nil]
      iterate 2 (go_big_quiet_step (fail))
      refine wpQuiet_nil ?_
      clear k2 ho3 ho5 hb3 hb5 ho4 hb4
      unfold wpCan
      obtain ⟨R, hR⟩ : ∃ R, R = decide (partL S k = partL T k) := ⟨_, rfl⟩
      have hst : ((str P1).toList == (str P2).toList) = R := by rw [str_beq, HP1.out, HP2.out, HIJ.out, hR]
      have HO2 : Hid (otherP S T k = !R) := by show _ = _; rw [otherP, hR]
      rw [hst]
      clear hst hR
      cases R with
      | true =>
        have HSF : Hid (sel (otherP S T) (k + 1) = sel (otherP S T) k) := by show _ = _; rw [HSC.out, HO2.out]; simp
        go_wp2_with fail
        exact ⟨⟨k + 1, M, by omega, by go_num, by rw [HSF.out]; exact HM.out, by rw [HSF.out]; exact ho6, hb6⟩, by simp [intOf]; omega⟩
      | false =>
        have HST : Hid (sel (otherP S T) (k + 1) = sel (otherP S T) k ++ [(k : Int)]) := by show _ = _; rw [HSC.out, HO2.out]; simp
        have ho7 := ho6.alloc (.cells #[.int .i64 (k : Int)] 3)
        have hs7 := Sl.one w5 (.int .i64 (k : Int)) 3
        have hb7 := hb6.alloc hb6.size (.cells #[.int .i64 (k : Int)] 3)
        go_wp2_with (at_builtin; refine wpL_append etI rfl _ _ rfl ho7 rfl hs7 rfl (by simp [Value.oneCell']) (by omega) (by simp [maxLen]; omega) hb7.size ?_; intro v8 w8 ho8 hg8; have hb8 := below_own hb7 ho7 hg8 (Nat.le_refl _) hb7.size; clear hg8)
        refine ⟨⟨k + 1, M + 1, by omega, by go_num, by rw [HST.out, List.length_append, HM.out]; rfl, ?_, hb8⟩, by simp [intOf]; omega⟩
        rw [HST.out, ints_append]
        exact ho8
end Go.Proofs.Ytljbpflcnicaiaa
