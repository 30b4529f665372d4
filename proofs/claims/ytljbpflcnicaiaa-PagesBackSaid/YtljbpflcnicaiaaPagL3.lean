/-
  PagesRising, walked.
-/
import Derived.Test.YtljbpflcnicaiaaPagL2
namespace Go.Proofs.Ytljbpflcnicaiaa
open Go.RowKit
set_option linter.unusedVariables false
set_option linter.unusedSimpArgs false

def pagF (S : List Nat) (k : Nat) : List Nat := (List.range k).filter (hasP S)
def secOf (S : List Nat) (i : Nat) : Int := ((S.getD i 0 : Nat) : Int)
theorem pagF_succ (S : List Nat) (k : Nat) : (pagF S (k + 1)).length = (pagF S k).length + if hasP S k then 1 else 0 := by
  unfold pagF
  rw [List.range_succ, List.filter_append, List.length_append]
  by_cases h : hasP S k <;> simp [h]
theorem selG_F (S : List Nat) (g : Nat → Int) (k : Nat) : selG S g k = (pagF S k).map g := rfl
theorem rise_at (S : List Nat) (K i : Nat) (h : i < (pagF S K).length) : ∃ k : Nat, (pagF S K)[i]? = some k ∧ k < K ∧ hasP S k = true ∧ (selG S Int.ofNat K).getD i 0 = (k : Int) ∧ (selG S (fun i => ((S.getD i 0 : Nat) : Int)) K).getD i 0 = ((S.getD k 0 : Nat) : Int) := by
  have hg := List.getElem?_eq_getElem h
  obtain ⟨k, hk⟩ : ∃ k, k = (pagF S K)[i]'h := ⟨_, rfl⟩
  rw [← hk] at hg
  have hm : k ∈ pagF S K := by rw [hk]; exact List.getElem_mem h
  unfold pagF at hm
  rw [List.mem_filter, List.mem_range] at hm
  refine ⟨k, hg, hm.1, hm.2, ?_, ?_⟩
  · rw [selG_F, List.getD_eq_getElem?_getD, List.getElem?_map, hg]; rfl
  · rw [selG_F, List.getD_eq_getElem?_getD, List.getElem?_map, hg]; rfl
theorem rise_lt (S : List Nat) (K i j k : Nat) (h1 : (pagF S K)[i]? = some j) (h2 : (pagF S K)[i + 1]? = some k) : j < k := by
  have hp : (pagF S K).Pairwise (· < ·) := List.Pairwise.filter _ List.pairwise_lt_range
  obtain ⟨a1, e1⟩ := List.getElem?_eq_some_iff.1 h1
  obtain ⟨a2, e2⟩ := List.getElem?_eq_some_iff.1 h2
  have := List.pairwise_iff_getElem.1 hp i (i + 1) a1 a2 (by omega)
  omega
theorem get_hasP (S : List Nat) (k : Nat) (hk : k < 1024) : hasS S (k : Int) = hasP S k := by
  rw [hasS, decide_eq_true (by omega : (0 : Int) ≤ k), decide_eq_true (by omega : (k : Int) < 1024)]; rfl
set_option maxRecDepth 100000 in
set_option maxHeartbeats 4000000 in
theorem pagesRising_walk (a : Option Addr) (n c : Nat) (l : List (Int × Int × Int × List UInt8)) (w : World) (hl : SlOf VOp 4 w (.slice a n c) l) :
    Calls Try.prog 6 #[.slice a n c] w fun e w' => e = .returned (.bool true) ∧ Below w.heap.size w w' := by
  go_enter Try.func6, Try.ntmps6
  have hn := hl.len
  have hn2 := hn.2
  have HN := Lib.hid hn.1
  clear hn
  go_wp2_with fail
  refine (vast_any a n c l w hl).mono ?_
  rintro e w1 ⟨B, rfl, HV, hb1⟩
  cases B with
  | true =>
    go_wp2_with fail
    refine (works_any w1).mono ?_
    rintro e wq ⟨rfl, hbq⟩
    go_wp2_with fail
    go_ret
    exact ⟨rfl, (hb1).trans (hbq.mono (hb1).size)⟩
  | false =>
  have HF : Hid (Few l) := HV.out rfl
  have hn200 : n ≤ 200 := by rw [HN.out]; exact HF.out.1
  clear HV
  go_wp2_with fail
  refine (new_h w1).mono ?_
  rintro e w2 ⟨rfl, hm2, hb2⟩
  have hB2 := hb1.trans (hb2.mono hb1.size)
  obtain ⟨b, hb⟩ : ∃ b, b = w1.heap.size := ⟨_, rfl⟩
  rw [← hb] at hm2 ⊢
  have hbw : w.heap.size ≤ b := by rw [hb]; exact hb1.size
  clear hb hb2
  go_wp2_with fail
  go_loopw [4] (fun v4 wr => ∃ (k : Nat) (S : List Nat), k ≤ n ∧ v4 = .int .i64 k ∧ PM wr b S ∧ Below w.heap.size w wr) (fun v4 _ => n - (intOf v4).toNat)
  case atStart => exact ⟨0, _, Nat.zero_le _, rfl, hm2, hB2⟩
  case round =>
    clear hm2 hB2
    obtain ⟨k, S, hk, rfl, hm, hB⟩ := hrel
    by_cases hkn : k = n
    rotate_left
    · have hlt : k < n := by omega
      have hlt' : (k : Int) < n := by omega
      obtain ⟨b7, o7, av, cv, m, K, x, y, r, rfl, hri, hrm, hop, hc0, hc1, hc2, hc3⟩ := op_at (hl.below stabOp hB) k hlt
      have hm1024 : m ≤ 1024 := by have := HF.out.2 k K x y r hri; omega
      clear hri hrm
      go_wp2_with fail
      refine (does_h b S K x y av m cv r wr hm hop hm1024).mono ?_
      rintro e w3 ⟨B, T, rfl, HBT, hm3, hg3⟩
      clear hc0 hc1 hc2 hc3 hop
      go_wp2_with fail
      exact ⟨⟨k + 1, T, by omega, by go_num, hm3, below_mods hB hg3 (fun g e => by omega) hB.size⟩, by simp [intOf]; omega⟩
    subst hkn
    clear HF HN hn200 hn2 hl
    obtain ⟨L, hL⟩ : ∃ L, L = selG S Int.ofNat 1024 := ⟨_, rfl⟩
    obtain ⟨Q, hQ⟩ : ∃ Q, Q = selG S (fun i => ((S.getD i 0 : Nat) : Int)) 1024 := ⟨_, rfl⟩
    obtain ⟨N, hN⟩ : ∃ N, N = L.length := ⟨_, rfl⟩
    have hNQ : N = Q.length := by rw [hN, hL, hQ, selG_F, selG_F, List.length_map, List.length_map]
    have hNF : N = (pagF S 1024).length := by rw [hN, hL, selG_F, List.length_map]
    have hN1 : N ≤ 1024 := by rw [hN, hL]; exact selG_len _ _ _
    have HL := Lib.hid hL
    have HQ := Lib.hid hQ
    have HN := Lib.hid hN
    have HNQ := Lib.hid hNQ
    have HNF := Lib.hid hNF
    clear hL hQ hN hNQ hNF
    go_wp2_with fail
    refine (pages_p b S wr hm L HL N HN).mono ?_
    rintro e w4 ⟨v4, rfl, ho4, hb4⟩
    obtain ⟨a4, c4, rfl⟩ := ho4.form
    have hm4 := hm.below hb4
    have hB4 := hB.trans (hb4.mono hB.size)
    go_wp2_with fail
    refine (sectors_p b S w4 hm4 Q HQ N HNQ).mono ?_
    rintro e w5 ⟨v5, rfl, ho5, hb5⟩
    obtain ⟨a5, c5, rfl⟩ := ho5.form
    have hm5 := hm4.below hb5
    have hB5 := hB4.trans (hb5.mono hB4.size)
    have hL5 := ho4.below hb5
    clear hm hB hm4 hB4 ho4 hb4 hb5
    have hNN : ((N : Int) != N) = false := by simp
    go_wp2_with fail
    go_loop [7, 8, 9, 10] (fun v7 v8 v9 v10 => ∃ i M : Nat, i ≤ 1024 ∧ v8 = .int .i64 i ∧ v7 = .int .i64 M ∧ M = (pagF S i).length ∧ M ≤ i) (fun _ v8 _ _ => 1024 - (intOf v8).toNat)
    case atStart => exact ⟨0, 0, Nat.zero_le _, rfl, rfl, rfl, Nat.le_refl _⟩
    case round =>
      obtain ⟨i, M, hi, rfl, rfl, hM, hMi⟩ := hrel
      have HM := Lib.hid hM
      clear hM
      by_cases hi4 : i = 1024
      rotate_left
      · have hlt : i < 1024 := by omega
        have hlt' : (i : Int) < 1024 := by omega
        have HB := Lib.hid (get_hasP S i hlt)
        have HPS := Lib.hid (pagF_succ S i)
        go_wp2_with fail
        refine (get_h b S (i : Int) w5 hm5).mono ?_
        rintro e w6 ⟨V, B, rfl, HBV, rfl⟩
        cases B with
        | true =>
          have HP2 : Hid ((pagF S (i + 1)).length = M + 1) := by show _ = _; rw [HPS.out, ← HB.out, ← HBV.out.1, HM.out]; rfl
          go_wp2_with fail
          exact ⟨⟨i + 1, M + 1, by omega, by go_num, by go_num, HP2.out.symm, by omega⟩, by simp [intOf]; omega⟩
        | false =>
          have HP2 : Hid ((pagF S (i + 1)).length = M) := by show _ = _; rw [HPS.out, ← HB.out, ← HBV.out.1, HM.out]; rfl
          go_wp2_with fail
          exact ⟨⟨i + 1, M, by omega, by go_num, by go_num, HP2.out.symm, by omega⟩, by simp [intOf]; omega⟩
      subst hi4
      obtain rfl : M = N := by rw [HM.out, HNF.out]
      clear HM hMi
      go_wp2_with fail
      go_loopw [11, 12, 13] (fun v11 v12 v13 wr => ∃ i : Nat, i ≤ M ∧ v11 = .int .i64 i ∧ Below w5.heap.size w5 wr) (fun v11 _ _ _ => M - (intOf v11).toNat)
      case atStart => exact ⟨0, Nat.zero_le _, rfl, Below.refl _ _⟩
      case round =>
        obtain ⟨i, hi, rfl, hb⟩ := hrel
        have hBr := hB5.trans (hb.mono hB5.size)
        by_cases hiM : i = M
        · subst hiM
          have hii : ((i : Int) == i) = true := by simp
          go_wp2_with fail
          refine (works_any wr).mono ?_
          rintro e wq ⟨rfl, hbq⟩
          go_wp2_with fail
          go_ret
          exact ⟨rfl, (hBr).trans (hbq.mono (hBr).size)⟩
        · have hlt : i < M := by omega
          have hlt' : (i : Int) < M := by omega
          obtain ⟨k9, hk1, hk2, hk3, hk4, hk5⟩ := rise_at S 1024 i (by rw [← HNF.out]; exact hlt)
          obtain ⟨b1, o1, rfl, hc1⟩ := (hL5.sl.below hb).intAt hlt
          obtain ⟨b2, o2, rfl, hc2⟩ := (ho5.sl.below hb).intAt hlt
          rw [HL.out, hk4] at hc1
          rw [HQ.out, hk5] at hc2
          have HB := Lib.hid (get_hasP S k9 hk2)
          have HGN := Lib.hid (get_nat S hm5.2 k9)
          have HK1 := Lib.hid hk1
          have HK3 := Lib.hid hk3
          obtain ⟨V, hV⟩ : ∃ V : Int, V = ((S.getD k9 0 : Nat) : Int) := ⟨_, rfl⟩
          rw [← hV] at hc2
          have HVV : Hid (V = getS S (k9 : Int)) := by show _ = _; rw [HGN.out, hV]
          have HC2 := Lib.hid hc2
          clear hk1 hk3 hk4 hk5 hV hc2
          go_wp2_with fail
          refine (get_p b S (k9 : Int) wr (hm5.below hb) true (by show Hid _; exact (by rw [HB.out, HK3.out] : true = hasS S (k9 : Int))) V HVV).mono ?_
          rintro e w6 ⟨rfl, rfl⟩
          have q1 := later_cell hc1
          have q2 := later_cell HC2.out
          have hVV : (V != V) = false := by simp
          go_wp2_with fail
          rcases i with _ | j
          · simp only [Nat.add_zero] at q1 q2
            refine wp_region_lex Rb Rb_refl Rb_trans [0,0,0,0,0,0,0,0,0,0,0,0,0,0,0,0,0,0,0,0,0,0,0,0,0,0] (by kernel_rfl) (by kernel_rfl) ?_
            refine wpCan_seg 26 (by kernel_rfl) ?_
            simp only [List.zip_cons_cons, List.zip_nil_left, List.take_succ_cons, List.take_zero, List.drop_succ_cons, List.drop_zero, List.map_cons, List.map_nil]
            iterate 26 (go_big_quiet_step (fail))
            refine wpQuiet_nil ?_
            clear q1 q2
            unfold wpCan
            go_wp2_with fail
            exact ⟨⟨1, by omega, by go_num, hb.drew⟩, by simp [intOf]; omega⟩
          · obtain ⟨k8, hj1, hj2, hj3, hj4, hj5⟩ := rise_at S 1024 j (by rw [← HNF.out]; omega)
            obtain ⟨b3, o3, he3, hc3⟩ := (hL5.sl.below hb).intAt (show j < M by omega)
            cases he3
            rw [HL.out, hj4] at hc3
            have hkk := rise_lt S 1024 j k8 k9 hj1 HK1.out
            have hkk' : ¬ (k9 : Int) ≤ (k8 : Int) := by omega
            have q3 := later_cell hc3
            have hj0 : (0 : Int) ≤ (j : Int) := by omega
            have hjM : (j : Int) < M := by omega
            have hj7 : (0 : Int) < (j : Int) + 1 := by omega
            clear hj1 hj3 hj4 hj5 hc3
            refine wp_region_lex Rb Rb_refl Rb_trans [0,0,0,0,0,0,0,0,0,0,0,0,0,0,0,0,0,0,0,0,0,0,0,0,0,0] (by kernel_rfl) (by kernel_rfl) ?_
            refine wpCan_seg 26 (by kernel_rfl) ?_
            simp only [List.zip_cons_cons, List.zip_nil_left, List.take_succ_cons, List.take_zero, List.drop_succ_cons, List.drop_zero, List.map_cons, List.map_nil]
            iterate 26 (go_big_quiet_step (fail))
            refine wpQuiet_nil ?_
            clear q1 q2 q3
            unfold wpCan
            go_wp2_with fail
            exact ⟨⟨j + 2, by omega, by go_num, hb.drew⟩, by simp [intOf]; omega⟩
end Go.Proofs.Ytljbpflcnicaiaa
