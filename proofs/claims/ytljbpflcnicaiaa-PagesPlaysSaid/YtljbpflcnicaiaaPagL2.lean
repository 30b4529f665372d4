/-
  PagesTurned, walked.
-/
import Derived.Test.YtljbpflcnicaiaaPagL1
namespace Go.Proofs.Ytljbpflcnicaiaa
open Go.RowKit
set_option linter.unusedVariables false
set_option linter.unusedSimpArgs false

theorem get_nat (S : List Nat) (hS : Good S) (k : Nat) : getS S (k : Int) = ((S.getD k 0 : Nat) : Int) := by
  unfold getS
  by_cases h : hasS S (k : Int) = true
  · rw [if_pos h, Int.toNat_natCast]
  · rw [if_neg h]
    rcases has_cases S (k : Int) with ⟨h1, h2⟩ | ⟨h0, h1, h2⟩ | ⟨j, h0, h1, h2⟩
    · omega
    · rw [List.getD_eq_getElem?_getD, List.getElem?_eq_none (by rw [hS.1]; omega)]; rfl
    · obtain rfl : j = k := by omega
      rw [h2] at h
      have : ¬ 0 < S.getD j 0 := by simpa using h
      omega
def anyD (S T : List Nat) (i q : Nat) : Bool := (List.range q).any fun j => getS S ((124 * i + j : Nat) : Int) != getS T ((124 * i + j : Nat) : Int)
theorem anyD_succ (S T : List Nat) (i q : Nat) : anyD S T i (q + 1) = (anyD S T i q || (getS S ((124 * i + q : Nat) : Int) != getS T ((124 * i + q : Nat) : Int))) := by
  unfold anyD
  rw [List.range_succ, List.any_append]
  simp
theorem part_ext {S T : List Nat} (hS : Good S) (hT : Good T) (i : Nat) (hi : i < 9) : partL S i = partL T i ↔ ∀ j, j < 124 → S.getD (124 * i + j) 0 = T.getD (124 * i + j) 0 := by
  have hl1 := part_len hS i hi
  have hl2 := part_len hT i hi
  have g : ∀ (S : List Nat) (j : Nat), j < 124 → (partL S i).getD j 0 = S.getD (124 * i + j) 0 := fun S j hj => by
    rw [partL, List.getD_eq_getElem?_getD, List.getElem?_take_of_lt hj, List.getElem?_drop, ← List.getD_eq_getElem?_getD]
  constructor
  · intro h j hj
    rw [← g S j hj, ← g T j hj, h]
  · intro h
    apply List.ext_getElem?
    intro j
    have hp := (partN_le i).2
    by_cases hj : j < partN i
    · have h3 := h j (by omega)
      rw [← g S j (by omega), ← g T j (by omega)] at h3
      rw [List.getD_eq_getElem?_getD, List.getD_eq_getElem?_getD, List.getElem?_eq_getElem (by omega), List.getElem?_eq_getElem (by omega)] at h3
      rw [List.getElem?_eq_getElem (by omega), List.getElem?_eq_getElem (by omega)]
      simp only [Option.getD_some] at h3
      rw [h3]
    · rw [List.getElem?_eq_none (by omega), List.getElem?_eq_none (by omega)]
theorem anyD_other {S T : List Nat} (hS : Good S) (hT : Good T) (i : Nat) (hi : i < 9) : anyD S T i 124 = otherP S T i := by
  rw [Bool.eq_iff_iff]
  unfold anyD otherP
  simp only [List.any_eq_true, List.mem_range, bne_iff_ne, Bool.not_eq_true', decide_eq_false_iff_not, part_ext hS hT i hi]
  constructor
  · rintro ⟨j, hj, h⟩ h2
    apply h
    rw [get_nat S hS, get_nat T hT, h2 j hj]
  · intro h
    apply Classical.byContradiction
    intro h2
    apply h
    intro j hj
    apply Classical.byContradiction
    intro h3
    apply h2
    refine ⟨j, hj, fun h4 => h3 ?_⟩
    rw [get_nat S hS, get_nat T hT] at h4
    omega
theorem other_symm (S T : List Nat) (i : Nat) : otherP T S i = otherP S T i := by
  unfold otherP
  rw [show decide (partL T i = partL S i) = decide (partL S i = partL T i) by rw [decide_eq_decide]; exact ⟨Eq.symm, Eq.symm⟩]

set_option maxRecDepth 100000 in
set_option maxHeartbeats 4000000 in
theorem pagesTurned_walk (a : Option Addr) (n c : Nat) (l : List (Int × Int × Int × List UInt8)) (a' : Option Addr) (n' c' : Nat) (l' : List (Int × Int × Int × List UInt8)) (w : World) (hl : SlOf VOp 4 w (.slice a n c) l) (hl' : SlOf VOp 4 w (.slice a' n' c') l') :
    Calls Try.prog 4 #[.slice a n c, .slice a' n' c'] w fun e w' => e = .returned (.bool true) ∧ Below w.heap.size w w' := by
  go_enter Try.func4, Try.ntmps4
  have hn := hl.len
  have hn2 := hn.2
  have HN := Lib.hid hn.1
  have hn' := hl'.len
  have hn2' := hn'.2
  have HN' := Lib.hid hn'.1
  clear hn hn'
  go_wp2_with fail
  refine (vast_any a n c l w hl).mono ?_
  rintro e w1 ⟨B, rfl, HV, hb1⟩
  cases B with
  | true =>
    go_wp2_with fail
    refine (works_any w1).mono ?_
    rintro e wq ⟨rfl, hbq⟩
    go_wp2_with fail
    go_ret
    exact ⟨rfl, (hb1).trans (hbq.mono (hb1).size)⟩
  | false =>
  have HF : Hid (Few l) := HV.out rfl
  have hn200 : n ≤ 200 := by rw [HN.out]; exact HF.out.1
  clear HV
  go_wp2_with fail
  refine (vast_any a' n' c' l' w1 (hl'.below stabOp hb1)).mono ?_
  rintro e w1' ⟨B, rfl, HV, hb1'⟩
  replace hb1 := hb1.trans (hb1'.mono hb1.size)
  clear hb1'
  obtain ⟨w1, rfl⟩ : ∃ x, x = w1' := ⟨_, rfl⟩
  cases B with
  | true =>
    go_wp2_with fail
    refine (works_any w1).mono ?_
    rintro e wq ⟨rfl, hbq⟩
    go_wp2_with fail
    go_ret
    exact ⟨rfl, (hb1).trans (hbq.mono (hb1).size)⟩
  | false =>
  have HF' : Hid (Few l') := HV.out rfl
  have hn200' : n' ≤ 200 := by rw [HN'.out]; exact HF'.out.1
  clear HV
  go_wp2_with fail
  refine (new_h w1).mono ?_
  rintro e w2 ⟨rfl, hm2, hb2⟩
  have hB2 := hb1.trans (hb2.mono hb1.size)
  obtain ⟨b, hb⟩ : ∃ b, b = w1.heap.size := ⟨_, rfl⟩
  rw [← hb] at hm2 ⊢
  have hbw : w.heap.size ≤ b := by rw [hb]; exact hb1.size
  clear hb hb2
  go_wp2_with fail
  go_loopw [6] (fun v6 wr => ∃ (k : Nat) (S : List Nat), k ≤ n ∧ v6 = .int .i64 k ∧ PM wr b S ∧ Below w.heap.size w wr) (fun v6 _ => n - (intOf v6).toNat)
  case atStart => exact ⟨0, _, Nat.zero_le _, rfl, hm2, hB2⟩
  case round =>
    clear hm2 hB2
    obtain ⟨k, S, hk, rfl, hm, hB⟩ := hrel
    by_cases hkn : k = n
    rotate_left
    · have hlt : k < n := by omega
      have hlt' : (k : Int) < n := by omega
      obtain ⟨b7, o7, av, cv, m, K, x, y, r, rfl, hri, hrm, hop, hc0, hc1, hc2, hc3⟩ := op_at (hl.below stabOp hB) k hlt
      have hm1024 : m ≤ 1024 := by have := HF.out.2 k K x y r hri; omega
      clear hri hrm
      go_wp2_with fail
      refine (does_h b S K x y av m cv r wr hm hop hm1024).mono ?_
      rintro e w3 ⟨B, T, rfl, HBT, hm3, hg3⟩
      clear hc0 hc1 hc2 hc3 hop
      go_wp2_with fail
      exact ⟨⟨k + 1, T, by omega, by go_num, hm3, below_mods hB hg3 (fun g e => by omega) hB.size⟩, by simp [intOf]; omega⟩
    subst hkn
    have hbl := hm.lt
    go_wp2_with fail
    refine (copy_h b S wr hm).mono ?_
    rintro e w4 ⟨rfl, hW4, hb4⟩
    have hm4 := hm.below hb4
    have hB4 := hB.trans (hb4.mono hB.size)
    obtain ⟨d, hd⟩ : ∃ d, d = wr.heap.size := ⟨_, rfl⟩
    rw [← hd] at hW4 hbl ⊢
    have hdw : w.heap.size ≤ d := by rw [hd]; exact hB.size
    clear hd hb4 hm hB HF HN hn200 hn2 hl
    obtain ⟨S0, rfl⟩ : ∃ x, x = S := ⟨_, rfl⟩
    go_wp2_with fail
    go_loopw [8] (fun v8 wr => ∃ (k : Nat) (S : List Nat), k ≤ n' ∧ v8 = .int .i64 k ∧ PM wr b S ∧ PM wr d S0 ∧ Below w.heap.size w wr) (fun v8 _ => n' - (intOf v8).toNat)
    case atStart => exact ⟨0, _, Nat.zero_le _, rfl, hm4, hW4, hB4⟩
    case round =>
      clear hm4 hW4 hB4
      obtain ⟨k', S, hk', rfl, hm, hW, hB⟩ := hrel
      by_cases hkn : k' = n'
      rotate_left
      · have hlt : k' < n' := by omega
        have hlt' : (k' : Int) < n' := by omega
        obtain ⟨b7, o7, av, cv, m, K, x, y, r, rfl, hri, hrm, hop, hc0, hc1, hc2, hc3⟩ := op_at (hl'.below stabOp hB) k' hlt
        have hm1024 : m ≤ 1024 := by have := HF'.out.2 k' K x y r hri; omega
        clear hri hrm
        go_wp2_with fail
        refine (does_h b S K x y av m cv r wr hm hop hm1024).mono ?_
        rintro e w3 ⟨B, T, rfl, HBT, hm3, hg3⟩
        have hW3 := hW.mods hg3 (by omega)
        clear hc0 hc1 hc2 hc3 hop
        go_wp2_with fail
        exact ⟨⟨k' + 1, T, by omega, by go_num, hm3, hW3, below_mods hB hg3 (fun g e => by omega) hB.size⟩, by simp [intOf]; omega⟩
      subst hkn
      clear hl' HF' HN' hn200' hn2'
      obtain ⟨w5, rfl⟩ : ∃ x, x = wr := ⟨_, rfl⟩
      go_wp2_with fail
      go_loopw [9, 10, 11, 12, 13, 14, 15, 16] (fun v9 v10 v11 v12 v13 v14 v15 v16 wr => ∃ i N : Nat, i ≤ 9 ∧ v10 = .int .i64 i ∧ N = (sel (otherP S S0) i).length ∧ Own wr w5.heap.size 1 v9 N (ints (sel (otherP S S0) i)) ∧ Below w5.heap.size w5 wr) (fun _ v10 _ _ _ _ _ _ _ => 9 - (intOf v10).toNat)
      case atStart => exact ⟨0, 0, Nat.zero_le _, rfl, rfl, Own.nil _ _ _, Below.refl _ _⟩
      case round =>
        obtain ⟨i, N, hi, rfl, hN, ho, hb⟩ := hrel
        obtain ⟨a9, c9, rfl⟩ := ho.form
        have hmr := hm.below hb
        have hWr := hW.below hb
        have hBr := hB.trans (hb.mono hB.size)
        by_cases hi9 : i = 9
        · subst hi9
          have HNN : Hid (N = (turnedL S S0).length) := hN
          have ho2 : Own wr w5.heap.size 1 (.slice a9 N c9) N (ints (turnedL S S0)) := ho
          clear hN ho
          go_wp2_with fail
          refine (turned_h b d S S0 wr hmr hWr).mono ?_
          rintro e w6 ⟨v6, L6, N6, rfl, H6, ho6, hb6⟩
          obtain ⟨a6, c6, rfl⟩ := ho6.form
          obtain rfl : L6 = turnedL S S0 := H6.out.1
          have hB6 := hBr.trans (hb6.mono hBr.size)
          go_wp2_with fail
          refine (same_h a6 N6 c6 a9 N c9 _ _ w6 ho6.sl (ho2.below hb6).sl).mono ?_
          rintro e w7 ⟨R, rfl, HR, hb7⟩
          obtain rfl : R = true := by rw [HR.out]; simp
          have hB7 := hB6.trans (hb7.mono hB6.size)
          have ho7 := (ho2.below hb6).below hb7
          go_wp2_with fail
          refine (turned_h d b S0 S w7 ((hWr.below hb6).below hb7) ((hmr.below hb6).below hb7)).mono ?_
          rintro e w8 ⟨v8, L8, N8, rfl, H8, ho8, hb8⟩
          obtain ⟨a8, c8, rfl⟩ := ho8.form
          have hB8 := hB7.trans (hb8.mono hB7.size)
          have HE : Hid (L8 = turnedL S S0) := by
            show _ = _
            rw [H8.out.1, turnedL, turnedL]
            congr 1
            funext i
            exact other_symm S S0 i
          go_wp2_with fail
          refine (same_h a8 N8 c8 a9 N c9 _ _ w8 ho8.sl (ho7.below hb8).sl).mono ?_
          rintro e w9 ⟨R, rfl, HR, hb9⟩
          obtain rfl : R = true := by rw [HR.out, HE.out]; simp
          have hB9 := hB8.trans (hb9.mono hB8.size)
          go_wp2_with fail
          refine (works_any w9).mono ?_
          rintro e wq ⟨rfl, hbq⟩
          go_wp2_with fail
          go_ret
          exact ⟨rfl, (hB9).trans (hbq.mono (hB9).size)⟩
        · have hilt : i < 9 := by omega
          have hilt' : (i : Int) < 9 := by omega
          have hN9 : N ≤ 9 := by rw [hN]; have := sel_len (otherP S S0) i; omega
          have HN := Lib.hid hN
          have HAO := Lib.hid (anyD_other hm.2 hW.2 i hilt)
          obtain ⟨O, hO⟩ : ∃ O, O = 124 * i := ⟨_, rfl⟩
          have hkO : (i : Int) * 124 = (O : Int) := by omega
          have hkO2 : ((i : Int) + 1) * 124 = (O : Int) + 124 := by omega
          have hO9 : O ≤ 992 := by omega
          have HO := Lib.hid hO
          clear hN hO
          go_wp2_with fail
          go_loop [11, 12, 13, 14, 15, 16] (fun v11 v12 v13 v14 v15 v16 => ∃ q : Nat, q ≤ 124 ∧ v12 = .int .i64 ((O + q : Nat) : Int) ∧ v11 = .bool (anyD S S0 i q)) (fun _ v12 _ _ _ _ => O + 124 - (intOf v12).toNat)
          case atStart => exact ⟨0, Nat.zero_le _, rfl, rfl⟩
          case round =>
            obtain ⟨q, hq, rfl, rfl⟩ := hrel
            by_cases hq4 : q = 124
            · obtain ⟨A, hA⟩ : ∃ A, A = anyD S S0 i q := ⟨_, rfl⟩
              have HOT : Hid (otherP S S0 i = A) := by show _ = _; rw [← HAO.out, hA, hq4]
              rw [← hA]
              have hx : ¬ (O : Int) + (q : Int) < (O : Int) + 124 := by omega
              have HSC := Lib.hid (sel_succ (otherP S S0) i)
              clear hA hq4
              cases A with
              | false =>
                have HSF : Hid (sel (otherP S S0) (i + 1) = sel (otherP S S0) i) := by show _ = _; rw [HSC.out, HOT.out]; simp
                go_wp2_with fail
                exact ⟨⟨i + 1, N, by omega, by go_num, by rw [HSF.out]; exact HN.out, by rw [HSF.out]; exact ho, hb⟩, by simp [intOf]; omega⟩
              | true =>
                have HST : Hid (sel (otherP S S0) (i + 1) = sel (otherP S S0) i ++ [(i : Int)]) := by show _ = _; rw [HSC.out, HOT.out]; simp
                have ho7 := ho.alloc (.cells #[.int .i64 (i : Int)] 3)
                have hs7 := Sl.one wr (.int .i64 (i : Int)) 3
                have hb7 := hb.alloc hb.size (.cells #[.int .i64 (i : Int)] 3)
                go_wp2_with (at_builtin; refine wpL_append etI rfl _ _ rfl ho7 rfl hs7 rfl (by simp [Value.oneCell']) (by omega) (by simp [maxLen]; omega) hb7.size ?_; intro v8 w8 ho8 hg8; have hb8 := below_own hb7 ho7 hg8 (Nat.le_refl _) hb7.size; clear hg8)
                refine ⟨⟨i + 1, N + 1, by omega, by go_num, by rw [HST.out, List.length_append, HN.out]; rfl, ?_, hb8⟩, by simp [intOf]; omega⟩
                rw [HST.out, ints_append]
                exact ho8
            · have hx : (O : Int) + (q : Int) < (O : Int) + 124 := by omega
              have HSC : Hid (anyD S S0 i (q + 1) = (anyD S S0 i q || (getS S ((O + q : Nat) : Int) != getS S0 ((O + q : Nat) : Int)))) := by show _ = _; rw [HO.out]; exact anyD_succ S S0 i q
              obtain ⟨A, hA⟩ : ∃ A, A = anyD S S0 i q := ⟨_, rfl⟩
              obtain ⟨V1, hV1⟩ : ∃ V, V = getS S ((O + q : Nat) : Int) := ⟨_, rfl⟩
              obtain ⟨V2, hV2⟩ : ∃ V, V = getS S0 ((O + q : Nat) : Int) := ⟨_, rfl⟩
              rw [← hA, ← hV1, ← hV2] at HSC
              rw [← hA]
              have g1 := get_p b S ((O + q : Nat) : Int) wr hmr _ (Lib.hid rfl) V1 (Lib.hid hV1)
              have g2 := get_p d S0 ((O + q : Nat) : Int) wr hWr _ (Lib.hid rfl) V2 (Lib.hid hV2)
              obtain ⟨B1, hB1⟩ : ∃ B, B = hasS S ((O + q : Nat) : Int) := ⟨_, rfl⟩
              obtain ⟨B2, hB2⟩ : ∃ B, B = hasS S0 ((O + q : Nat) : Int) := ⟨_, rfl⟩
              rw [← hB1] at g1
              rw [← hB2] at g2
              rw [show ((O + q : Nat) : Int) = (O : Int) + (q : Int) by omega] at g1 g2
              have G1 := Lib.hid g1
              have G2 := Lib.hid g2
              clear hA hV1 hV2 hB1 hB2 g1 g2
              cases A with
              | true =>
                have HSC2 : Hid (anyD S S0 i (q + 1) = true) := by show _ = _; rw [HSC.out]; rfl
                go_wp2_with fail
                refine G1.out.mono ?_
                rintro e w6 ⟨rfl, rfl⟩
                go_wp2_with fail
                refine G2.out.mono ?_
                rintro e w6 ⟨rfl, rfl⟩
                go_wp2_with fail
                exact ⟨⟨q + 1, by omega, by go_num, by rw [HSC2.out]⟩, by simp [intOf]; omega⟩
              | false =>
                have HSC2 : Hid (anyD S S0 i (q + 1) = (V1 != V2)) := by show _ = _; rw [HSC.out]; rfl
                go_wp2_with fail
                refine G1.out.mono ?_
                rintro e w6 ⟨rfl, rfl⟩
                go_wp2_with fail
                refine G2.out.mono ?_
                rintro e w6 ⟨rfl, rfl⟩
                go_wp2_with fail
                exact ⟨⟨q + 1, by omega, by go_num, by rw [HSC2.out]⟩, by simp [intOf]; omega⟩
end Go.Proofs.Ytljbpflcnicaiaa
