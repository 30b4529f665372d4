/-
  RecordMay, walked.
-/
import Derived.Test.YtgcohalmfigjpaaRecL2
import Derived.Deep.CutBlock
namespace Go.Proofs.Ytgcohalmfigjpaa
open Go.RowKit
set_option linter.unusedVariables false
set_option linter.unusedSimpArgs false

/-- what the law's switch says -/
def fineK (k : Nat) (t : Int) (n : Nat) (s : Bool) : Bool :=
  if k = 1 then decide (2 ≤ n) && s && decide (t = 0) else if k = 2 then decide (n ≤ 1) && s && decide (0 ≤ t) && decide (t < 65536) else if k = 3 then decide (n = 1) && s && decide (t = 0) else if k = 4 then s && decide (t = 0) else if k = 5 then decide (n = 0) && decide (t = 0) else false
theorem fineK_may (k : Nat) (t : Int) (n : Nat) (wr s : Bool) : mayN k t n wr s = (fineK k t n s && !wr) := by
  rw [mayN_cnt]
  unfold fineK cntOk
  by_cases k1 : k = 1
  · subst k1; cases s <;> cases wr <;> simp
  by_cases k2 : k = 2
  · subst k2; cases s <;> cases wr <;> simp [Bool.and_assoc, Bool.decide_and]
  by_cases k3 : k = 3
  · subst k3; cases s <;> cases wr <;> simp
  by_cases k4 : k = 4
  · subst k4; cases s <;> cases wr <;> simp
  by_cases k5 : k = 5
  · subst k5; cases s <;> cases wr <;> simp
  simp [k1, k2, k3, k4, k5]
set_option maxRecDepth 100000 in
set_option maxHeartbeats 8000000 in
theorem recordMay_walk (K : UInt8) (t : Int) (a : Option Addr) (n c : Nat) (l : List (UInt8 × Int)) (S : List UInt8) (w : World) (hl : Sl w 2 (.slice a n c) n (wcells l)) (m : Nat) (hm : S.length = m) (hm9 : m ≤ 9223372036854775807) :
    Calls Try.prog 7 #[.agg #[.int .u8 (K.toNat : Int), .int .i64 t, .slice a n c, .string (str S)]] w fun e w' => e = .returned (.bool true) ∧ Below w.heap.size w w' := by
  have HN := Lib.hid hl.wordLen.1
  obtain ⟨k, hk⟩ : ∃ k : Nat, k = K.toNat := ⟨_, rfl⟩
  rw [← hk]
  have hk9 : k < 256 := by rw [hk]; exact K.toNat_lt
  have HK : Hid (K.toNat = k) := hk.symm
  clear hk
  have hsz : (str S).size = m := by rw [← hm]; exact str_size S
  have HM := Lib.hid hm
  clear hm
  obtain ⟨X, hX⟩ : ∃ X, X = decide (2048 < n ∨ 32768 < m) := ⟨_, rfl⟩
  have HX := Lib.hid hX
  clear hX
  have hb0 : Below w.heap.size w (w.alloc (.cells #[.int .u8 (k : Int), .int .i64 t, .slice a n c, .string (str S)] 24)) := (Below.refl _ _).alloc (Nat.le_refl _) _
  have hr0 := Row.new w [.int .u8 (k : Int), .int .i64 t, .slice a n c, .string (str S)] 24
  have hl0 := hl.below hb0
  go_enter Try.func7, Try.ntmps7
  go_wp2_with (refine wpL_loadRow rfl _ _ rfl rfl hr0 Try.underlying24 rfl (by kernel_rfl) ?_)
  refine (large_any k t a n c l S _ hl0 m HM.out hm9 X HX).mono ?_
  rintro e w1 ⟨rfl, hb1⟩
  have hr1 := hr0.after hb1
  have hB1 := hb0.trans (hb1.mono hb0.size)
  have hl1 := hl.below hB1
  obtain ⟨A, hA⟩ : ∃ A, A = w.heap.size := ⟨_, rfl⟩
  rw [← hA] at hr1 ⊢
  have hAw : w.heap.size ≤ A := by omega
  clear hb0 hr0 hl0 hb1 hA
  cases X with
  | true =>
    go_wp2_with fail
    refine (works_any w1).mono ?_
    rintro e wZ ⟨rfl, hbZ⟩
    go_wp2_with fail
    go_ret
    exact ⟨rfl, (hB1).trans (hbZ.mono (hB1).size)⟩
  | false =>
  have hX := HX.out.symm
  rw [decide_eq_false_iff_not] at hX
  have hn9 : n ≤ 2048 := by omega
  have hm8 : m ≤ 32768 := by omega
  clear hX HX
  obtain ⟨Q, hQ⟩ : ∃ Q, Q = wrQ K t l S := ⟨_, rfl⟩
  obtain ⟨N, hN⟩ : ∃ N, N = Q.length := ⟨_, rfl⟩
  obtain ⟨E, hE⟩ : ∃ E, E = wrE K t l S := ⟨_, rfl⟩
  have hN9 : N ≤ 8192 := by rw [hN, hQ]; exact wrQ_le _ _ _ _
  have HQ : Hid (Q = wrQ K t l S ∧ N = Q.length ∧ E = wrE K t l S) := ⟨hQ, hN, hE⟩
  clear hQ hN hE
  have HW : Hid (∀ (a : Option Addr) (c : Nat) (w : World), Sl w 2 (.slice a n c) n (wcells l) → Calls Try.prog 12 #[.agg #[.int .u8 (k : Int), .int .i64 t, .slice a n c, .string (str S)]] w fun e w' => ∃ v, e = .returned (.tuple #[v, .int .i64 E]) ∧ Own w' w.heap.size 1 v N (bvs Q) ∧ Below w.heap.size w w') := by
    intro a c w hl
    have := write_p K t a n c l S w hl (by omega) m HM.out (by omega) Q N E HQ
    rw [HK.out] at this
    exact this
  obtain ⟨s, hs⟩ : ∃ s, s = decide (S = []) := ⟨_, rfl⟩
  have HS := Lib.hid hs
  have hse : (str S).toList.isEmpty = s := by
    rw [ByteArray.toList_eq, str_toList, hs]
    cases S <;> simp
  clear hs
  obtain ⟨F, hF⟩ : ∃ F, F = fineK k t n s := ⟨_, rfl⟩
  have HF := Lib.hid hF
  clear hF
  have c0 := hr1.cell 0
  have c1 := hr1.cell 1
  have c2 := hr1.cell 2
  have c3 := hr1.cell 3
  simp only [List.getElem?_cons_zero, List.getElem?_cons_succ] at c0 c1 c2 c3
  go_upto_block 0 with fail
  go_cut [4] from 9 (fun v4 w' => v4 = .bool F ∧ w' = w1)
  case first =>
    by_cases k1 : k = 1
    · subst k1
      cases s with
      | false =>
        have hF : F = false := by rw [HF.out]; simp [fineK]
        by_cases h1 : (2 : Int) ≤ n
        · go_wp2_with fail
          go_meet
          case rel => exact ⟨by rw [hF], rfl⟩
        · go_wp2_with fail
          go_meet
          case rel => exact ⟨by rw [hF], rfl⟩
      | true =>
        by_cases h1 : (2 : Int) ≤ n
        · by_cases h2 : t = 0
          · have hF : F = true := by rw [HF.out]; simp [fineK, h2]; omega
            subst h2
            go_wp2_with fail
            go_meet
            case rel => exact ⟨by rw [hF], rfl⟩
          · have hF : F = false := by rw [HF.out]; simp [fineK, h2]
            have h2' : (t == 0) = false := by rw [beq_eq_false_iff_ne]; exact h2
            go_wp2_with fail
            go_meet
            case rel => exact ⟨by rw [hF], rfl⟩
        · have hF : F = false := by rw [HF.out]; simp [fineK]; omega
          go_wp2_with fail
          go_meet
          case rel => exact ⟨by rw [hF], rfl⟩
    have k1' : ((k : Int) == 1) = false := by rw [beq_eq_false_iff_ne]; omega
    by_cases k2 : k = 2
    · subst k2
      cases s with
      | false =>
        have hF : F = false := by rw [HF.out]; simp [fineK]
        by_cases h1 : (n : Int) ≤ 1
        · go_wp2_with fail
          go_meet
          case rel => exact ⟨by rw [hF], rfl⟩
        · go_wp2_with fail
          go_meet
          case rel => exact ⟨by rw [hF], rfl⟩
      | true =>
        by_cases h1 : (n : Int) ≤ 1
        · by_cases h2 : 0 ≤ t
          · by_cases h3 : t < 65536
            · have hF : F = true := by rw [HF.out]; simp [fineK, h2, h3]; omega
              go_wp2_with fail
              go_meet
              case rel => exact ⟨by rw [hF], rfl⟩
            · have hF : F = false := by rw [HF.out]; simp [fineK, h3]
              go_wp2_with fail
              go_meet
              case rel => exact ⟨by rw [hF], rfl⟩
          · have hF : F = false := by rw [HF.out]; simp [fineK, h2]
            go_wp2_with fail
            go_meet
            case rel => exact ⟨by rw [hF], rfl⟩
        · have hF : F = false := by rw [HF.out]; simp [fineK]; omega
          go_wp2_with fail
          go_meet
          case rel => exact ⟨by rw [hF], rfl⟩
    have k2' : ((k : Int) == 2) = false := by rw [beq_eq_false_iff_ne]; omega
    by_cases k3 : k = 3
    · subst k3
      by_cases h1 : n = 1
      · subst h1
        cases s with
        | false =>
          have hF : F = false := by rw [HF.out]; simp [fineK]
          go_wp2_with fail
          go_meet
          case rel => exact ⟨by rw [hF], rfl⟩
        | true =>
          by_cases h2 : t = 0
          · have hF : F = true := by rw [HF.out]; simp [fineK, h2]
            subst h2
            go_wp2_with fail
            go_meet
            case rel => exact ⟨by rw [hF], rfl⟩
          · have hF : F = false := by rw [HF.out]; simp [fineK, h2]
            have h2' : (t == 0) = false := by rw [beq_eq_false_iff_ne]; exact h2
            go_wp2_with fail
            go_meet
            case rel => exact ⟨by rw [hF], rfl⟩
      · have hF : F = false := by rw [HF.out]; simp [fineK, h1]
        have h1' : ((n : Int) == 1) = false := by rw [beq_eq_false_iff_ne]; omega
        go_wp2_with fail
        go_meet
        case rel => exact ⟨by rw [hF], rfl⟩
    have k3' : ((k : Int) == 3) = false := by rw [beq_eq_false_iff_ne]; omega
    by_cases k4 : k = 4
    · subst k4
      cases s with
      | false =>
        have hF : F = false := by rw [HF.out]; simp [fineK]
        go_wp2_with fail
        go_meet
        case rel => exact ⟨by rw [hF], rfl⟩
      | true =>
        by_cases h2 : t = 0
        · have hF : F = true := by rw [HF.out]; simp [fineK, h2]
          subst h2
          go_wp2_with fail
          go_meet
          case rel => exact ⟨by rw [hF], rfl⟩
        · have hF : F = false := by rw [HF.out]; simp [fineK, h2]
          have h2' : (t == 0) = false := by rw [beq_eq_false_iff_ne]; exact h2
          go_wp2_with fail
          go_meet
          case rel => exact ⟨by rw [hF], rfl⟩
    have k4' : ((k : Int) == 4) = false := by rw [beq_eq_false_iff_ne]; omega
    by_cases k5 : k = 5
    · subst k5
      by_cases h1 : n = 0
      · subst h1
        by_cases h2 : t = 0
        · have hF : F = true := by rw [HF.out]; simp [fineK, h2]
          subst h2
          go_wp2_with fail
          go_meet
          case rel => exact ⟨by rw [hF], rfl⟩
        · have hF : F = false := by rw [HF.out]; simp [fineK, h2]
          have h2' : (t == 0) = false := by rw [beq_eq_false_iff_ne]; exact h2
          go_wp2_with fail
          go_meet
          case rel => exact ⟨by rw [hF], rfl⟩
      · have hF : F = false := by rw [HF.out]; simp [fineK, h1]
        have h1' : ((n : Int) == 0) = false := by rw [beq_eq_false_iff_ne]; omega
        go_wp2_with fail
        go_meet
        case rel => exact ⟨by rw [hF], rfl⟩
    have k5' : ((k : Int) == 5) = false := by rw [beq_eq_false_iff_ne]; omega
    have hF : F = false := by rw [HF.out]; simp [fineK, k1, k2, k3, k4, k5]
    go_wp2_with fail
    go_meet
    case rel => exact ⟨by rw [hF], rfl⟩
  case rest =>
    obtain ⟨rfl, hwc⟩ := hcut
    rw [hwc]
    clear hwc c0 c1 c2 c3
    go_wp2_with fail
    go_loopw [4, 5] (fun v4 v5 wr => ∃ (i : Nat) (d : Bool), i ≤ n ∧ v5 = .int .i64 i ∧ v4 = .bool d ∧ Hid (d = (F && !(l.take i).any wrongB)) ∧ Row wr A 24 [.int .u8 (k : Int), .int .i64 t, .slice a n c, .string (str S)] ∧ Below w.heap.size w wr) (fun _ v5 _ => n - (intOf v5).toNat)
    case atStart => exact ⟨0, F, Nat.zero_le _, rfl, rfl, Lib.hid (by simp), hr1, hB1⟩
    case round =>
      clear hr1 hl1 hB1
      obtain ⟨i, d, hi, rfl, rfl, Hd, hr2, hB2⟩ := hrel
      have c2 := hr2.cell 2
      simp only [List.getElem?_cons_zero, List.getElem?_cons_succ] at c2
      by_cases hin : i = n
      · subst hin
        have hd : d = mayO K t l S := by
          rw [Hd.out, List.take_of_length_le (by rw [HN.out]; exact Nat.le_refl _), mayO, fineK_may, HF.out, HS.out, HK.out, HN.out]
        have HE : Hid ((d = false → E = 1) ∧ (d = true → 8192 < 5 + 9 * i + m → E = 6) ∧ (d = true → ¬ 8192 < 5 + 9 * i + m → E = 0)) := by
          have e := HQ.out.2.2
          rw [wrE, ← hd, HN.out, HM.out] at e
          refine ⟨fun h => ?_, fun h h2 => ?_, fun h h2 => ?_⟩
          · rw [e, if_pos h]
          · rw [e, if_neg (by rw [h]; decide), if_pos h2]
          · rw [e, if_neg (by rw [h]; decide), if_neg h2]
        clear hd Hd HQ c2
        go_upto_region 27 with (refine wpL_loadRow rfl _ _ rfl rfl hr2 Try.underlying24 rfl (by kernel_rfl) ?_)
        refine (HW.out a c wr (hl.below hB2)).mono ?_
        rintro e w3 ⟨v3, rfl, ho3, hb3⟩
        obtain ⟨a3, c3, rfl⟩ := ho3.form
        have hr3 := hr2.after hb3
        have hB3 := hB2.trans (hb3.mono hB2.size)
        have p3 := hr3.cell 3
        simp only [List.getElem?_cons_zero, List.getElem?_cons_succ] at p3
        clear hr2 hB2 hb3 ho3 HW
        cases d with
        | false =>
          obtain rfl := HE.out.1 rfl
          go_wp2_with fail
          refine (works_any w3).mono ?_
          rintro e wZ ⟨rfl, hbZ⟩
          go_wp2_with fail
          go_ret
          exact ⟨rfl, (hB3).trans (hbZ.mono (hB3).size)⟩
        | true =>
          by_cases hbig : 8192 < 5 + 9 * i + m
          · obtain rfl := HE.out.2.1 rfl hbig
            have hbi : (8192 : Int) < 5 + 9 * (i : Int) + (m : Int) := by omega
            go_wp2_with fail
            refine (works_any w3).mono ?_
            rintro e wZ ⟨rfl, hbZ⟩
            go_wp2_with fail
            go_ret
            exact ⟨rfl, (hB3).trans (hbZ.mono (hB3).size)⟩
          · obtain rfl := HE.out.2.2 rfl hbig
            have hbi : ¬ (8192 : Int) < 5 + 9 * (i : Int) + (m : Int) := by omega
            go_wp2_with fail
            refine (works_any w3).mono ?_
            rintro e wZ ⟨rfl, hbZ⟩
            go_wp2_with fail
            go_ret
            exact ⟨rfl, (hB3).trans (hbZ.mono (hB3).size)⟩
      · have hlt : i < n := by omega
        have hlt' : (i : Int) < n := by omega
        obtain ⟨b1, o1, rfl, p1, p2⟩ := (hl.below hB2).word hlt
        have HT : Hid ((l.take (i + 1)).any wrongB = ((l.take i).any wrongB || wrongB (l.getD i (0, 0)))) := any_take_succ _ _ _ _ (by rw [HN.out]; exact hlt)
        have HB : Hid (wrongB (l.getD i (0, 0)) = wrongN (l.getD i (0, 0)).1.toNat (l.getD i (0, 0)).2) := rfl
        generalize (l.getD i (0, 0)).1.toNat = q at p1 HB
        generalize (l.getD i (0, 0)).2 = z at p2 HB
        generalize wrongB (l.getD i (0, 0)) = B at HB HT
        have hnew : ∀ d' : Bool, d' = (d && !B) → Hid (d' = (F && !(l.take (i + 1)).any wrongB)) := by
          intro d' h
          show _ = _
          rw [h, HT.out, Hd.out]
          cases F <;> cases (l.take i).any wrongB <;> cases B <;> rfl
        have HNEW := Lib.hid hnew
        have hb3 : Below w.heap.size w (wr.alloc (.cells #[.int .u8 (q : Int), .int .i64 z] 44)) := hB2.alloc hB2.size _
        have hr3 := hr2.alloc (.cells #[.int .u8 (q : Int), .int .i64 z] 44)
        clear hnew Hd HT
        by_cases q1 : q = 1
        · subst q1
          cases d with
          | false =>
            go_wp2_with fail
            exact ⟨⟨i + 1, false, by omega, by go_num, rfl, HNEW.out _ (by simp), hr3, hb3⟩, by simp [intOf]; omega⟩
          | true =>
            by_cases h1 : z ≤ 4611686018427387903
            · by_cases h2 : -4611686018427387904 ≤ z
              · go_wp2_with fail
                refine ⟨⟨i + 1, true, by omega, by go_num, rfl, HNEW.out _ ?_, hr3, hb3⟩, by simp [intOf]; omega⟩
                rw [HB.out]; simp [wrongN]; omega
              · go_wp2_with fail
                refine ⟨⟨i + 1, false, by omega, by go_num, rfl, HNEW.out _ ?_, hr3, hb3⟩, by simp [intOf]; omega⟩
                rw [HB.out]; simp [wrongN]; omega
            · go_wp2_with fail
              refine ⟨⟨i + 1, false, by omega, by go_num, rfl, HNEW.out _ ?_, hr3, hb3⟩, by simp [intOf]; omega⟩
              rw [HB.out]; simp [wrongN]; omega
        have q1' : ((q : Int) == 1) = false := by rw [beq_eq_false_iff_ne]; omega
        by_cases q2 : q = 2
        · subst q2
          cases d with
          | false =>
            go_wp2_with fail
            exact ⟨⟨i + 1, false, by omega, by go_num, rfl, HNEW.out _ (by simp), hr3, hb3⟩, by simp [intOf]; omega⟩
          | true =>
            by_cases h1 : 1 ≤ z
            · by_cases h2 : z ≤ 16384
              · go_wp2_with fail
                refine ⟨⟨i + 1, true, by omega, by go_num, rfl, HNEW.out _ ?_, hr3, hb3⟩, by simp [intOf]; omega⟩
                rw [HB.out]; simp [wrongN]; omega
              · go_wp2_with fail
                refine ⟨⟨i + 1, false, by omega, by go_num, rfl, HNEW.out _ ?_, hr3, hb3⟩, by simp [intOf]; omega⟩
                rw [HB.out]; simp [wrongN]; omega
            · go_wp2_with fail
              refine ⟨⟨i + 1, false, by omega, by go_num, rfl, HNEW.out _ ?_, hr3, hb3⟩, by simp [intOf]; omega⟩
              rw [HB.out]; simp [wrongN]; omega
        have q2' : ((q : Int) == 2) = false := by rw [beq_eq_false_iff_ne]; omega
        go_wp2_with fail
        refine ⟨⟨i + 1, false, by omega, by go_num, rfl, HNEW.out _ ?_, hr3, hb3⟩, by simp [intOf]; omega⟩
        rw [HB.out, wrongN, if_neg q1, if_neg q2]; simp
theorem recordMay_top (cs : Array Value) (d : UInt8 × Int × List (UInt8 × Int) × List UInt8) (w : World) (h : VObj w cs.toList d) : Calls Try.prog 7 #[.agg cs] w fun e w' => e = .returned (.bool true) ∧ Below w.heap.size w w' := by
  obtain ⟨K, t, a, n, c, l, S, rfl, hl, hS⟩ := obj_open h
  exact recordMay_walk K t a n c l S w hl _ rfl hS
end Go.Proofs.Ytgcohalmfigjpaa
