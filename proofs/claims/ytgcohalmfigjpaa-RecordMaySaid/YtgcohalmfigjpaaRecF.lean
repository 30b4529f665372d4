/-
  The document's May, walked.
-/
import Derived.Test.YtgcohalmfigjpaaRecE
namespace Go.Proofs.Ytgcohalmfigjpaa
open Go.RowKit
set_option linter.unusedVariables false
set_option linter.unusedSimpArgs false

set_option maxRecDepth 100000 in
set_option maxHeartbeats 4000000 in
theorem rmay_p (k : Nat) (t : Int) (a : Option Addr) (n c : Nat) (l : List (UInt8 × Int)) (S : List UInt8) (w : World) (hl : Sl w 2 (.slice a n c) n (wcells l)) (X : Bool) (H : Hid (X = mayN k t n (l.any wrongB) (decide (S = [])))) :
    Calls Try.prog 25 #[.agg #[.int .u8 (k : Int), .int .i64 t, .slice a n c, .string (str S)]] w fun e w' => e = .returned (.bool X) ∧ Below w.heap.size w w' := by
  have HN := Lib.hid hl.wordLen.1
  have hn9 := hl.wordLen.2
  obtain ⟨B, hB⟩ : ∃ B, B = l.any wrongB := ⟨_, rfl⟩
  have HM : Hid (X = (cntOk k n && !B && (decide (k = 5) || decide (S = [])) && (if k = 2 then decide (0 ≤ t ∧ t < 65536) else decide (t = 0)))) := by
    show _ = _
    rw [hB, ← mayN_cnt]; exact H.out
  have HB := Lib.hid hB
  clear hB H
  go_enter Try.func25, Try.ntmps25
  have hb1 : Below w.heap.size w (w.alloc (.cells #[.int .u8 (k : Int), .int .i64 t, .slice a n c, .string (str S)] 24)) := (Below.refl _ _).alloc (Nat.le_refl _) _
  have hr1 := Row.new w [.int .u8 (k : Int), .int .i64 t, .slice a n c, .string (str S)] 24
  have hlt1 := hr1.lt
  by_cases k1 : k = 1
  · subst k1
    by_cases h2 : n < 2
    · have hc : cntOk 1 n = false := by simp [cntOk]; omega
      have h2' : (n : Int) < 2 := by omega
      go_wp2_with fail
      go_ret
      have e9 : X = false := by rw [HM.out]; simp [hc]
      rw [e9]
      exact ⟨rfl, hb1⟩
    · have hc : cntOk 1 n = true := by simp [cntOk]; omega
      have h2' : ¬ (n : Int) < 2 := by omega
      by_cases hS : S = []
      · have hS1 : (str S).toList.isEmpty = true := by rw [ByteArray.toList_eq, str_toList, hS]; rfl
        have HS := Lib.hid hS
        clear hS
        by_cases t0 : t = 0
        · subst t0
          have HX1 : Hid (X = !B) := by show _ = _; rw [HM.out]; simp [hc, HS.out]
          go_wp2_with fail
          go_loopw [4, 5, 57, 58, 59, 60, 61, 62, 63, 64, 65, 66, 67, 68, 69, 70, 71, 72, 73, 74, 75, 76, 77, 78, 79, 80, 81, 82, 83, 84, 85, 86, 87, 88] (fun v4 v5 v57 v58 v59 v60 v61 v62 v63 v64 v65 v66 v67 v68 v69 v70 v71 v72 v73 v74 v75 v76 v77 v78 v79 v80 v81 v82 v83 v84 v85 v86 v87 v88 wr => ∃ i : Nat, i ≤ n ∧ v4 = .int .i64 i ∧ Below ((w.alloc (.cells #[.int .u8 (((1 : Nat)) : Int), .int .i64 0, .slice a n c, .string (str S)] 24))).heap.size (w.alloc (.cells #[.int .u8 (((1 : Nat)) : Int), .int .i64 0, .slice a n c, .string (str S)] 24)) wr ∧ Hid ((l.take i).any wrongB = false)) (fun v4 _ _ _ _ _ _ _ _ _ _ _ _ _ _ _ _ _ _ _ _ _ _ _ _ _ _ _ _ _ _ _ _ _ _ => n - (intOf v4).toNat)
          case atStart => exact ⟨0, Nat.zero_le _, rfl, Below.refl _ _, Lib.hid (by simp)⟩
          case round =>
            obtain ⟨i, hi, rfl, hb, HT⟩ := hrel
            have hBB := hb1.trans (hb.mono hb1.size)
            by_cases hin : i = n
            · subst hin
              go_wp2_with fail
              go_ret
              have e9 : X = true := by
                have e8 := HT.out
                rw [List.take_of_length_le (by rw [HN.out]; exact Nat.le_refl _)] at e8
                rw [HX1.out, HB.out, e8]; rfl
              rw [e9]
              exact ⟨rfl, hBB⟩
            · have hlt : i < n := by omega
              have hlt' : (i : Int) < n := by omega
              obtain ⟨b1, o1, rfl, hc1, hc2⟩ := (hl.below hBB).word hlt
              have HT1 : Hid ((l.take (i + 1)).any wrongB = ((l.take i).any wrongB || wrongB (l.getD i (0, 0)))) := any_take_succ _ _ _ _ (by rw [HN.out]; exact hlt)
              have HA : Hid (wrongB (l.getD i (0, 0)) = true → l.any wrongB = true) := any_of_take _ _ _ _ (by rw [HN.out]; exact hlt)
              have HW : Hid (wrongB (l.getD i (0, 0)) = wrongN (l.getD i (0, 0)).1.toNat (l.getD i (0, 0)).2) := rfl
              generalize (l.getD i (0, 0)).1.toNat = q at hc1 HW
              generalize (l.getD i (0, 0)).2 = z at hc2 HW
              generalize wrongB (l.getD i (0, 0)) = Y at HW HT1 HA
              have d2 := (hr1.below hb hlt1).cell 2
              simp only [List.getElem?_cons_zero, List.getElem?_cons_succ] at d2
              have hb6 : Below wr.heap.size wr (wr.alloc (.cells #[.int .u8 (q : Int), .int .i64 z] 44)) := (Below.refl _ _).alloc (Nat.le_refl _) _
              have hb7 := hb.trans (hb6.mono hb.size)
              have hb8 := hBB.trans (hb6.mono hBB.size)
              by_cases k1 : q = 1
              · subst k1
                by_cases h1 : z < -4611686018427387904
                · go_wp2_with fail
                  go_ret
                  have e9 : X = false := by
                    have e8 : Y = true := by rw [HW.out]; simp [wrongN]; first | omega | simp [k1, k2] | simp_all
                    rw [HX1.out, HB.out, HA.out e8]; rfl
                  rw [e9]
                  exact ⟨rfl, hb8⟩
                · by_cases h2 : 4611686018427387903 < z
                  · go_wp2_with fail
                    go_ret
                    have e9 : X = false := by
                      have e8 : Y = true := by rw [HW.out]; simp [wrongN]; first | omega | simp [k1, k2] | simp_all
                      rw [HX1.out, HB.out, HA.out e8]; rfl
                    rw [e9]
                    exact ⟨rfl, hb8⟩
                  · go_wp2_with fail
                    have e8 : Y = false := by rw [HW.out]; simp [wrongN]; omega
                    exact ⟨⟨i + 1, by omega, by go_num, hb7, Lib.hid (by rw [HT1.out, HT.out, e8]; rfl)⟩, by simp [intOf]; omega⟩
              · have e1 : ((q : Int) == 1) = false := by rw [beq_eq_false_iff_ne]; omega
                by_cases k2 : q = 2
                · subst k2
                  by_cases h1 : z < 1
                  · go_wp2_with fail
                    go_ret
                    have e9 : X = false := by
                      have e8 : Y = true := by rw [HW.out]; simp [wrongN]; first | omega | simp [k1, k2] | simp_all
                      rw [HX1.out, HB.out, HA.out e8]; rfl
                    rw [e9]
                    exact ⟨rfl, hb8⟩
                  · by_cases h2 : 16384 < z
                    · go_wp2_with fail
                      go_ret
                      have e9 : X = false := by
                        have e8 : Y = true := by rw [HW.out]; simp [wrongN]; first | omega | simp [k1, k2] | simp_all
                        rw [HX1.out, HB.out, HA.out e8]; rfl
                      rw [e9]
                      exact ⟨rfl, hb8⟩
                    · go_wp2_with fail
                      have e8 : Y = false := by rw [HW.out]; simp [wrongN]; omega
                      exact ⟨⟨i + 1, by omega, by go_num, hb7, Lib.hid (by rw [HT1.out, HT.out, e8]; rfl)⟩, by simp [intOf]; omega⟩
                · have e2 : ((q : Int) == 2) = false := by rw [beq_eq_false_iff_ne]; omega
                  go_wp2_with fail
                  go_ret
                  have e9 : X = false := by
                    have e8 : Y = true := by rw [HW.out]; simp [wrongN]; first | omega | simp [k1, k2] | simp_all
                    rw [HX1.out, HB.out, HA.out e8]; rfl
                  rw [e9]
                  exact ⟨rfl, hb8⟩
        · have t0' : (t != 0) = true := by rw [bne_iff_ne]; exact t0
          go_wp2_with fail
          go_ret
          have e9 : X = false := by rw [HM.out]; simp [t0]
          rw [e9]
          exact ⟨rfl, hb1⟩
      · have hS1 : (str S).toList.isEmpty = false := by rw [ByteArray.toList_eq, str_toList, List.isEmpty_eq_false_iff]; exact hS
        go_wp2_with fail
        go_ret
        have e9 : X = false := by rw [HM.out]; simp [hS]
        rw [e9]
        exact ⟨rfl, hb1⟩
  have e1 : ((k : Int) == 1) = false := by rw [beq_eq_false_iff_ne]; omega
  by_cases k2 : k = 2
  · subst k2
    by_cases h2 : 1 < n
    · have hc : cntOk 2 n = false := by simp [cntOk]; omega
      have h2' : 1 < (n : Int) := by omega
      go_wp2_with fail
      go_ret
      have e9 : X = false := by rw [HM.out]; simp [hc]
      rw [e9]
      exact ⟨rfl, hb1⟩
    · have hc : cntOk 2 n = true := by simp [cntOk]; omega
      have h2' : ¬ 1 < (n : Int) := by omega
      by_cases hS : S = []
      · have hS1 : (str S).toList.isEmpty = true := by rw [ByteArray.toList_eq, str_toList, hS]; rfl
        have HS := Lib.hid hS
        clear hS
        by_cases t1 : t < 0
        · have ht : ¬ (0 ≤ t ∧ t < 65536) := by omega
          go_wp2_with fail
          go_ret
          have e9 : X = false := by rw [HM.out]; simp [ht]
          rw [e9]
          exact ⟨rfl, hb1⟩
        · by_cases t2 : 65535 < t
          · have ht : ¬ (0 ≤ t ∧ t < 65536) := by omega
            go_wp2_with fail
            go_ret
            have e9 : X = false := by rw [HM.out]; simp [ht]
            rw [e9]
            exact ⟨rfl, hb1⟩
          · have ht : 0 ≤ t ∧ t < 65536 := by omega
            have HX1 : Hid (X = !B) := by show _ = _; rw [HM.out]; simp [hc, HS.out, ht]
            clear ht
            go_wp2_with fail
            go_loopw [4, 5, 57, 58, 59, 60, 61, 62, 63, 64, 65, 66, 67, 68, 69, 70, 71, 72, 73, 74, 75, 76, 77, 78, 79, 80, 81, 82, 83, 84, 85, 86, 87, 88] (fun v4 v5 v57 v58 v59 v60 v61 v62 v63 v64 v65 v66 v67 v68 v69 v70 v71 v72 v73 v74 v75 v76 v77 v78 v79 v80 v81 v82 v83 v84 v85 v86 v87 v88 wr => ∃ i : Nat, i ≤ n ∧ v4 = .int .i64 i ∧ Below ((w.alloc (.cells #[.int .u8 (((2 : Nat)) : Int), .int .i64 t, .slice a n c, .string (str S)] 24))).heap.size (w.alloc (.cells #[.int .u8 (((2 : Nat)) : Int), .int .i64 t, .slice a n c, .string (str S)] 24)) wr ∧ Hid ((l.take i).any wrongB = false)) (fun v4 _ _ _ _ _ _ _ _ _ _ _ _ _ _ _ _ _ _ _ _ _ _ _ _ _ _ _ _ _ _ _ _ _ _ => n - (intOf v4).toNat)
            case atStart => exact ⟨0, Nat.zero_le _, rfl, Below.refl _ _, Lib.hid (by simp)⟩
            case round =>
              obtain ⟨i, hi, rfl, hb, HT⟩ := hrel
              have hBB := hb1.trans (hb.mono hb1.size)
              by_cases hin : i = n
              · subst hin
                go_wp2_with fail
                go_ret
                have e9 : X = true := by
                  have e8 := HT.out
                  rw [List.take_of_length_le (by rw [HN.out]; exact Nat.le_refl _)] at e8
                  rw [HX1.out, HB.out, e8]; rfl
                rw [e9]
                exact ⟨rfl, hBB⟩
              · have hlt : i < n := by omega
                have hlt' : (i : Int) < n := by omega
                obtain ⟨b1, o1, rfl, hc1, hc2⟩ := (hl.below hBB).word hlt
                have HT1 : Hid ((l.take (i + 1)).any wrongB = ((l.take i).any wrongB || wrongB (l.getD i (0, 0)))) := any_take_succ _ _ _ _ (by rw [HN.out]; exact hlt)
                have HA : Hid (wrongB (l.getD i (0, 0)) = true → l.any wrongB = true) := any_of_take _ _ _ _ (by rw [HN.out]; exact hlt)
                have HW : Hid (wrongB (l.getD i (0, 0)) = wrongN (l.getD i (0, 0)).1.toNat (l.getD i (0, 0)).2) := rfl
                generalize (l.getD i (0, 0)).1.toNat = q at hc1 HW
                generalize (l.getD i (0, 0)).2 = z at hc2 HW
                generalize wrongB (l.getD i (0, 0)) = Y at HW HT1 HA
                have d2 := (hr1.below hb hlt1).cell 2
                simp only [List.getElem?_cons_zero, List.getElem?_cons_succ] at d2
                have hb6 : Below wr.heap.size wr (wr.alloc (.cells #[.int .u8 (q : Int), .int .i64 z] 44)) := (Below.refl _ _).alloc (Nat.le_refl _) _
                have hb7 := hb.trans (hb6.mono hb.size)
                have hb8 := hBB.trans (hb6.mono hBB.size)
                by_cases k1 : q = 1
                · subst k1
                  by_cases h1 : z < -4611686018427387904
                  · go_wp2_with fail
                    go_ret
                    have e9 : X = false := by
                      have e8 : Y = true := by rw [HW.out]; simp [wrongN]; first | omega | simp [k1, k2] | simp_all
                      rw [HX1.out, HB.out, HA.out e8]; rfl
                    rw [e9]
                    exact ⟨rfl, hb8⟩
                  · by_cases h2 : 4611686018427387903 < z
                    · go_wp2_with fail
                      go_ret
                      have e9 : X = false := by
                        have e8 : Y = true := by rw [HW.out]; simp [wrongN]; first | omega | simp [k1, k2] | simp_all
                        rw [HX1.out, HB.out, HA.out e8]; rfl
                      rw [e9]
                      exact ⟨rfl, hb8⟩
                    · go_wp2_with fail
                      have e8 : Y = false := by rw [HW.out]; simp [wrongN]; omega
                      exact ⟨⟨i + 1, by omega, by go_num, hb7, Lib.hid (by rw [HT1.out, HT.out, e8]; rfl)⟩, by simp [intOf]; omega⟩
                · have e1 : ((q : Int) == 1) = false := by rw [beq_eq_false_iff_ne]; omega
                  by_cases k2 : q = 2
                  · subst k2
                    by_cases h1 : z < 1
                    · go_wp2_with fail
                      go_ret
                      have e9 : X = false := by
                        have e8 : Y = true := by rw [HW.out]; simp [wrongN]; first | omega | simp [k1, k2] | simp_all
                        rw [HX1.out, HB.out, HA.out e8]; rfl
                      rw [e9]
                      exact ⟨rfl, hb8⟩
                    · by_cases h2 : 16384 < z
                      · go_wp2_with fail
                        go_ret
                        have e9 : X = false := by
                          have e8 : Y = true := by rw [HW.out]; simp [wrongN]; first | omega | simp [k1, k2] | simp_all
                          rw [HX1.out, HB.out, HA.out e8]; rfl
                        rw [e9]
                        exact ⟨rfl, hb8⟩
                      · go_wp2_with fail
                        have e8 : Y = false := by rw [HW.out]; simp [wrongN]; omega
                        exact ⟨⟨i + 1, by omega, by go_num, hb7, Lib.hid (by rw [HT1.out, HT.out, e8]; rfl)⟩, by simp [intOf]; omega⟩
                  · have e2 : ((q : Int) == 2) = false := by rw [beq_eq_false_iff_ne]; omega
                    go_wp2_with fail
                    go_ret
                    have e9 : X = false := by
                      have e8 : Y = true := by rw [HW.out]; simp [wrongN]; first | omega | simp [k1, k2] | simp_all
                      rw [HX1.out, HB.out, HA.out e8]; rfl
                    rw [e9]
                    exact ⟨rfl, hb8⟩
      · have hS1 : (str S).toList.isEmpty = false := by rw [ByteArray.toList_eq, str_toList, List.isEmpty_eq_false_iff]; exact hS
        go_wp2_with fail
        go_ret
        have e9 : X = false := by rw [HM.out]; simp [hS]
        rw [e9]
        exact ⟨rfl, hb1⟩
  have e2 : ((k : Int) == 2) = false := by rw [beq_eq_false_iff_ne]; omega
  by_cases k3 : k = 3
  · subst k3
    by_cases h2 : n ≠ 1
    · have hc : cntOk 3 n = false := by simp [cntOk]; omega
      have h2' : ((n : Int) != 1) = true := by simp; omega
      go_wp2_with fail
      go_ret
      have e9 : X = false := by rw [HM.out]; simp [hc]
      rw [e9]
      exact ⟨rfl, hb1⟩
    · have hc : cntOk 3 n = true := by simp [cntOk]; omega
      have h2' : ((n : Int) != 1) = false := by simp; omega
      by_cases hS : S = []
      · have hS1 : (str S).toList.isEmpty = true := by rw [ByteArray.toList_eq, str_toList, hS]; rfl
        have HS := Lib.hid hS
        clear hS
        by_cases t0 : t = 0
        · subst t0
          have HX1 : Hid (X = !B) := by show _ = _; rw [HM.out]; simp [hc, HS.out]
          go_wp2_with fail
          go_loopw [4, 5, 57, 58, 59, 60, 61, 62, 63, 64, 65, 66, 67, 68, 69, 70, 71, 72, 73, 74, 75, 76, 77, 78, 79, 80, 81, 82, 83, 84, 85, 86, 87, 88] (fun v4 v5 v57 v58 v59 v60 v61 v62 v63 v64 v65 v66 v67 v68 v69 v70 v71 v72 v73 v74 v75 v76 v77 v78 v79 v80 v81 v82 v83 v84 v85 v86 v87 v88 wr => ∃ i : Nat, i ≤ n ∧ v4 = .int .i64 i ∧ Below ((w.alloc (.cells #[.int .u8 (((3 : Nat)) : Int), .int .i64 0, .slice a n c, .string (str S)] 24))).heap.size (w.alloc (.cells #[.int .u8 (((3 : Nat)) : Int), .int .i64 0, .slice a n c, .string (str S)] 24)) wr ∧ Hid ((l.take i).any wrongB = false)) (fun v4 _ _ _ _ _ _ _ _ _ _ _ _ _ _ _ _ _ _ _ _ _ _ _ _ _ _ _ _ _ _ _ _ _ _ => n - (intOf v4).toNat)
          case atStart => exact ⟨0, Nat.zero_le _, rfl, Below.refl _ _, Lib.hid (by simp)⟩
          case round =>
            obtain ⟨i, hi, rfl, hb, HT⟩ := hrel
            have hBB := hb1.trans (hb.mono hb1.size)
            by_cases hin : i = n
            · subst hin
              go_wp2_with fail
              go_ret
              have e9 : X = true := by
                have e8 := HT.out
                rw [List.take_of_length_le (by rw [HN.out]; exact Nat.le_refl _)] at e8
                rw [HX1.out, HB.out, e8]; rfl
              rw [e9]
              exact ⟨rfl, hBB⟩
            · have hlt : i < n := by omega
              have hlt' : (i : Int) < n := by omega
              obtain ⟨b1, o1, rfl, hc1, hc2⟩ := (hl.below hBB).word hlt
              have HT1 : Hid ((l.take (i + 1)).any wrongB = ((l.take i).any wrongB || wrongB (l.getD i (0, 0)))) := any_take_succ _ _ _ _ (by rw [HN.out]; exact hlt)
              have HA : Hid (wrongB (l.getD i (0, 0)) = true → l.any wrongB = true) := any_of_take _ _ _ _ (by rw [HN.out]; exact hlt)
              have HW : Hid (wrongB (l.getD i (0, 0)) = wrongN (l.getD i (0, 0)).1.toNat (l.getD i (0, 0)).2) := rfl
              generalize (l.getD i (0, 0)).1.toNat = q at hc1 HW
              generalize (l.getD i (0, 0)).2 = z at hc2 HW
              generalize wrongB (l.getD i (0, 0)) = Y at HW HT1 HA
              have d2 := (hr1.below hb hlt1).cell 2
              simp only [List.getElem?_cons_zero, List.getElem?_cons_succ] at d2
              have hb6 : Below wr.heap.size wr (wr.alloc (.cells #[.int .u8 (q : Int), .int .i64 z] 44)) := (Below.refl _ _).alloc (Nat.le_refl _) _
              have hb7 := hb.trans (hb6.mono hb.size)
              have hb8 := hBB.trans (hb6.mono hBB.size)
              by_cases k1 : q = 1
              · subst k1
                by_cases h1 : z < -4611686018427387904
                · go_wp2_with fail
                  go_ret
                  have e9 : X = false := by
                    have e8 : Y = true := by rw [HW.out]; simp [wrongN]; first | omega | simp [k1, k2] | simp_all
                    rw [HX1.out, HB.out, HA.out e8]; rfl
                  rw [e9]
                  exact ⟨rfl, hb8⟩
                · by_cases h2 : 4611686018427387903 < z
                  · go_wp2_with fail
                    go_ret
                    have e9 : X = false := by
                      have e8 : Y = true := by rw [HW.out]; simp [wrongN]; first | omega | simp [k1, k2] | simp_all
                      rw [HX1.out, HB.out, HA.out e8]; rfl
                    rw [e9]
                    exact ⟨rfl, hb8⟩
                  · go_wp2_with fail
                    have e8 : Y = false := by rw [HW.out]; simp [wrongN]; omega
                    exact ⟨⟨i + 1, by omega, by go_num, hb7, Lib.hid (by rw [HT1.out, HT.out, e8]; rfl)⟩, by simp [intOf]; omega⟩
              · have e1 : ((q : Int) == 1) = false := by rw [beq_eq_false_iff_ne]; omega
                by_cases k2 : q = 2
                · subst k2
                  by_cases h1 : z < 1
                  · go_wp2_with fail
                    go_ret
                    have e9 : X = false := by
                      have e8 : Y = true := by rw [HW.out]; simp [wrongN]; first | omega | simp [k1, k2] | simp_all
                      rw [HX1.out, HB.out, HA.out e8]; rfl
                    rw [e9]
                    exact ⟨rfl, hb8⟩
                  · by_cases h2 : 16384 < z
                    · go_wp2_with fail
                      go_ret
                      have e9 : X = false := by
                        have e8 : Y = true := by rw [HW.out]; simp [wrongN]; first | omega | simp [k1, k2] | simp_all
                        rw [HX1.out, HB.out, HA.out e8]; rfl
                      rw [e9]
                      exact ⟨rfl, hb8⟩
                    · go_wp2_with fail
                      have e8 : Y = false := by rw [HW.out]; simp [wrongN]; omega
                      exact ⟨⟨i + 1, by omega, by go_num, hb7, Lib.hid (by rw [HT1.out, HT.out, e8]; rfl)⟩, by simp [intOf]; omega⟩
                · have e2 : ((q : Int) == 2) = false := by rw [beq_eq_false_iff_ne]; omega
                  go_wp2_with fail
                  go_ret
                  have e9 : X = false := by
                    have e8 : Y = true := by rw [HW.out]; simp [wrongN]; first | omega | simp [k1, k2] | simp_all
                    rw [HX1.out, HB.out, HA.out e8]; rfl
                  rw [e9]
                  exact ⟨rfl, hb8⟩
        · have t0' : (t != 0) = true := by rw [bne_iff_ne]; exact t0
          go_wp2_with fail
          go_ret
          have e9 : X = false := by rw [HM.out]; simp [t0]
          rw [e9]
          exact ⟨rfl, hb1⟩
      · have hS1 : (str S).toList.isEmpty = false := by rw [ByteArray.toList_eq, str_toList, List.isEmpty_eq_false_iff]; exact hS
        go_wp2_with fail
        go_ret
        have e9 : X = false := by rw [HM.out]; simp [hS]
        rw [e9]
        exact ⟨rfl, hb1⟩
  have e3 : ((k : Int) == 3) = false := by rw [beq_eq_false_iff_ne]; omega
  by_cases k4 : k = 4
  · subst k4
    have hc : cntOk 4 n = true := by simp [cntOk]
    by_cases hS : S = []
    · have hS1 : (str S).toList.isEmpty = true := by rw [ByteArray.toList_eq, str_toList, hS]; rfl
      have HS := Lib.hid hS
      clear hS
      by_cases t0 : t = 0
      · subst t0
        have HX1 : Hid (X = !B) := by show _ = _; rw [HM.out]; simp [hc, HS.out]
        go_wp2_with fail
        go_loopw [4, 5, 57, 58, 59, 60, 61, 62, 63, 64, 65, 66, 67, 68, 69, 70, 71, 72, 73, 74, 75, 76, 77, 78, 79, 80, 81, 82, 83, 84, 85, 86, 87, 88] (fun v4 v5 v57 v58 v59 v60 v61 v62 v63 v64 v65 v66 v67 v68 v69 v70 v71 v72 v73 v74 v75 v76 v77 v78 v79 v80 v81 v82 v83 v84 v85 v86 v87 v88 wr => ∃ i : Nat, i ≤ n ∧ v4 = .int .i64 i ∧ Below ((w.alloc (.cells #[.int .u8 (((4 : Nat)) : Int), .int .i64 0, .slice a n c, .string (str S)] 24))).heap.size (w.alloc (.cells #[.int .u8 (((4 : Nat)) : Int), .int .i64 0, .slice a n c, .string (str S)] 24)) wr ∧ Hid ((l.take i).any wrongB = false)) (fun v4 _ _ _ _ _ _ _ _ _ _ _ _ _ _ _ _ _ _ _ _ _ _ _ _ _ _ _ _ _ _ _ _ _ _ => n - (intOf v4).toNat)
        case atStart => exact ⟨0, Nat.zero_le _, rfl, Below.refl _ _, Lib.hid (by simp)⟩
        case round =>
          obtain ⟨i, hi, rfl, hb, HT⟩ := hrel
          have hBB := hb1.trans (hb.mono hb1.size)
          by_cases hin : i = n
          · subst hin
            go_wp2_with fail
            go_ret
            have e9 : X = true := by
              have e8 := HT.out
              rw [List.take_of_length_le (by rw [HN.out]; exact Nat.le_refl _)] at e8
              rw [HX1.out, HB.out, e8]; rfl
            rw [e9]
            exact ⟨rfl, hBB⟩
          · have hlt : i < n := by omega
            have hlt' : (i : Int) < n := by omega
            obtain ⟨b1, o1, rfl, hc1, hc2⟩ := (hl.below hBB).word hlt
            have HT1 : Hid ((l.take (i + 1)).any wrongB = ((l.take i).any wrongB || wrongB (l.getD i (0, 0)))) := any_take_succ _ _ _ _ (by rw [HN.out]; exact hlt)
            have HA : Hid (wrongB (l.getD i (0, 0)) = true → l.any wrongB = true) := any_of_take _ _ _ _ (by rw [HN.out]; exact hlt)
            have HW : Hid (wrongB (l.getD i (0, 0)) = wrongN (l.getD i (0, 0)).1.toNat (l.getD i (0, 0)).2) := rfl
            generalize (l.getD i (0, 0)).1.toNat = q at hc1 HW
            generalize (l.getD i (0, 0)).2 = z at hc2 HW
            generalize wrongB (l.getD i (0, 0)) = Y at HW HT1 HA
            have d2 := (hr1.below hb hlt1).cell 2
            simp only [List.getElem?_cons_zero, List.getElem?_cons_succ] at d2
            have hb6 : Below wr.heap.size wr (wr.alloc (.cells #[.int .u8 (q : Int), .int .i64 z] 44)) := (Below.refl _ _).alloc (Nat.le_refl _) _
            have hb7 := hb.trans (hb6.mono hb.size)
            have hb8 := hBB.trans (hb6.mono hBB.size)
            by_cases k1 : q = 1
            · subst k1
              by_cases h1 : z < -4611686018427387904
              · go_wp2_with fail
                go_ret
                have e9 : X = false := by
                  have e8 : Y = true := by rw [HW.out]; simp [wrongN]; first | omega | simp [k1, k2] | simp_all
                  rw [HX1.out, HB.out, HA.out e8]; rfl
                rw [e9]
                exact ⟨rfl, hb8⟩
              · by_cases h2 : 4611686018427387903 < z
                · go_wp2_with fail
                  go_ret
                  have e9 : X = false := by
                    have e8 : Y = true := by rw [HW.out]; simp [wrongN]; first | omega | simp [k1, k2] | simp_all
                    rw [HX1.out, HB.out, HA.out e8]; rfl
                  rw [e9]
                  exact ⟨rfl, hb8⟩
                · go_wp2_with fail
                  have e8 : Y = false := by rw [HW.out]; simp [wrongN]; omega
                  exact ⟨⟨i + 1, by omega, by go_num, hb7, Lib.hid (by rw [HT1.out, HT.out, e8]; rfl)⟩, by simp [intOf]; omega⟩
            · have e1 : ((q : Int) == 1) = false := by rw [beq_eq_false_iff_ne]; omega
              by_cases k2 : q = 2
              · subst k2
                by_cases h1 : z < 1
                · go_wp2_with fail
                  go_ret
                  have e9 : X = false := by
                    have e8 : Y = true := by rw [HW.out]; simp [wrongN]; first | omega | simp [k1, k2] | simp_all
                    rw [HX1.out, HB.out, HA.out e8]; rfl
                  rw [e9]
                  exact ⟨rfl, hb8⟩
                · by_cases h2 : 16384 < z
                  · go_wp2_with fail
                    go_ret
                    have e9 : X = false := by
                      have e8 : Y = true := by rw [HW.out]; simp [wrongN]; first | omega | simp [k1, k2] | simp_all
                      rw [HX1.out, HB.out, HA.out e8]; rfl
                    rw [e9]
                    exact ⟨rfl, hb8⟩
                  · go_wp2_with fail
                    have e8 : Y = false := by rw [HW.out]; simp [wrongN]; omega
                    exact ⟨⟨i + 1, by omega, by go_num, hb7, Lib.hid (by rw [HT1.out, HT.out, e8]; rfl)⟩, by simp [intOf]; omega⟩
              · have e2 : ((q : Int) == 2) = false := by rw [beq_eq_false_iff_ne]; omega
                go_wp2_with fail
                go_ret
                have e9 : X = false := by
                  have e8 : Y = true := by rw [HW.out]; simp [wrongN]; first | omega | simp [k1, k2] | simp_all
                  rw [HX1.out, HB.out, HA.out e8]; rfl
                rw [e9]
                exact ⟨rfl, hb8⟩
      · have t0' : (t != 0) = true := by rw [bne_iff_ne]; exact t0
        go_wp2_with fail
        go_ret
        have e9 : X = false := by rw [HM.out]; simp [t0]
        rw [e9]
        exact ⟨rfl, hb1⟩
    · have hS1 : (str S).toList.isEmpty = false := by rw [ByteArray.toList_eq, str_toList, List.isEmpty_eq_false_iff]; exact hS
      go_wp2_with fail
      go_ret
      have e9 : X = false := by rw [HM.out]; simp [hS]
      rw [e9]
      exact ⟨rfl, hb1⟩
  have e4 : ((k : Int) == 4) = false := by rw [beq_eq_false_iff_ne]; omega
  by_cases k5 : k = 5
  · subst k5
    by_cases h2 : n ≠ 0
    · have hc : cntOk 5 n = false := by simp [cntOk]; omega
      have h2' : ((n : Int) != 0) = true := by simp; omega
      go_wp2_with fail
      go_ret
      have e9 : X = false := by rw [HM.out]; simp [hc]
      rw [e9]
      exact ⟨rfl, hb1⟩
    · have hc : cntOk 5 n = true := by simp [cntOk]; omega
      have h2' : ((n : Int) != 0) = false := by simp; omega
      by_cases t0 : t = 0
      · subst t0
        have HX1 : Hid (X = !B) := by show _ = _; rw [HM.out]; simp [hc]
        go_wp2_with fail
        go_loopw [4, 5, 57, 58, 59, 60, 61, 62, 63, 64, 65, 66, 67, 68, 69, 70, 71, 72, 73, 74, 75, 76, 77, 78, 79, 80, 81, 82, 83, 84, 85, 86, 87, 88] (fun v4 v5 v57 v58 v59 v60 v61 v62 v63 v64 v65 v66 v67 v68 v69 v70 v71 v72 v73 v74 v75 v76 v77 v78 v79 v80 v81 v82 v83 v84 v85 v86 v87 v88 wr => ∃ i : Nat, i ≤ n ∧ v4 = .int .i64 i ∧ Below ((w.alloc (.cells #[.int .u8 (((5 : Nat)) : Int), .int .i64 0, .slice a n c, .string (str S)] 24))).heap.size (w.alloc (.cells #[.int .u8 (((5 : Nat)) : Int), .int .i64 0, .slice a n c, .string (str S)] 24)) wr ∧ Hid ((l.take i).any wrongB = false)) (fun v4 _ _ _ _ _ _ _ _ _ _ _ _ _ _ _ _ _ _ _ _ _ _ _ _ _ _ _ _ _ _ _ _ _ _ => n - (intOf v4).toNat)
        case atStart => exact ⟨0, Nat.zero_le _, rfl, Below.refl _ _, Lib.hid (by simp)⟩
        case round =>
          obtain ⟨i, hi, rfl, hb, HT⟩ := hrel
          have hBB := hb1.trans (hb.mono hb1.size)
          by_cases hin : i = n
          · subst hin
            go_wp2_with fail
            go_ret
            have e9 : X = true := by
              have e8 := HT.out
              rw [List.take_of_length_le (by rw [HN.out]; exact Nat.le_refl _)] at e8
              rw [HX1.out, HB.out, e8]; rfl
            rw [e9]
            exact ⟨rfl, hBB⟩
          · exfalso
            omega
      · have t0' : (t != 0) = true := by rw [bne_iff_ne]; exact t0
        go_wp2_with fail
        go_ret
        have e9 : X = false := by rw [HM.out]; simp [t0]
        rw [e9]
        exact ⟨rfl, hb1⟩
  have e5 : ((k : Int) == 5) = false := by rw [beq_eq_false_iff_ne]; omega
  have hc : cntOk k n = false := by simp [cntOk]; omega
  go_wp2_with fail
  go_ret
  have e9 : X = false := by rw [HM.out]; simp [hc]
  rw [e9]
  exact ⟨rfl, hb1⟩
end Go.Proofs.Ytgcohalmfigjpaa
