/-
  The document's Write, walked.
-/
import Derived.Test.YtgcohalmfigjpaaRecF
import Derived.Test.YtgcohalmfigjpaaOctRef
namespace Go.Proofs.Ytgcohalmfigjpaa
open Go.RowKit
set_option linter.unusedVariables false
set_option linter.unusedSimpArgs false

theorem rput2 (a : Option Addr) (n c : Nat) (l : List UInt8) (w : World) (x : Nat) (hl : Sl w 1 (.slice a n c) n (bvs l)) (hsz : n ≤ 1048576) (hx : x < 18446744073709551616) :
    Calls Try.prog 27 #[.slice a n c, .int .u64 x, .int .i64 2] w fun e w' => ∃ v, e = .returned v ∧ Own w' w.heap.size 1 v (n + 2) (bvs (l ++ digs x 2)) ∧ Below w.heap.size w w' := by
  have h := rput_any a n c l w x 2 hl (by omega) hx
  rw [putL2, List.length_append, digs_length, hl.len.1] at h
  exact h
theorem rput8 (a : Option Addr) (n c : Nat) (l : List UInt8) (w : World) (x : Nat) (hl : Sl w 1 (.slice a n c) n (bvs l)) (hsz : n ≤ 1048576) (hx : x < 18446744073709551616) :
    Calls Try.prog 27 #[.slice a n c, .int .u64 x, .int .i64 8] w fun e w' => ∃ v, e = .returned v ∧ Own w' w.heap.size 1 v (n + 8) (bvs (l ++ digs x 8)) ∧ Below w.heap.size w w' := by
  have h := rput_any a n c l w x 8 hl (by omega) hx
  rw [putL8, List.length_append, digs_length, hl.len.1] at h
  exact h
set_option maxHeartbeats 1600000 in
theorem rwrite_p (K : UInt8) (t : Int) (a : Option Addr) (n c : Nat) (l : List (UInt8 × Int)) (S : List UInt8) (w : World) (hl : Sl w 2 (.slice a n c) n (wcells l)) (hn9 : n ≤ 1048576) (m : Nat) (hm : S.length = m) (hm9 : m ≤ 1048576)
    (Q : List UInt8) (N : Nat) (E : Int) (H : Hid (Q = wrQ K t l S ∧ N = Q.length ∧ E = wrE K t l S)) :
    Calls Try.prog 13 #[.agg #[.int .u8 (K.toNat : Int), .int .i64 t, .slice a n c, .string (str S)]] w fun e w' => ∃ v, e = .returned (.tuple #[v, .int .i64 E]) ∧ Own w' w.heap.size 1 v N (bvs Q) ∧ Below w.heap.size w w' := by
  have HN := Lib.hid hl.wordLen.1
  have HS := Lib.hid hm
  have hsz : (str S).size = m := by rw [← hm]; exact str_size S
  obtain ⟨X, hX⟩ : ∃ X, X = mayO K t l S := ⟨_, rfl⟩
  have HX := Lib.hid hX
  have hXN : Hid (X = mayN K.toNat t n (l.any wrongB) (decide (S = []))) := by show _ = _; rw [hX, mayO, HN.out]
  clear hX hm
  obtain ⟨k, hk⟩ : ∃ k : Nat, k = K.toNat := ⟨_, rfl⟩
  rw [← hk]
  have hk9 : k < 256 := by rw [hk]; exact K.toNat_lt
  rw [← hk] at hXN
  have HK := Lib.hid hk
  clear hk
  go_enter Try.func13, Try.ntmps13
  have hb1 : Below w.heap.size w (w.alloc (.cells #[.int .u8 (k : Int), .int .i64 t, .slice a n c, .string (str S)] 24)) := (Below.refl _ _).alloc (Nat.le_refl _) _
  have hr1 := Row.new w [.int .u8 (k : Int), .int .i64 t, .slice a n c, .string (str S)] 24
  have hl1 := hl.below hb1
  have e1 : w.alloc (.cells #[.int .u8 (k : Int), .int .i64 t, .slice a n c, .string (str S)] 24) = w.alloc (.cells [.int .u8 (k : Int), .int .i64 t, .slice a n c, .string (str S)].toArray 24) := rfl
  go_wp2_with (refine wpL_loadRow rfl _ _ rfl rfl hr1 Try.underlying24 rfl (by kernel_rfl) ?_)
  refine (rmay_p k t a n c l S _ hl1 X hXN).mono ?_
  rintro e w1 ⟨rfl, hb2⟩
  have hr2 := hr1.after hb2
  have hB2 := hb1.trans (hb2.mono hb1.size)
  have hl2 := hl.below hB2
  clear hb1 hb2 hr1 hl1 e1
  have c0 := hr2.cell 0
  have c1 := hr2.cell 1
  have c2 := hr2.cell 2
  have c3 := hr2.cell 3
  simp only [List.getElem?_cons_zero, List.getElem?_cons_succ] at c0 c1 c2 c3
  cases X with
  | false =>
    go_wp2_with fail
    go_ret2
    have e1 : E = 1 := by rw [H.out.2.2, wrE, if_pos HX.out.symm]
    have e2 : Q = [] := by rw [H.out.1, wrQ, ← H.out.2.2, if_neg (by rw [e1]; decide)]
    have e3 : N = 0 := by rw [H.out.2.1, e2]; rfl
    rw [e1, e2, e3]
    exact ⟨_, rfl, Own.nil _ _ _, hB2⟩
  | true =>
    have hbig0 : True := trivial
    go_wp2_with (refine wpL_loadRow rfl _ _ rfl rfl hr2 Try.underlying24 rfl (by kernel_rfl) ?_)
    refine (rsize_any k t a n c l S _ hl2 (by omega) m HS.out (by omega)).mono ?_
    rintro e w1b ⟨rfl, hb2b⟩
    replace hr2 := hr2.after hb2b
    replace hB2 := hB2.trans (hb2b.mono hB2.size)
    replace hl2 := hl.below hB2
    clear hb2b c0 c1 c2 c3
    generalize w1b = w1 at hr2 hB2 hl2 ⊢
    have c0 := hr2.cell 0
    have c1 := hr2.cell 1
    have c2 := hr2.cell 2
    have c3 := hr2.cell 3
    simp only [List.getElem?_cons_zero, List.getElem?_cons_succ] at c0 c1 c2 c3
    by_cases hbig : 8192 < 5 + 9 * n + m
    · go_wp2_with fail
      go_ret2
      have e1 : E = 6 := by rw [H.out.2.2, wrE, if_neg (by rw [← HX.out]; decide), if_pos (by rw [HN.out, HS.out]; exact hbig)]
      have e2 : Q = [] := by rw [H.out.1, wrQ, ← H.out.2.2, if_neg (by rw [e1]; decide)]
      have e3 : N = 0 := by rw [H.out.2.1, e2]; rfl
      rw [e1, e2, e3]
      exact ⟨_, rfl, Own.nil _ _ _, hB2⟩
    · have hn8 : n ≤ 911 := by omega
      have hm8 : m ≤ 8187 := by omega
      have HE : Hid (E = 0 ∧ Q = writeL K t l S ∧ N = 5 + 9 * n + m) := by
        have e1 : E = 0 := by rw [H.out.2.2, wrE, if_neg (by rw [← HX.out]; decide), if_neg (by rw [HN.out, HS.out]; exact hbig)]
        have e2 : Q = writeL K t l S := by rw [H.out.1, wrQ, ← H.out.2.2, if_pos e1]
        exact ⟨e1, e2, by rw [H.out.2.1, e2, writeL_len, HN.out, HS.out]⟩
      clear H HX hXN
      have ht2 := u64N_lt t
      have hr3 := hr2.alloc (.cells #[.int .u8 (k : Int)] 5)
      have d1 := hr3.cell 1
      simp only [List.getElem?_cons_zero, List.getElem?_cons_succ] at d1
      have hk1 : Hid ([Value.int .u8 (k : Int)] = bvs [K]) := by show _ = _; rw [HK.out]; rfl
      have hs3 : Sl (w1.alloc (.cells #[.int .u8 (k : Int)] 5)) 1 (.slice (some ⟨w1.heap.size, 0, none⟩) 1 1) 1 (bvs [K]) := by rw [← hk1.out]; exact Sl.one w1 (.int .u8 (k : Int)) 5
      have hB3 := hB2.alloc hB2.size (.cells #[.int .u8 (k : Int)] 5)
      go_wp2_with fail
      rw [u64_wrap]
      refine (rput2 _ 1 1 [K] _ (u64N t) hs3 (by omega) ht2).mono ?_
      rintro e w4 ⟨v4, rfl, ho4, hb4⟩
      have hB4 := hB3.trans (hb4.mono hB3.size)
      have hr4 := hr3.after hb4
      obtain ⟨a4, c4, rfl⟩ := ho4.form
      have hl4 := hl.below hB4
      clear hr3 hs3 hB3 c0 c1 c2 c3 d1 hl2
      have c2 := hr4.cell 2
      have c3 := hr4.cell 3
      simp only [List.getElem?_cons_zero, List.getElem?_cons_succ] at c2 c3
      go_wp2_with fail
      rw [← Int.natCast_add]
      refine (rput2 a4 3 c4 _ w4 (n + m) ho4.sl (by omega) (by omega)).mono ?_
      rintro e w5 ⟨v5, rfl, ho5, hb5⟩
      have hB5 := hB4.trans (hb5.mono hB4.size)
      have hr5 := hr4.after hb5
      obtain ⟨a5, c5, rfl⟩ := ho5.form
      have hw4 : w.heap.size < w4.heap.size := hr4.lt
      have hH : Hid ([K] ++ digs (u64N t) 2 ++ digs (n + m) 2 = headL K t (n + m)) := by show _ = _; simp [headL]
      rw [hH.out] at ho5
      have hr1w := hr4
      clear hr4 c2 c3 hl4 ho4
      have c2 := hr5.cell 2
      simp only [List.getElem?_cons_zero, List.getElem?_cons_succ] at c2
      generalize headL K t (n + m) = HD at ho5 hH
      go_wp2_with fail
      go_loopw [4, 5, 29, 30, 31, 32, 33, 34, 35, 36, 37, 38, 39, 40, 41, 42, 43, 44, 45, 46, 47, 48, 49, 50, 51, 52, 53] (fun v4 v5 v29 v30 v31 v32 v33 v34 v35 v36 v37 v38 v39 v40 v41 v42 v43 v44 v45 v46 v47 v48 v49 v50 v51 v52 v53 wr => ∃ i M : Nat, i ≤ n ∧ M = 5 + 9 * i ∧ v5 = .int .i64 i ∧ Own wr w4.heap.size 1 v4 M (bvs (HD ++ wordsL (l.take i))) ∧ Below w4.heap.size w4 wr) (fun _ v5 _ _ _ _ _ _ _ _ _ _ _ _ _ _ _ _ _ _ _ _ _ _ _ _ _ _ => n - (intOf v5).toNat)
      case atStart => exact ⟨0, 5, Nat.zero_le _, rfl, rfl, by simpa [wordsL] using ho5, hb5⟩
      case round =>
        obtain ⟨i, M, hi, hM, rfl, ho, hb⟩ := hrel
        have hM9 : M ≤ 8200 := by omega
        have HM := Lib.hid hM
        clear hM
        obtain ⟨a6, c6, rfl⟩ := ho.form
        have hBB := hB4.trans (hb.mono (Nat.le_of_lt hw4))
        have hr6 := hr1w.below hb hw4
        have d2 := hr6.cell 2
        have d3 := hr6.cell 3
        simp only [List.getElem?_cons_zero, List.getElem?_cons_succ] at d2 d3
        by_cases hin : i = n
        · subst hin
          have hsrc : Src Try.prog 1 9 (.string (str S)) m (bvs S) wr := by
            have h0 := Src.ofString wr (P := Try.prog) Try.underlying9 (str S)
            rw [hsz] at h0
            exact h0
          go_wp2_with (at_builtin; refine wpL_appendS etB rfl _ _ rfl ho rfl hsrc rfl (by omega) (by simp [maxLen]; omega) hb.size ?_; intro v7 w7 ho7 hg7; have hb7 := below_own hb ho hg7 (Nat.le_refl _) hb.size; clear hg7)
          go_ret2
          obtain ⟨q1, q2, q3⟩ := HE.out
          have hq : bvs Q = bvs (HD ++ wordsL (l.take i)) ++ bvs S := by
            rw [q2, writeL, HN.out, HS.out, ← hH.out, ← bvs_append, List.take_of_length_le (by rw [HN.out]; exact Nat.le_refl _)]
            simp [headL]
          rw [q1, hq, q3, ← HM.out]
          exact ⟨_, rfl, ho7.mono (base' := w.heap.size) (Nat.le_of_lt hw4), hB4.trans (hb7.mono (Nat.le_of_lt hw4))⟩
        · have hlt : i < n := by omega
          have hlt' : (i : Int) < n := by omega
          have HWD : Hid (∀ W, Below w.heap.size w W → ∃ b off, a = some ⟨b, off, none⟩ ∧ W.cell? ⟨b, off + i * 2, none⟩ = some (.int .u8 ((l.getD i (0, 0)).1.toNat : Int)) ∧ W.cell? ⟨b, off + i * 2 + 1, none⟩ = some (.int .i64 (l.getD i (0, 0)).2)) := fun W hW => (hl.below hW).word hlt
          have HW : Hid (wordsL (l.take (i + 1)) = wordsL (l.take i) ++ wordL (l.getD i (0, 0))) := wordsL_snoc l i (by rw [HN.out]; exact hlt)
          obtain ⟨x, hx⟩ : ∃ x, x = l.getD i (0, 0) := ⟨_, rfl⟩
          rw [← hx] at HW HWD
          clear hx
          obtain ⟨X, z⟩ := x
          have hz := u64N_lt z
          obtain ⟨b1, o1, rfl, hc1, hc2⟩ := HWD.out wr hBB
          have hb6 : Below wr.heap.size wr (wr.alloc (.cells #[.int .u8 (X.toNat : Int)] 5)) := (Below.refl _ _).alloc (Nat.le_refl _) _
          have hs8 : Sl (wr.alloc (.cells #[.int .u8 (X.toNat : Int)] 5)) 1 (.slice (some ⟨wr.heap.size, 0, none⟩) 1 1) 1 (bvs [X]) := Sl.one wr (.int .u8 (X.toNat : Int)) 5
          have ho8 := ho.below hb6
          have hb8w := hb.trans (hb6.mono hb.size)
          go_wp2_with (at_builtin; refine wpL_append etB rfl _ _ rfl ho8 rfl hs8 rfl (bvs_one _) (by omega) (by simp [maxLen]; omega) hb8w.size ?_; intro v9 w9 ho9 hg9; have hb9 := below_own hb8w ho8 hg9 (Nat.le_refl _) hb8w.size; clear hg9; rw [← bvs_append] at ho9; obtain ⟨a9, c9, rfl⟩ := ho9.form; obtain ⟨b2, o2, he2, _, hf2⟩ := HWD.out w9 (hB4.trans (hb9.mono (Nat.le_of_lt hw4))); cases he2; have f2 := (hr1w.below hb9 hw4).cell 2; simp only [List.getElem?_cons_zero, List.getElem?_cons_succ] at f2)
          rw [u64_wrap]
          refine (rput8 a9 (M + 1) c9 _ w9 (u64N z) ho9.sl (by omega) hz).mono ?_
          rintro e w10 ⟨v10, rfl, ho10, hb10⟩
          have hb11 := hb9.trans (hb10.mono hb9.size)
          have hM3 : Hid (M + 1 + 8 = 5 + 9 * (i + 1)) := by show _ = _; rw [HM.out]; omega
          have hL : Hid (HD ++ wordsL (l.take i) ++ [X] ++ digs (u64N z) 8 = HD ++ wordsL (l.take (i + 1))) := by
            show _ = _
            rw [HW.out, wordL]
            simp
          rw [hL.out] at ho10
          go_wp2_with fail
          exact ⟨⟨i + 1, M + 1 + 8, by omega, hM3.out, by go_num, ho10.mono (base' := w4.heap.size) hb9.size, hb11⟩, by simp [intOf]; omega⟩
end Go.Proofs.Ytgcohalmfigjpaa
