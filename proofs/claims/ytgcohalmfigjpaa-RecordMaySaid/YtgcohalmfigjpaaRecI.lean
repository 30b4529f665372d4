/-
  Oids, walked.
-/
import Derived.Test.YtgcohalmfigjpaaRecH
import Derived.Test.YtgcohalmfigjpaaRecD
namespace Go.Proofs.Ytgcohalmfigjpaa
open Go.RowKit
set_option linter.unusedVariables false
set_option linter.unusedSimpArgs false

def oidAdd (acc : List Int) (x : UInt8 × Int) : List Int := if x.1.toNat = 2 ∧ hasI acc x.2 = false then acc ++ [x.2] else acc
def oidsL (l : List (UInt8 × Int)) : List Int := l.foldl oidAdd []
theorem oids_snoc (l : List (UInt8 × Int)) (k : Nat) (hk : k < l.length) : oidsL (l.take (k + 1)) = oidAdd (oidsL (l.take k)) (l.getD k (0, 0)) := by
  rw [List.take_succ_eq_append_getElem hk, oidsL, List.foldl_append]
  simp [oidsL, List.getD_eq_getElem?_getD, List.getElem?_eq_getElem hk]
theorem etI : ET Try.prog 40 3 (.int .i64 0) 1 8 := ⟨Try.underlying40, by kernel_rfl, rfl, by decide⟩
set_option maxHeartbeats 1600000 in
theorem oids_p (k : Nat) (t : Int) (a : Option Addr) (n c : Nat) (l : List (UInt8 × Int)) (S : List UInt8) (w : World) (hl : Sl w 2 (.slice a n c) n (wcells l)) (hn9 : n ≤ 1048576) (L : List Int) (N : Nat) (H : Hid (L = oidsL l ∧ N = L.length)) :
    Calls Try.prog 21 #[.agg #[.int .u8 (k : Int), .int .i64 t, .slice a n c, .string (str S)]] w fun e w' => ∃ v, e = .returned v ∧ Own w' w.heap.size 1 v N (ints L) ∧ Below w.heap.size w w' := by
  have HN := Lib.hid hl.wordLen.1
  go_enter Try.func21, Try.ntmps21
  have hb1 : Below w.heap.size w (w.alloc (.cells #[.int .u8 (k : Int), .int .i64 t, .slice a n c, .string (str S)] 24)) := (Below.refl _ _).alloc (Nat.le_refl _) _
  go_wp2_with fail
  go_loopw [2, 4, 8, 9, 10, 11, 12, 13, 14, 15, 16, 17, 18, 19, 20, 21, 22, 23, 24, 25, 26, 27] (fun v2 v4 v8 v9 v10 v11 v12 v13 v14 v15 v16 v17 v18 v19 v20 v21 v22 v23 v24 v25 v26 v27 wr => ∃ i M : Nat, i ≤ n ∧ M ≤ i ∧ v8 = .int .i64 i ∧ Own wr w.heap.size 1 v2 M (ints (oidsL (l.take i))) ∧ Below w.heap.size w wr) (fun _ _ v8 _ _ _ _ _ _ _ _ _ _ _ _ _ _ _ _ _ _ _ _ => n - (intOf v8).toNat)
  case atStart => exact ⟨0, 0, Nat.zero_le _, Nat.zero_le _, rfl, Own.nil _ _ _, hb1⟩
  case round =>
    obtain ⟨i, M, hi, hM, rfl, ho, hb⟩ := hrel
    obtain ⟨a6, c6, rfl⟩ := ho.form
    by_cases hin : i = n
    · subst hin
      go_wp2_with fail
      go_ret
      have e1 := ho.sl.intLen.1
      rw [List.take_of_length_le (by rw [HN.out]; exact Nat.le_refl _)] at e1 ho
      have e2 : N = M := by rw [H.out.2, H.out.1]; exact e1
      rw [e2, H.out.1]
      exact ⟨_, rfl, ho, hb⟩
    · have hlt : i < n := by omega
      have hlt' : (i : Int) < n := by omega
      obtain ⟨b1, o1, rfl, hc1, hc2⟩ := (hl.below hb).word hlt
      have HW : Hid (oidsL (l.take (i + 1)) = oidAdd (oidsL (l.take i)) (l.getD i (0, 0))) := oids_snoc l i (by rw [HN.out]; exact hlt)
      obtain ⟨A, hA⟩ : ∃ A, A = oidsL (l.take i) := ⟨_, rfl⟩
      rw [← hA] at ho HW
      clear hA
      obtain ⟨x, hx⟩ : ∃ x, x = l.getD i (0, 0) := ⟨_, rfl⟩
      rw [← hx] at hc1 hc2 HW
      clear hx
      obtain ⟨X, z⟩ := x
      obtain ⟨B, hB⟩ : ∃ B, B = hasI A z := ⟨_, rfl⟩
      have HB := Lib.hid hB
      have HW2 : Hid (oidsL (l.take (i + 1)) = if X.toNat = 2 ∧ B = false then A ++ [z] else A) := by show _ = _; rw [HW.out, oidAdd, hB]
      clear hB HW
      obtain ⟨q, hq⟩ : ∃ q, q = X.toNat := ⟨_, rfl⟩
      rw [← hq] at HW2
      have hc1' : wr.cell? ⟨b1, o1 + i * 2, none⟩ = some (.int .u8 (q : Int)) := by rw [hq]; exact hc1
      clear hc1 hq
      have hb6 := hb.alloc hb.size (.cells #[.int .u8 (q : Int), .int .i64 z] 44)
      have ho6 := ho.alloc (.cells #[.int .u8 (q : Int), .int .i64 z] 44)
      by_cases k2 : q = 2
      · subst k2
        replace ho6 : Own (wr.alloc (.cells #[.int .u8 2, .int .i64 z] 44)) w.heap.size 1 (.slice a6 M c6) M (ints A) := ho6
        replace hb6 : Below w.heap.size w (wr.alloc (.cells #[.int .u8 2, .int .i64 z] 44)) := hb6
        cases B with
        | true =>
          go_wp2_with fail
          refine (containsI_p a6 M c6 A z _ ho6.sl true HB).mono ?_
          rintro e w7 ⟨rfl, rfl⟩
          go_wp2_with fail
          refine ⟨⟨i + 1, M, by omega, by omega, by go_num, ?_, hb6⟩, by simp [intOf]; omega⟩
          rw [HW2.out]
          simpa using ho6
        | false =>
          go_wp2_with fail
          refine (containsI_p a6 M c6 A z _ ho6.sl false HB).mono ?_
          rintro e w7 ⟨rfl, rfl⟩
          have ho8 := ho6.alloc (.cells #[.int .i64 z] 3)
          have hs8 : Sl ((wr.alloc (.cells #[.int .u8 2, .int .i64 z] 44)).alloc (.cells #[.int .i64 z] 3)) 1 (.slice (some ⟨wr.heap.size + 1, 0, none⟩) 1 1) 1 [.int .i64 z] := by
            have := Sl.one (wr.alloc (.cells #[.int .u8 2, .int .i64 z] 44)) (.int .i64 z) 3
            rw [World.size_alloc] at this
            exact this
          have hb8 := hb6.alloc hb6.size (.cells #[.int .i64 z] 3)
          go_wp2_with (at_builtin; refine wpL_append etI rfl _ _ rfl ho8 rfl hs8 rfl (by simp [Value.oneCell']) (by omega) (by simp [maxLen]; omega) hb8.size ?_; intro v9 w9 ho9 hg9; have hb9 := below_own hb8 ho8 hg9 (Nat.le_refl _) hb8.size; clear hg9)
          refine ⟨⟨i + 1, M + 1, by omega, by omega, by go_num, ?_, hb9⟩, by simp [intOf]; omega⟩
          rw [HW2.out, if_pos (by simp), ints_append]
          exact ho9
      · have e2 : ((q : Int) == 2) = false := by rw [beq_eq_false_iff_ne]; omega
        go_wp2_with fail
        refine ⟨⟨i + 1, M, by omega, by omega, by go_num, ?_, hb6⟩, by simp [intOf]; omega⟩
        rw [HW2.out, if_neg (fun h => k2 h.1)]
        exact ho6
end Go.Proofs.Ytgcohalmfigjpaa
