/-
  The document's Oids, walked.
-/
import Derived.Test.YtgcohalmfigjpaaRecI
import Derived.Test.YtgcohalmfigjpaaStore
import Derived.BigQuiet
namespace Go.Proofs.Ytgcohalmfigjpaa
open Go.RowKit
set_option linter.unusedVariables false
set_option linter.unusedSimpArgs false

set_option maxHeartbeats 4000000 in
theorem roids_p (k : Nat) (t : Int) (a : Option Addr) (n c : Nat) (l : List (UInt8 × Int)) (S : List UInt8) (w : World) (hl : Sl w 2 (.slice a n c) n (wcells l)) (hn9 : n ≤ 1048576) (L : List Int) (N : Nat) (H : Hid (L = oidsL l ∧ N = L.length)) :
    Calls Try.prog 22 #[.agg #[.int .u8 (k : Int), .int .i64 t, .slice a n c, .string (str S)]] w fun e w' => ∃ v, e = .returned v ∧ Own w' w.heap.size 1 v N (ints L) ∧ Below w.heap.size w w' := by
  have HN := Lib.hid hl.wordLen.1
  go_enter Try.func22, Try.ntmps22
  have hb1 : Below w.heap.size w (w.alloc (.cells #[.int .u8 (k : Int), .int .i64 t, .slice a n c, .string (str S)] 24)) := (Below.refl _ _).alloc (Nat.le_refl _) _
  have hr1 := Row.new w [.int .u8 (k : Int), .int .i64 t, .slice a n c, .string (str S)] 24
  go_wp2_with fail
  go_loopw [3, 4] (fun v3 v4 wr => ∃ i M : Nat, i ≤ n ∧ M ≤ i ∧ v4 = .int .i64 i ∧ Own wr (w.heap.size + 1) 1 v3 M (ints (oidsL (l.take i))) ∧ Below w.heap.size w wr ∧ Row wr w.heap.size 24 [.int .u8 (k : Int), .int .i64 t, .slice a n c, .string (str S)]) (fun _ v4 _ => n - (intOf v4).toNat)
  case atStart => exact ⟨0, 0, Nat.zero_le _, Nat.zero_le _, rfl, Own.nil _ _ _, hb1, hr1⟩
  case round =>
    obtain ⟨i, M, hi, hM, rfl, ho, hb, hr⟩ := hrel
    obtain ⟨a6, c6, rfl⟩ := ho.form
    have c2 := hr.cell 2
    simp only [List.getElem?_cons_zero, List.getElem?_cons_succ] at c2
    by_cases hin : i = n
    · subst hin
      go_wp2_with fail
      go_ret
      have e1 := ho.sl.intLen.1
      rw [List.take_of_length_le (by rw [HN.out]; exact Nat.le_refl _)] at e1 ho
      have e2 : N = M := by rw [H.out.2, H.out.1]; exact e1
      rw [e2, H.out.1]
      exact ⟨_, rfl, ho.mono (by omega), hb⟩
    · have hlt : i < n := by omega
      have hlt' : (i : Int) < n := by omega
      obtain ⟨b1, o1, rfl, hc1, hc2⟩ := (hl.below hb).word hlt
      have HW : Hid (oidsL (l.take (i + 1)) = oidAdd (oidsL (l.take i)) (l.getD i (0, 0))) := oids_snoc l i (by rw [HN.out]; exact hlt)
      obtain ⟨A, hA⟩ : ∃ A, A = oidsL (l.take i) := ⟨_, rfl⟩
      rw [← hA] at ho HW
      clear hA
      obtain ⟨x, hx⟩ : ∃ x, x = l.getD i (0, 0) := ⟨_, rfl⟩
      rw [← hx] at hc1 hc2 HW
      obtain ⟨X, z⟩ := x
      have HX := Lib.hid hx
      clear hx
      obtain ⟨B, hB⟩ : ∃ B, B = hasI A z := ⟨_, rfl⟩
      have HB := Lib.hid hB
      have HW2 : Hid (oidsL (l.take (i + 1)) = if X.toNat = 2 ∧ B = false then A ++ [z] else A) := by show _ = _; rw [HW.out, oidAdd, hB]
      clear hB HW
      obtain ⟨q, hq⟩ : ∃ q, q = X.toNat := ⟨_, rfl⟩
      rw [← hq] at HW2
      have hc1' : wr.cell? ⟨b1, o1 + i * 2, none⟩ = some (.int .u8 (q : Int)) := by rw [hq]; exact hc1
      clear hc1 hq
      have hAl := ho.sl.intLen
      have HAL := Lib.hid hAl.1
      have hM9 := hAl.2
      clear hAl
      replace hc2 : wr.cell? ⟨b1, o1 + i * 2 + 1, none⟩ = some (.int .i64 z) := hc2
      go_wp2_with fail
      obtain ⟨w4, rfl⟩ : ∃ x, x = wr := ⟨_, rfl⟩
      go_loopw [5, 6] (fun v5 v6 wi => ∃ j : Nat, j ≤ M ∧ v6 = .int .i64 j ∧ (∃ d : Bool, v5 = .bool d ∧ Hid (d = (decide (q ≠ 2) || (A.take j).any (fun x => z == x)))) ∧ Own wi (w.heap.size + 1) 1 (.slice a6 M c6) M (ints A) ∧ Below w.heap.size w wi ∧ Row wi w.heap.size 24 [.int .u8 (k : Int), .int .i64 t, .slice (some ⟨b1, o1, none⟩) n c, .string (str S)]) (fun _ v6 _ => M - (intOf v6).toNat)
      case atStart => exact ⟨0, Nat.zero_le _, rfl, ⟨_, rfl, by show _ = _; rw [List.take_zero, List.any_nil, Bool.or_false, Bool.eq_iff_iff]; simp; omega⟩, ho, hb, hr⟩
      case round =>
        clear c2 hc1' hc2 hr hb ho
        obtain ⟨j, hj, rfl, ⟨d, rfl, Hd⟩, ho', hb', hr'⟩ := hrel
        have p0 := hr'.cell 2
        simp only [List.getElem?_cons_zero, List.getElem?_cons_succ] at p0
        obtain ⟨_, _, e9, _, p2⟩ := (hl.below hb').word hlt
        cases e9
        rw [← HX.out] at p2
        dsimp only at p2
        obtain ⟨w5, rfl⟩ : ∃ x, x = wr := ⟨_, rfl⟩
        by_cases hjM : j = M
        · subst hjM
          have e0 := Hd.out
          rw [List.take_of_length_le (by rw [HAL.out]; exact Nat.le_refl _)] at e0
          have e1 : Hid (d = (decide (q ≠ 2) || B)) := by show _ = _; rw [e0, HB.out]; rfl
          clear e0 Hd
          cases d with
          | true =>
            go_wp2_with fail
            refine ⟨⟨i + 1, j, by omega, by omega, by go_num, ?_, hb', hr'⟩, by simp [intOf]; omega⟩
            rw [HW2.out, if_neg (by
              rintro ⟨h1, h2⟩
              have := e1.out
              rw [h1, h2] at this
              simp at this)]
            exact ho'
          | false =>
            have hs8 := Sl.one w5 (.int .i64 z) 3
            have ho8 := ho'.alloc (.cells #[.int .i64 z] 3)
            have hr8 := hr'.alloc (.cells #[.int .i64 z] 3)
            have hb8 := hb'.alloc hb'.size (.cells #[.int .i64 z] 3)
            have hlt8 : w.heap.size + 1 ≤ (w5.alloc (.cells #[.int .i64 z] 3)).heap.size := by have := hr'.lt; simp; omega
            go_wp2_with (at_builtin; refine wpL_append etI rfl _ _ rfl ho8 rfl hs8 rfl (by simp [Value.oneCell']) (by omega) (by simp [maxLen]; omega) hlt8 ?_; intro v9 w9 ho9 hg9; have hb9 := below_own hb8 ho8 hg9 (by omega) hb8.size; have hr9 := hr8.grown hg9 (fun e => by have := ho8.lt _ e.symm; omega); clear hg9)
            refine ⟨⟨i + 1, j + 1, by omega, by omega, by go_num, ?_, hb9, hr9⟩, by simp [intOf]; omega⟩
            rw [HW2.out, if_pos (by
              have := e1.out.symm
              rw [Bool.or_eq_false_iff] at this
              exact ⟨by simpa using this.1, this.2⟩), ints_append]
            exact ho9
        · have hlt9 : j < M := by omega
          have hlt9' : (j : Int) < M := by omega
          obtain ⟨b3, o3, rfl, hy⟩ := ho'.sl.intAt hlt9
          have HT1 : Hid ((A.take (j + 1)).any (fun x => z == x) = ((A.take j).any (fun x => z == x) || (z == A.getD j 0))) := any_take_succ (fun x => z == x) _ _ _ (by rw [HAL.out]; exact hlt9)
          generalize A.getD j 0 = y at hy HT1
          cases d with
          | true =>
            go_wp2_with fail
            go_quiet (fail)
            go_wp2_with fail
            rename_i nq
            refine ⟨⟨j + 1, by omega, by go_num, ⟨true, rfl, ?_⟩, ho'.below (below_drewN (Below.refl _ _) nq), below_drewN hb' nq, hr'⟩, by simp [intOf]; omega⟩
            show _ = _
            rw [HT1.out, ← Bool.or_assoc, ← Hd.out]
            rfl
          | false =>
            by_cases hyz : y = z
            · subst hyz
              have hyy : (y == y) = true := by simp
              go_wp2_with fail
              go_quiet (fail)
              go_wp2_with fail
              rename_i nq
              refine ⟨⟨j + 1, by omega, by go_num, ⟨true, rfl, ?_⟩, ho'.below (below_drewN (Below.refl _ _) nq), below_drewN hb' nq, hr'⟩, by simp [intOf]; omega⟩
              show _ = _
              rw [HT1.out, ← Bool.or_assoc, ← Hd.out]
              simp
            · have hyy : (y == z) = false := by rw [beq_eq_false_iff_ne]; exact hyz
              go_wp2_with fail
              go_quiet (fail)
              go_wp2_with fail
              rename_i nq
              refine ⟨⟨j + 1, by omega, by go_num, ⟨false, rfl, ?_⟩, ho'.below (below_drewN (Below.refl _ _) nq), below_drewN hb' nq, hr'⟩, by simp [intOf]; omega⟩
              show _ = _
              rw [HT1.out, ← Bool.or_assoc, ← Hd.out]
              have : (z == y) = false := by rw [beq_eq_false_iff_ne]; exact fun e => hyz e.symm
              rw [this]; rfl
end Go.Proofs.Ytgcohalmfigjpaa
