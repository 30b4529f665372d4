/-
  The document's Pages and Sectors; Equal at words; Turned, both; walked. Conditions: a map reads as one.
-/
import Derived.Test.YtljbpflcnicaiaaPagG
namespace Go.Proofs.Ytljbpflcnicaiaa
open Go.RowKit
set_option linter.unusedVariables false
set_option linter.unusedSimpArgs false

theorem ret_bool {a b : Bool} (h : a = b) : Ending.returned (.bool a) = .returned (.bool b) := by rw [h]
set_option maxRecDepth 100000 in
set_option maxHeartbeats 1600000 in
theorem rpages_p (b : Nat) (S : List Nat) (w : World) (h : RM w b S) (L : List Int) (hL : Hid (L = selG S Int.ofNat 1024)) (N : Nat) (hN : Hid (N = L.length)) :
    Calls Try.prog 27 #[.pointer (some ⟨b, 0, none⟩)] w fun e w' => ∃ v, e = .returned v ∧ Own w' w.heap.size 1 v N (ints L) ∧ Below w.heap.size w w' := by
  go_enter Try.func27, Try.ntmps27
  go_wp2_with fail
  go_loopw [3, 4] (fun v3 v4 wr => ∃ k M : Nat, k ≤ 1024 ∧ v4 = .int .i64 k ∧ M = (selG S Int.ofNat k).length ∧ Own wr w.heap.size 1 v3 M (ints (selG S Int.ofNat k)) ∧ Below w.heap.size w wr) (fun _ v4 _ => 1024 - (intOf v4).toNat)
  case atStart => exact ⟨0, 0, Nat.zero_le _, rfl, rfl, Own.nil _ _ _, Below.refl _ _⟩
  case round =>
    obtain ⟨k, M, hk, rfl, hM, ho, hb⟩ := hrel
    obtain ⟨a3, c3, rfl⟩ := ho.form
    by_cases hk4 : k = 1024
    · subst hk4
      have HNM : Hid (N = M ∧ L = selG S Int.ofNat 1024) := ⟨by rw [hN.out, hL.out, hM], hL.out⟩
      clear hM
      go_wp2_with fail
      go_ret
      rw [HNM.out.1, HNM.out.2]
      exact ⟨_, rfl, ho, hb⟩
    · have hlt : k < 1024 := by omega
      have hlt' : (k : Int) < 1024 := by omega
      have hm := h.below hb
      have hcs := hm.cell k hlt
      have hs9 := hm.2.2 k
      have hM9 : M ≤ 1024 := by rw [hM]; have := selG_len S Int.ofNat k; omega
      have hB0 : hasS S (k : Int) = hasP S k := by
        rw [hasS, decide_eq_true (by omega : (0 : Int) ≤ k), decide_eq_true hlt']; rfl
      have HB0 := Lib.hid hB0
      have HM := Lib.hid hM
      have hsc := selG_succ S Int.ofNat k
      obtain ⟨y, hy⟩ : ∃ y, y = S.getD k 0 := ⟨_, rfl⟩
      have hval : (Int.ofNat k : Int) = (k : Int) := by first | rfl | (rw [hy])
      first | rw [hval] at hsc | rw [← hy] at hsc
      rw [← hy] at hcs hs9
      have HSC := Lib.hid hsc
      clear hB0 hM hsc hval hy
      go_wp2_with fail
      refine (rhas_h b S (k : Int) wr hm).mono ?_
      rintro e w3 ⟨B, rfl, HB, rfl⟩
      cases B with
      | false =>
        have HSF : Hid (selG S Int.ofNat (k + 1) = selG S Int.ofNat k) := by
          show _ = _
          rw [HSC.out, ← HB0.out, ← HB.out]; simp
        clear hm
        go_wp2_with fail
        exact ⟨⟨k + 1, M, by omega, by go_num, by rw [HSF.out]; exact HM.out, by rw [HSF.out]; exact ho, hb⟩, by simp [intOf]; omega⟩
      | true =>
        have HST : Hid (selG S Int.ofNat (k + 1) = selG S Int.ofNat k ++ [(k : Int)]) := by
          show _ = _
          rw [HSC.out, ← HB0.out, ← HB.out]; simp
        have ho3 := ho.alloc (.cells #[.int .i64 (k : Int)] 3)
        have hs3 := Sl.one wr (.int .i64 (k : Int)) 3
        have hb3 := hb.alloc hb.size (.cells #[.int .i64 (k : Int)] 3)
        clear hm
        go_wp2_with (at_builtin; refine wpL_append etI rfl _ _ rfl ho3 rfl hs3 rfl (by simp [Value.oneCell']) (by omega) (by simp [maxLen]; omega) hb3.size ?_; intro v4 w4 ho4 hg4; have hb4 := below_own hb3 ho3 hg4 (Nat.le_refl _) hb3.size; clear hg4)
        refine ⟨⟨k + 1, M + 1, by omega, by go_num, by rw [HST.out, List.length_append, HM.out]; rfl, ?_, hb4⟩, by simp [intOf]; omega⟩
        rw [HST.out, ints_append]
        exact ho4
set_option maxRecDepth 100000 in
set_option maxHeartbeats 1600000 in
theorem rsectors_p (b : Nat) (S : List Nat) (w : World) (h : RM w b S) (L : List Int) (hL : Hid (L = selG S (fun i => ((S.getD i 0 : Nat) : Int)) 1024)) (N : Nat) (hN : Hid (N = L.length)) :
    Calls Try.prog 28 #[.pointer (some ⟨b, 0, none⟩)] w fun e w' => ∃ v, e = .returned v ∧ Own w' w.heap.size 1 v N (ints L) ∧ Below w.heap.size w w' := by
  go_enter Try.func28, Try.ntmps28
  go_wp2_with fail
  go_loopw [3, 4] (fun v3 v4 wr => ∃ k M : Nat, k ≤ 1024 ∧ v4 = .int .i64 k ∧ M = (selG S (fun i => ((S.getD i 0 : Nat) : Int)) k).length ∧ Own wr w.heap.size 1 v3 M (ints (selG S (fun i => ((S.getD i 0 : Nat) : Int)) k)) ∧ Below w.heap.size w wr) (fun _ v4 _ => 1024 - (intOf v4).toNat)
  case atStart => exact ⟨0, 0, Nat.zero_le _, rfl, rfl, Own.nil _ _ _, Below.refl _ _⟩
  case round =>
    obtain ⟨k, M, hk, rfl, hM, ho, hb⟩ := hrel
    obtain ⟨a3, c3, rfl⟩ := ho.form
    by_cases hk4 : k = 1024
    · subst hk4
      have HNM : Hid (N = M ∧ L = selG S (fun i => ((S.getD i 0 : Nat) : Int)) 1024) := ⟨by rw [hN.out, hL.out, hM], hL.out⟩
      clear hM
      go_wp2_with fail
      go_ret
      rw [HNM.out.1, HNM.out.2]
      exact ⟨_, rfl, ho, hb⟩
    · have hlt : k < 1024 := by omega
      have hlt' : (k : Int) < 1024 := by omega
      have hm := h.below hb
      have hcs := hm.cell k hlt
      have hs9 := hm.2.2 k
      have hM9 : M ≤ 1024 := by rw [hM]; have := selG_len S (fun i => ((S.getD i 0 : Nat) : Int)) k; omega
      have hB0 : hasS S (k : Int) = hasP S k := by
        rw [hasS, decide_eq_true (by omega : (0 : Int) ≤ k), decide_eq_true hlt']; rfl
      have HB0 := Lib.hid hB0
      have HM := Lib.hid hM
      have hsc := selG_succ S (fun i => ((S.getD i 0 : Nat) : Int)) k
      obtain ⟨y, hy⟩ : ∃ y, y = S.getD k 0 := ⟨_, rfl⟩
      have hval : ((fun i => ((S.getD i 0 : Nat) : Int)) k : Int) = ((y : Nat) : Int) := by first | rfl | (rw [hy])
      first | rw [hval] at hsc | rw [← hy] at hsc
      rw [← hy] at hcs hs9
      have HSC := Lib.hid hsc
      clear hB0 hM hsc hval hy
      go_wp2_with fail
      refine (rhas_h b S (k : Int) wr hm).mono ?_
      rintro e w3 ⟨B, rfl, HB, rfl⟩
      cases B with
      | false =>
        have HSF : Hid (selG S (fun i => ((S.getD i 0 : Nat) : Int)) (k + 1) = selG S (fun i => ((S.getD i 0 : Nat) : Int)) k) := by
          show _ = _
          rw [HSC.out, ← HB0.out, ← HB.out]; simp
        clear hm
        go_wp2_with fail
        exact ⟨⟨k + 1, M, by omega, by go_num, by rw [HSF.out]; exact HM.out, by rw [HSF.out]; exact ho, hb⟩, by simp [intOf]; omega⟩
      | true =>
        have HST : Hid (selG S (fun i => ((S.getD i 0 : Nat) : Int)) (k + 1) = selG S (fun i => ((S.getD i 0 : Nat) : Int)) k ++ [((y : Nat) : Int)]) := by
          show _ = _
          rw [HSC.out, ← HB0.out, ← HB.out]; simp
        have ho3 := ho.alloc (.cells #[.int .i64 ((y : Nat) : Int)] 3)
        have hs3 := Sl.one wr (.int .i64 ((y : Nat) : Int)) 3
        have hb3 := hb.alloc hb.size (.cells #[.int .i64 ((y : Nat) : Int)] 3)
        clear hm
        go_wp2_with (at_builtin; refine wpL_append etI rfl _ _ rfl ho3 rfl hs3 rfl (by simp [Value.oneCell']) (by omega) (by simp [maxLen]; omega) hb3.size ?_; intro v4 w4 ho4 hg4; have hb4 := below_own hb3 ho3 hg4 (Nat.le_refl _) hb3.size; clear hg4)
        refine ⟨⟨k + 1, M + 1, by omega, by go_num, by rw [HST.out, List.length_append, HM.out]; rfl, ?_, hb4⟩, by simp [intOf]; omega⟩
        rw [HST.out, ints_append]
        exact ho4

/-! ### Equal at words -/
theorem Sl.secAt {w : World} {k : IntKind} {a : Option Addr} {n c j : Nat} {L : List Nat} (h : Sl w 1 (.slice a n c) n (secs k L)) (hj : j < n) : ∃ b off, a = some ⟨b, off, none⟩ ∧ w.cell? ⟨b, off + j, none⟩ = some (.int k ((L.getD j 0 : Nat) : Int)) := by
  have hl := h.1
  rw [secs_len] at hl
  obtain ⟨b, off, h1, h2, h3⟩ := h.addr (by omega)
  exact ⟨b, off, h1, h3 j _ (secs_get k L j (by omega))⟩
set_option maxHeartbeats 400000 in
theorem equal16_p (a : Option Addr) (n c : Nat) (a2 : Option Addr) (m c2 : Nat) (l s : List Nat) (w : World) (hl : Sl w 1 (.slice a n c) n (secs .u16 l)) (hs : Sl w 1 (.slice a2 m c2) m (secs .u16 s)) (R : Bool) (hR : Hid (R = decide (l = s))) :
    Calls Try.prog 32 #[.slice a n c, .slice a2 m c2] w fun e w' => e = .returned (.bool R) ∧ Below w.heap.size w w' := by
  have h1 := hl.1
  have h2 := hs.1
  have h3 := hl.cap
  rw [secs_len, Nat.mul_one] at h1 h2
  have HN := Lib.hid (And.intro h1 h2)
  by_cases hnm : n = m
  · subst hnm
    have hn : n ≤ 9223372036854775807 := by omega
    clear h1 h2 h3
    have hq : ((n : Int) != n) = false := by simp
    go_enter Try.func32, Try.ntmps32
    go_wp2_with fail
    go_loopw [5, 13] (fun v5 v13 wr => ∃ k : Nat, k ≤ n ∧ v13 = .int .i64 k ∧ l.take k = s.take k ∧ Below w.heap.size w wr) (fun _ v13 _ => n - (intOf v13).toNat)
    case atStart => exact ⟨0, Nat.zero_le _, rfl, by simp, Below.refl _ _⟩
    case round =>
      obtain ⟨k, hk, rfl, ht, hb⟩ := hrel
      have HT := Lib.hid ht
      clear ht
      by_cases hkn : k = n
      · subst hkn
        go_wp2_with fail
        go_ret
        have e := HT.out
        rw [List.take_of_length_le (by rw [HN.out.1]; exact Nat.le_refl _), List.take_of_length_le (by rw [HN.out.2]; exact Nat.le_refl _)] at e
        exact ⟨ret_bool (by rw [hR.out]; exact (decide_eq_true e).symm), hb⟩
      · have hlt : k < n := by omega
        have hlt' : (k : Int) < n := by omega
        obtain ⟨b1, o1, rfl, hc1⟩ := (hl.below hb).secAt hlt
        obtain ⟨b2, o2, rfl, hc2⟩ := (hs.below hb).secAt hlt
        have HT1 : Hid (l.take (k + 1) = l.take k ++ [l.getD k 0]) := nats_snoc l k (by rw [HN.out.1]; exact hlt)
        have HT2 : Hid (s.take (k + 1) = s.take k ++ [s.getD k 0]) := nats_snoc s k (by rw [HN.out.2]; exact hlt)
        obtain ⟨x, hx⟩ : ∃ x, x = l.getD k 0 := ⟨_, rfl⟩
        obtain ⟨y, hy⟩ : ∃ y, y = s.getD k 0 := ⟨_, rfl⟩
        rw [← hx] at hc1 HT1
        rw [← hy] at hc2 HT2
        clear hx hy
        by_cases hxy : x = y
        · subst hxy
          go_wp2_with fail
          go_quiet (fail)
          go_wp2_with fail
          exact ⟨⟨k + 1, by omega, by go_num, by rw [HT1.out, HT2.out, HT.out], below_drewN hb _⟩, by simp [intOf]; omega⟩
        · have hne : ((x : Int) != y) = true := by
            rw [bne_iff_ne]
            intro h
            exact hxy (by omega)
          go_wp2_with fail
          go_quiet (fail)
          go_wp2_with fail
          go_ret
          refine ⟨ret_bool ?_, below_drewN hb _⟩
          symm
          rw [hR.out, decide_eq_false_iff_not]
          intro h
          have e1 := HT1.out
          have e2 := HT2.out
          rw [h] at e1
          rw [e1] at e2
          have := (List.append_inj' e2 rfl).2
          simp at this
          exact hxy this
  · have hq : ((n : Int) != m) = true := by rw [bne_iff_ne]; omega
    clear h1 h2 h3
    go_enter Try.func32, Try.ntmps32
    go_wp2_with fail
    go_ret
    refine ⟨ret_bool ?_, Below.refl _ _⟩
    symm
    rw [hR.out, decide_eq_false_iff_not]
    intro h
    have := HN.out
    rw [h] at this
    omega
end Go.Proofs.Ytljbpflcnicaiaa
