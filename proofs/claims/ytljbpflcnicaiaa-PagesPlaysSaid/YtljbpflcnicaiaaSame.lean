/-
  The same numbers? Condition: slices read as integers.
-/
import Derived.Test.YtljbpflcnicaiaaB
namespace Go.Proofs.Ytljbpflcnicaiaa
open Go.RowKit
set_option linter.unusedVariables false
set_option linter.unusedSimpArgs false

theorem ret_boolS {a b : Bool} (h : a = b) : Ending.returned (.bool a) = .returned (.bool b) := by rw [h]
theorem ints_take (l : List Int) (k : Nat) (h : k < l.length) : l.take (k + 1) = l.take k ++ [l.getD k 0] := by
  rw [List.take_succ_eq_append_getElem h, List.getD_eq_getElem?_getD, List.getElem?_eq_getElem h]; rfl
theorem Sl.intAt {w : World} {a : Option Addr} {n c k : Nat} {l : List Int} (h : Sl w 1 (.slice a n c) n (ints l)) (hk : k < n) : ∃ b off, a = some ⟨b, off, none⟩ ∧ w.cell? ⟨b, off + k, none⟩ = some (.int .i64 (l.getD k 0)) := by
  obtain ⟨b, off, u, ha, hu, hc⟩ := h.at (k := k) (by omega)
  have hl := h.cap.2.2.2
  rw [ints_length, Nat.mul_one] at hl
  rw [ints_get l k (by omega)] at hu
  cases hu
  exact ⟨b, off, ha, hc⟩
theorem Sl.intLen {w : World} {a : Option Addr} {n c : Nat} {l : List Int} (h : Sl w 1 (.slice a n c) n (ints l)) : l.length = n ∧ n ≤ 9223372036854775807 := by
  have hl := h.cap
  rw [ints_length, Nat.mul_one] at hl
  omega
set_option maxHeartbeats 400000 in
theorem same_any (a : Option Addr) (n c : Nat) (a2 : Option Addr) (m c2 : Nat) (l s : List Int) (w : World) (hl : Sl w 1 (.slice a n c) n (ints l)) (hs : Sl w 1 (.slice a2 m c2) m (ints s)) :
    Calls Try.prog 17 #[.slice a n c, .slice a2 m c2] w fun e w' => e = .returned (.bool (decide (l = s))) ∧ Below w.heap.size w w' := by
  have h1 := hl.intLen
  have h2 := hs.intLen
  have HN := Lib.hid (And.intro h1.1 h2.1)
  by_cases hnm : n = m
  · subst hnm
    have hn := h1.2
    clear h1 h2
    have hq : ((n : Int) != n) = false := by simp
    go_enter Try.func17, Try.ntmps17
    go_wp2_with fail
    go_loopw [5] (fun v5 wr => ∃ k : Nat, k ≤ n ∧ v5 = .int .i64 k ∧ l.take k = s.take k ∧ Below w.heap.size w wr) (fun v5 _ => n - (intOf v5).toNat)
    case atStart => exact ⟨0, Nat.zero_le _, rfl, by simp, Below.refl _ _⟩
    case round =>
      obtain ⟨k, hk, rfl, ht, hb⟩ := hrel
      have HT := Lib.hid ht
      clear ht
      by_cases hkn : k = n
      · subst hkn
        go_wp2_with fail
        go_ret
        have e := HT.out
        rw [List.take_of_length_le (by rw [HN.out.1]; exact Nat.le_refl _), List.take_of_length_le (by rw [HN.out.2]; exact Nat.le_refl _)] at e
        exact ⟨ret_boolS (decide_eq_true e).symm, hb⟩
      · have hlt : k < n := by omega
        have hlt' : (k : Int) < n := by omega
        obtain ⟨b1, o1, rfl, hc1⟩ := (hl.below hb).intAt hlt
        obtain ⟨b2, o2, rfl, hc2⟩ := (hs.below hb).intAt hlt
        have HT1 : Hid (l.take (k + 1) = l.take k ++ [l.getD k 0]) := ints_take l k (by rw [HN.out.1]; exact hlt)
        have HT2 : Hid (s.take (k + 1) = s.take k ++ [s.getD k 0]) := ints_take s k (by rw [HN.out.2]; exact hlt)
        obtain ⟨x, hx⟩ : ∃ x, x = l.getD k 0 := ⟨_, rfl⟩
        obtain ⟨y, hy⟩ : ∃ y, y = s.getD k 0 := ⟨_, rfl⟩
        rw [← hx] at hc1 HT1
        rw [← hy] at hc2 HT2
        clear hx hy
        by_cases hxy : x = y
        · subst hxy
          have hqq : (x != x) = false := by simp
          go_wp2_with fail
          go_quiet (fail)
          go_wp2_with fail
          exact ⟨⟨k + 1, by omega, by go_num, by rw [HT1.out, HT2.out, HT.out], below_drewN hb _⟩, by simp [intOf]; omega⟩
        · have hne : (x != y) = true := by
            rw [bne_iff_ne]; exact hxy
          have HXY := Lib.hid hxy
          clear hxy
          go_wp2_with fail
          go_quiet (fail)
          go_wp2_with fail
          go_ret
          refine ⟨ret_boolS ?_, below_drewN hb _⟩
          symm
          rw [decide_eq_false_iff_not]
          intro h
          have e1 := HT1.out
          have e2 := HT2.out
          rw [h] at e1
          rw [e1] at e2
          have := (List.append_inj' e2 rfl).2
          simp at this
          exact HXY.out this
  · have hq : ((n : Int) != m) = true := by rw [bne_iff_ne]; omega
    clear h1 h2
    go_enter Try.func17, Try.ntmps17
    go_wp2_with fail
    go_ret
    refine ⟨ret_boolS ?_, Below.refl _ _⟩
    symm
    rw [decide_eq_false_iff_not]
    intro h
    have := HN.out
    rw [h] at this
    omega
theorem same_h (a : Option Addr) (n c : Nat) (a2 : Option Addr) (m c2 : Nat) (l s : List Int) (w : World) (hl : Sl w 1 (.slice a n c) n (ints l)) (hs : Sl w 1 (.slice a2 m c2) m (ints s)) :
    Calls Try.prog 17 #[.slice a n c, .slice a2 m c2] w fun e w' => ∃ R : Bool, e = .returned (.bool R) ∧ Hid (R = decide (l = s)) ∧ Below w.heap.size w w' :=
  (same_any a n c a2 m c2 l s w hl hs).mono fun e w' ⟨he, hb⟩ => ⟨_, he, Lib.hid rfl, hb⟩
end Go.Proofs.Ytljbpflcnicaiaa
