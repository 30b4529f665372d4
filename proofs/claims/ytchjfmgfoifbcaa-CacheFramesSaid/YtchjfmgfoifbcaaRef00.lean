/-
  What the statements do with bytes: EqBytes, CopyBytes, tail, Roomy, Kept. Conditions: slices read as bytes.
-/
import Derived.Test.YtchjfmgfoifbcaaB
import Derived.Lib.SlBytesConst
namespace Go.Proofs.Ytchjfmgfoifbcaa
open Go.RowKit
set_option linter.unusedVariables false
set_option linter.unusedSimpArgs false

theorem ret_bool {a b : Bool} (h : a = b) : Ending.returned (.bool a) = .returned (.bool b) := by rw [h]
theorem cut_one (x : UInt8) (l : List UInt8) (k : Nat) (h : k = l.length) : ((bvs (x :: l)).drop 1).take (k + 1 - 1) = bvs l := by
  subst h; simp [bvs, List.take_of_length_le]
theorem Sl.tail1 {w : World} {b o k C : Nat} {x : UInt8} {l : List UInt8} (h : Sl w 1 (.slice (some ⟨b, o, none⟩) (k + 1) C) (k + 1) (bvs (x :: l))) : Sl w 1 (.slice (if C = 1 then some ⟨b, o, none⟩ else some ⟨b, o + 1, none⟩) k (C - 1)) k (bvs l) := by
  have hn := h.len
  simp only [List.length_cons] at hn
  have h1 := h.cut (l := 1) (h := k + 1) (m := C) (by omega) (by omega) (by omega) (Nat.le_refl _)
  rw [cut_one x l k (by omega), Nat.add_sub_cancel] at h1
  unfold cutAddr at h1
  rw [Option.map_some, add_eq] at h1
  exact h1
set_option maxHeartbeats 1000000 in
theorem eqb_any (a : Option Addr) (n c : Nat) (a2 : Option Addr) (m c2 : Nat) (l s : List UInt8) (w : World) (hl : Sl w 1 (.slice a n c) n (bvs l)) (hs : Sl w 1 (.slice a2 m c2) m (bvs s)) (hsz : n ≤ 140737488355328) (hsz2 : m ≤ 140737488355328) :
    Calls Try.prog 35 #[.slice a n c, .slice a2 m c2] w fun e w' => e = .returned (.bool (decide (l = s))) ∧ Below w.heap.size w w' := by
  obtain ⟨R, hR⟩ : ∃ R, R = decide (l = s) := ⟨_, rfl⟩
  rw [← hR]
  have HR := Lib.hid hR
  clear hR
  go_enter Try.func35, Try.ntmps35
  go_wp2_with fail
  go_loopw [0, 1] (fun v0 v1 wr => ∃ A n' C B m' D, ∃ l' s' : List UInt8, v0 = .slice A n' C ∧ v1 = .slice B m' D ∧ Sl wr 1 (.slice A n' C) n' (bvs l') ∧ Sl wr 1 (.slice B m' D) m' (bvs s') ∧ R = decide (l' = s') ∧ n' ≤ n ∧ m' ≤ m ∧ Below w.heap.size w wr) (fun v0 _ _ => match v0 with | .slice _ k _ => k | _ => 0)
  case atStart => exact ⟨a, n, c, a2, m, c2, l, s, rfl, rfl, hl, hs, HR.out, Nat.le_refl _, Nat.le_refl _, Below.refl _ _⟩
  case round =>
    obtain ⟨A, n', C, B, m', D, l', s', rfl, rfl, hl', hs', hR', hn', hm', hb⟩ := hrel
    have h1 := hl'.len
    have h2 := hs'.len
    have HR' := Lib.hid hR'
    clear hR' hl hs
    rcases l' with _ | ⟨x, l'⟩
    · obtain rfl : n' = 0 := by simpa using h1.1.symm
      clear h1
      have HL := Lib.hid h2
      clear h2
      go_wp2_with fail
      go_quiet (fail)
      go_wp2_with fail
      go_ret
      refine ⟨ret_bool ?_, below_drewN hb _⟩
      have h2 := HL.out.1
      rw [HR'.out, Bool.eq_iff_iff]
      cases s' <;> simp at h2 ⊢ <;> omega
    · obtain ⟨k, rfl⟩ : ∃ k, n' = k + 1 := ⟨l'.length, by simpa using h1.1.symm⟩
      rcases s' with _ | ⟨y, s'⟩
      · obtain rfl : m' = 0 := by simpa using h2.1.symm
        have hk : (0 : Int) < (k : Int) + 1 := by omega
        clear h1 h2
        go_wp2_with fail
        go_quiet (fail)
        go_wp2_with fail
        go_ret
        exact ⟨ret_bool (by rw [HR'.out]; simp; omega), below_drewN hb _⟩
      · obtain ⟨j, rfl⟩ : ∃ j, m' = j + 1 := ⟨s'.length, by simpa using h2.1.symm⟩
        have hk : (0 : Int) < (k : Int) + 1 := by omega
        have hj : (0 : Int) < (j : Int) + 1 := by omega
        obtain ⟨b1, o1, rfl, hc1⟩ := hl'.byte (k := 0) (by omega)
        obtain ⟨b2, o2, rfl, hc2⟩ := hs'.byte (k := 0) (by omega)
        simp only [Nat.add_zero, List.getD_cons_zero] at hc1 hc2
        have hC := h1.2.2.1
        have hD := h2.2.2.1
        have hC2 := h1.2.2.2
        have hD2 := h2.2.2.2
        clear h1 h2
        obtain ⟨X, hX⟩ : ∃ X : Nat, X = x.toNat := ⟨_, rfl⟩
        obtain ⟨Y, hY⟩ : ∃ Y : Nat, Y = y.toNat := ⟨_, rfl⟩
        rw [← hX] at hc1
        rw [← hY] at hc2
        have HX := Lib.hid hX
        have HY := Lib.hid hY
        clear hX hY
        by_cases hxy : X = Y
        · subst hxy
          go_wp2_with fail
          go_quiet (fail)
          go_wp2_with fail
          have e : R = decide (l' = s') := by
            have : x = y := UInt8.toNat_inj.1 (by rw [← HX.out, ← HY.out])
            rw [HR'.out, this]; simp
          exact ⟨⟨_, _, _, _, _, _, l', s', rfl, rfl, hl'.tail1, hs'.tail1, e, by omega, by omega, below_drewN hb _⟩, by simp⟩
        · have hne : ((X : Int) == Y) = false := by rw [beq_eq_false_iff_ne]; omega
          go_wp2_with fail
          go_quiet (fail)
          go_wp2_with fail
          go_ret
          refine ⟨ret_bool ?_, below_drewN hb _⟩
          have : ¬ (x :: l' = y :: s') := fun h => hxy (by rw [HX.out, HY.out]; cases h; rfl)
          rw [HR'.out, decide_eq_false this]
          simp; omega
def tailL : List UInt8 := [98, 101, 104, 105, 110, 100]
end Go.Proofs.Ytchjfmgfoifbcaa
