/-
  Whether a number is in a list, walked.
-/
import Derived.Test.YtgcohalmfigjpaaRecB
namespace Go.Proofs.Ytgcohalmfigjpaa
open Go.RowKit
set_option linter.unusedVariables false
set_option linter.unusedSimpArgs false

theorem Sl.intAt {w : World} {a : Option Addr} {n c k : Nat} {l : List Int} (h : Sl w 1 (.slice a n c) n (ints l)) (hk : k < n) : ∃ b off, a = some ⟨b, off, none⟩ ∧ w.cell? ⟨b, off + k, none⟩ = some (.int .i64 (l.getD k 0)) := by
  obtain ⟨b, off, u, ha, hu, hc⟩ := h.at (k := k) (by omega)
  have hl := h.cap.2.2.2
  rw [ints_length, Nat.mul_one] at hl
  rw [ints_get l k (by omega)] at hu
  cases hu
  exact ⟨b, off, ha, hc⟩
theorem Sl.intLen {w : World} {a : Option Addr} {n c : Nat} {l : List Int} (h : Sl w 1 (.slice a n c) n (ints l)) : l.length = n ∧ n ≤ 9223372036854775807 := by
  have hl := h.cap
  rw [ints_length, Nat.mul_one] at hl
  omega
def hasI (l : List Int) (v : Int) : Bool := l.any (fun x => v == x)
theorem index_any (a : Option Addr) (n c : Nat) (l : List Int) (v : Int) (w : World) (hl : Sl w 1 (.slice a n c) n (ints l)) :
    Calls Try.prog 46 #[.slice a n c, .int .i64 v] w fun e w' => (∃ z : Int, e = .returned (.int .i64 z) ∧ Hid (decide (0 ≤ z) = hasI l v)) ∧ w = w' := by
  have hn := hl.intLen
  have HN := Lib.hid hn.1
  have hn2 := hn.2
  clear hn
  go_enter Try.func46, Try.ntmps46
  go_wp2_with fail
  go_loop [5, 8] (fun v5 v8 => ∃ k : Nat, k ≤ n ∧ v8 = .int .i64 k ∧ Hid ((l.take k).any (fun x => v == x) = false)) (fun _ v8 => n - (intOf v8).toNat)
  case atStart => exact ⟨0, Nat.zero_le _, rfl, Lib.hid (by simp)⟩
  case round =>
    obtain ⟨k, hk, rfl, HT⟩ := hrel
    by_cases hkn : k = n
    · subst hkn
      go_wp2_with fail
      go_ret
      have e := HT.out
      rw [List.take_of_length_le (by rw [HN.out]; exact Nat.le_refl _)] at e
      exact ⟨⟨_, rfl, Lib.hid (by rw [hasI, e]; rfl)⟩, rfl⟩
    · have hlt : k < n := by omega
      have hlt' : (k : Int) < n := by omega
      obtain ⟨b1, o1, rfl, hc1⟩ := hl.intAt hlt
      have HT1 : Hid ((l.take (k + 1)).any (fun x => v == x) = ((l.take k).any (fun x => v == x) || (v == l.getD k 0))) := any_take_succ (fun x => v == x) _ _ _ (by rw [HN.out]; exact hlt)
      have HA : Hid ((v == l.getD k 0) = true → hasI l v = true) := any_of_take (fun x => v == x) _ _ _ (by rw [HN.out]; exact hlt)
      generalize l.getD k 0 = x at hc1 HT1 HA
      by_cases hx : v = x
      · subst hx
        have hxx : (v == v) = true := by simp
        go_wp2_with fail
        go_ret
        exact ⟨⟨_, rfl, Lib.hid (by rw [HA.out (by simp)]; exact decide_eq_true (Int.natCast_nonneg k))⟩, rfl⟩
      · have hxx : (v == x) = false := by rw [beq_eq_false_iff_ne]; exact hx
        have HX : Hid ((v == x) = false) := hxx
        go_wp2_with fail
        exact ⟨⟨k + 1, by omega, by go_num, Lib.hid (by rw [HT1.out, HT.out, HX.out]; rfl)⟩, by simp [intOf]; omega⟩
theorem containsI_p (a : Option Addr) (n c : Nat) (l : List Int) (v : Int) (w : World) (hl : Sl w 1 (.slice a n c) n (ints l)) (B : Bool) (H : Hid (B = hasI l v)) :
    Calls Try.prog 34 #[.slice a n c, .int .i64 v] w fun e w' => e = .returned (.bool B) ∧ w = w' := by
  go_enter Try.func34, Try.ntmps34
  go_wp2_with fail
  refine (index_any a n c l v w hl).mono ?_
  rintro e w1 ⟨⟨z, rfl, hz⟩, rfl⟩
  go_wp2_with fail
  go_ret
  rw [H.out, ← hz.out]
  exact ⟨rfl, rfl⟩
end Go.Proofs.Ytgcohalmfigjpaa
