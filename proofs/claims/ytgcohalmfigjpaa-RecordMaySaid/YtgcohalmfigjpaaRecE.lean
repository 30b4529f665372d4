/-
  The document's Size, the law's large; what may be, by how many words there are.
-/
import Derived.Test.YtgcohalmfigjpaaRecD
namespace Go.Proofs.Ytgcohalmfigjpaa
open Go.RowKit
set_option linter.unusedVariables false
set_option linter.unusedSimpArgs false

theorem rsize_any (k : Nat) (t : Int) (a : Option Addr) (n c : Nat) (l : List (UInt8 × Int)) (S : List UInt8) (w : World) (hl : Sl w 2 (.slice a n c) n (wcells l)) (hn9 : n ≤ 1048576) (m : Nat) (hm : S.length = m) (hm9 : m ≤ 1048576) :
    Calls Try.prog 26 #[.agg #[.int .u8 (k : Int), .int .i64 t, .slice a n c, .string (str S)]] w fun e w' => e = .returned (.int .i64 (5 + 9 * (n : Int) + (m : Int))) ∧ Below w.heap.size w w' := by
  have hsz : (str S).size = m := by rw [← hm]; exact str_size S
  clear hm
  go_enter Try.func26, Try.ntmps26
  have hb1 : Below w.heap.size w (w.alloc (.cells #[.int .u8 (k : Int), .int .i64 t, .slice a n c, .string (str S)] 24)) := (Below.refl _ _).alloc (Nat.le_refl _) _
  go_wp2_with fail
  go_ret
  exact ⟨rfl, hb1⟩
theorem large_any (k : Nat) (t : Int) (a : Option Addr) (n c : Nat) (l : List (UInt8 × Int)) (S : List UInt8) (w : World) (hl : Sl w 2 (.slice a n c) n (wcells l)) (m : Nat) (hm : S.length = m) (hm9 : m ≤ 9223372036854775807) (X : Bool) (H : Hid (X = decide (2048 < n ∨ 32768 < m))) :
    Calls Try.prog 9 #[.agg #[.int .u8 (k : Int), .int .i64 t, .slice a n c, .string (str S)]] w fun e w' => e = .returned (.bool X) ∧ Below w.heap.size w w' := by
  have hsz : (str S).size = m := by rw [← hm]; exact str_size S
  have hn9 := hl.wordLen.2
  clear hm
  go_enter Try.func9, Try.ntmps9
  have hb1 : Below w.heap.size w (w.alloc (.cells #[.int .u8 (k : Int), .int .i64 t, .slice a n c, .string (str S)] 24)) := (Below.refl _ _).alloc (Nat.le_refl _) _
  by_cases h1 : (2048 : Int) < n
  · go_wp2_with fail
    go_ret
    rw [H.out, decide_eq_true (by omega : 2048 < n ∨ 32768 < m)]
    exact ⟨rfl, hb1⟩
  · by_cases h2 : (32768 : Int) < m
    · go_wp2_with fail
      go_ret
      rw [H.out, decide_eq_true (by omega : 2048 < n ∨ 32768 < m)]
      exact ⟨rfl, hb1⟩
    · go_wp2_with fail
      go_ret
      rw [H.out, decide_eq_false (by omega : ¬ (2048 < n ∨ 32768 < m))]
      exact ⟨rfl, hb1⟩
/-- how many words each kind may have -/
def cntOk (k n : Nat) : Bool := decide ((k = 1 ∧ 2 ≤ n) ∨ (k = 2 ∧ n ≤ 1) ∨ (k = 3 ∧ n = 1) ∨ k = 4 ∨ (k = 5 ∧ n = 0))
theorem mayN_cnt (k : Nat) (t : Int) (n : Nat) (wr e : Bool) : mayN k t n wr e = (cntOk k n && !wr && (decide (k = 5) || e) && (if k = 2 then decide (0 ≤ t ∧ t < 65536) else decide (t = 0))) := by
  unfold mayN
  have h : (lis k && decide (lmin k ≤ (capN n : Int)) && decide ((capN n : Int) ≤ lmax k)) = cntOk k n := by
    rw [Bool.eq_iff_iff]
    simp only [Bool.and_eq_true, lis, cntOk, decide_eq_true_eq]
    have hc : (capN n = n ∧ n ≤ 8192) ∨ (capN n = 8192 ∧ 8192 < n) := by
      by_cases h9 : n ≤ 8192
      · exact .inl ⟨if_pos h9, h9⟩
      · exact .inr ⟨if_neg h9, by omega⟩
    have h1 : (k = 1 ∧ lmin k = 2 ∧ lmax k = 8192) ∨ (k = 2 ∧ lmin k = 0 ∧ lmax k = 1) ∨ (k = 3 ∧ lmin k = 1 ∧ lmax k = 1) ∨ (k = 4 ∧ lmin k = 0 ∧ lmax k = 8192) ∨ (k = 5 ∧ lmin k = 0 ∧ lmax k = 0) ∨ ¬ (1 ≤ k ∧ k ≤ 5) := by
      by_cases k1 : k = 1
      · subst k1; exact .inl ⟨rfl, rfl, rfl⟩
      by_cases k2 : k = 2
      · subst k2; exact .inr (.inl ⟨rfl, rfl, rfl⟩)
      by_cases k3 : k = 3
      · subst k3; exact .inr (.inr (.inl ⟨rfl, rfl, rfl⟩))
      by_cases k4 : k = 4
      · subst k4; exact .inr (.inr (.inr (.inl ⟨rfl, rfl, rfl⟩)))
      by_cases k5 : k = 5
      · subst k5; exact .inr (.inr (.inr (.inr (.inl ⟨rfl, rfl, rfl⟩))))
      exact .inr (.inr (.inr (.inr (.inr (by omega)))))
    generalize lmin k = p at h1 ⊢
    generalize lmax k = q at h1 ⊢
    generalize capN n = M at hc ⊢
    rcases h1 with ⟨h, rfl, rfl⟩ | ⟨h, rfl, rfl⟩ | ⟨h, rfl, rfl⟩ | ⟨h, rfl, rfl⟩ | ⟨h, rfl, rfl⟩ | h <;> rcases hc with ⟨rfl, h9⟩ | ⟨rfl, h9⟩ <;> omega
  rw [h]
end Go.Proofs.Ytgcohalmfigjpaa
