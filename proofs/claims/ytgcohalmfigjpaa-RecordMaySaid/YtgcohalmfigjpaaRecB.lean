/-
  Words, and whether one is wrong, walked.
-/
import Derived.Test.YtgcohalmfigjpaaRecA
import Derived.Test.YtgcohalmfigjpaaGen
namespace Go.Proofs.Ytgcohalmfigjpaa
open Go.RowKit
set_option linter.unusedVariables false
set_option linter.unusedSimpArgs false

def wcells (l : List (UInt8 × Int)) : List Value := l.flatMap fun x => [.int .u8 (x.1.toNat : Int), .int .i64 x.2]
theorem wcells_len (l : List (UInt8 × Int)) : (wcells l).length = l.length * 2 := by
  induction l with
  | nil => rfl
  | cons x l ih => rw [wcells, List.flatMap_cons, List.length_append, ← wcells, ih]; simp; omega
theorem wcells_at : ∀ (l : List (UInt8 × Int)) (k : Nat), k < l.length → (wcells l)[k * 2]? = some (.int .u8 ((l.getD k (0, 0)).1.toNat : Int)) ∧ (wcells l)[k * 2 + 1]? = some (.int .i64 (l.getD k (0, 0)).2)
  | x :: l, 0, _ => ⟨rfl, rfl⟩
  | x :: l, k + 1, h => by
    obtain ⟨h1, h2⟩ := wcells_at l k (by simpa using h)
    rw [show (k + 1) * 2 = k * 2 + 2 by omega, show k * 2 + 2 + 1 = k * 2 + 1 + 2 by omega]
    exact ⟨h1, h2⟩
theorem wcells_append (l m : List (UInt8 × Int)) : wcells (l ++ m) = wcells l ++ wcells m := List.flatMap_append
theorem Sl.wordLen {w : World} {a : Option Addr} {n c : Nat} {l : List (UInt8 × Int)} (h : Sl w 2 (.slice a n c) n (wcells l)) : l.length = n ∧ n ≤ 9223372036854775807 := by
  have hl := h.cap
  rw [wcells_len] at hl
  omega
theorem Sl.word {w : World} {a : Option Addr} {n c k : Nat} {l : List (UInt8 × Int)} (h : Sl w 2 (.slice a n c) n (wcells l)) (hk : k < n) :
    ∃ b off, a = some ⟨b, off, none⟩ ∧ w.cell? ⟨b, off + k * 2, none⟩ = some (.int .u8 ((l.getD k (0, 0)).1.toNat : Int)) ∧ w.cell? ⟨b, off + k * 2 + 1, none⟩ = some (.int .i64 (l.getD k (0, 0)).2) := by
  have hl := h.wordLen
  obtain ⟨b, off, ha, _, hc⟩ := h.addr (by omega)
  obtain ⟨h1, h2⟩ := wcells_at l k (by omega)
  exact ⟨b, off, ha, hc _ _ h1, by rw [Nat.add_assoc]; exact hc _ _ h2⟩

def wrongN (k : Nat) (z : Int) : Bool := if k = 1 then decide (z < -4611686018427387904) || decide (4611686018427387903 < z) else if k = 2 then decide (z < 1) || decide (16384 < z) else true
def wrongB (x : UInt8 × Int) : Bool := wrongN x.1.toNat x.2
theorem wrong_any (k : Nat) (z : Int) (w : World) : Calls Try.prog 37 #[.agg #[.int .u8 (k : Int), .int .i64 z]] w fun e w' => e = .returned (.bool (wrongN k z)) ∧ Below w.heap.size w w' := by
  have hb1 : Below w.heap.size w (w.alloc (.cells #[.int .u8 (k : Int), .int .i64 z] 44)) := (Below.refl _ _).alloc (Nat.le_refl _) _
  by_cases k1 : k = 1
  · subst k1
    go_enter Try.func37, Try.ntmps37
    by_cases h1 : z < -4611686018427387904
    · go_wp2_with fail
      go_ret
      exact ⟨by simp [wrongN, h1], hb1⟩
    · go_wp2_with fail
      go_ret
      exact ⟨by simp [wrongN, h1]; intro h; omega, hb1⟩
  have e1 : ((k : Int) == 1) = false := by rw [beq_eq_false_iff_ne]; omega
  by_cases k2 : k = 2
  · subst k2
    go_enter Try.func37, Try.ntmps37
    by_cases h1 : z < 1
    · go_wp2_with fail
      go_ret
      exact ⟨by simp [wrongN, h1], hb1⟩
    · go_wp2_with fail
      go_ret
      exact ⟨by simp [wrongN, h1]; intro h; omega, hb1⟩
  have e2 : ((k : Int) == 2) = false := by rw [beq_eq_false_iff_ne]; omega
  go_enter Try.func37, Try.ntmps37
  go_wp2_with fail
  go_ret
  have e3 : wrongN k z = true := by rw [wrongN, if_neg k1, if_neg k2]
  rw [e3]
  exact ⟨rfl, hb1⟩

def wrongAt (l : List (UInt8 × Int)) : Int := if l.any wrongB then (l.findIdx wrongB : Int) else -1
theorem any_take_succ {α : Type} (f : α → Bool) (l : List α) (k : Nat) (d : α) (hk : k < l.length) : (l.take (k + 1)).any f = ((l.take k).any f || f (l.getD k d)) := by
  rw [List.take_succ_eq_append_getElem hk, List.any_append]
  simp [List.getD_eq_getElem?_getD, List.getElem?_eq_getElem hk]
theorem any_of_take {α : Type} (f : α → Bool) (l : List α) (k : Nat) (d : α) (hk : k < l.length) (h : f (l.getD k d) = true) : l.any f = true := by
  rw [List.any_eq_true]
  rw [List.getD_eq_getElem?_getD, List.getElem?_eq_getElem hk] at h
  exact ⟨_, List.getElem_mem hk, h⟩
set_option maxHeartbeats 800000 in
theorem indexFunc_any (a : Option Addr) (n c : Nat) (l : List (UInt8 × Int)) (w : World) (hl : Sl w 2 (.slice a n c) n (wcells l)) :
    Calls Try.prog 47 #[.slice a n c, .func (.func 37) #[] #[]] w fun e w' => (∃ z : Int, e = .returned (.int .i64 z) ∧ Hid (decide (0 ≤ z) = l.any wrongB)) ∧ Below w.heap.size w w' := by
  have hn := hl.wordLen
  have HN := Lib.hid hn.1
  have hn2 := hn.2
  clear hn
  go_enter Try.func47, Try.ntmps47
  go_wp2_with fail
  go_loopw [5, 8] (fun v5 v8 wr => ∃ k : Nat, k ≤ n ∧ v8 = .int .i64 k ∧ Below w.heap.size w wr ∧ Hid ((l.take k).any wrongB = false)) (fun _ v8 _ => n - (intOf v8).toNat)
  case atStart => exact ⟨0, Nat.zero_le _, rfl, Below.refl _ _, Lib.hid (by simp)⟩
  case round =>
    obtain ⟨k, hk, rfl, hb, HT⟩ := hrel
    by_cases hkn : k = n
    · subst hkn
      go_wp2_with fail
      go_ret
      have e := HT.out
      rw [List.take_of_length_le (by rw [HN.out]; exact Nat.le_refl _)] at e
      exact ⟨⟨_, rfl, Lib.hid (by rw [e]; rfl)⟩, hb⟩
    · have hlt : k < n := by omega
      have hlt' : (k : Int) < n := by omega
      obtain ⟨b1, o1, rfl, hc1, hc2⟩ := (hl.below hb).word hlt
      have HT1 : Hid ((l.take (k + 1)).any wrongB = ((l.take k).any wrongB || wrongB (l.getD k (0, 0)))) := any_take_succ _ _ _ _ (by rw [HN.out]; exact hlt)
      have HA : Hid (wrongB (l.getD k (0, 0)) = true → l.any wrongB = true) := any_of_take _ _ _ _ (by rw [HN.out]; exact hlt)
      have HB : Hid (wrongB (l.getD k (0, 0)) = wrongN (l.getD k (0, 0)).1.toNat (l.getD k (0, 0)).2) := rfl
      generalize (l.getD k (0, 0)).1.toNat = q at hc1 HB
      generalize (l.getD k (0, 0)).2 = z at hc2 HB
      generalize wrongB (l.getD k (0, 0)) = B at HB HT1 HA
      have hw : ∀ w, Calls Try.prog 37 #[.agg #[.int .u8 (q : Int), .int .i64 z]] w fun e w' => e = .returned (.bool B) ∧ Below w.heap.size w w' := by
        intro w; rw [HB.out]; exact wrong_any q z w
      have HW := Lib.hid hw
      clear hw
      cases B with
      | true =>
        go_wp2_with (go_at_call 37; refine (HW.out _).mono ?_; rintro e w' ⟨rfl, hb2⟩)
        go_ret
        exact ⟨⟨_, rfl, Lib.hid (by rw [HA.out trivial]; exact decide_eq_true (Int.natCast_nonneg k))⟩, hb.trans (hb2.mono hb.size)⟩
      | false =>
        go_wp2_with (go_at_call 37; refine (HW.out _).mono ?_; rintro e w' ⟨rfl, hb2⟩)
        exact ⟨⟨k + 1, by omega, by go_num, hb.trans (hb2.mono hb.size), Lib.hid (by rw [HT1.out, HT.out]; rfl)⟩, by simp [intOf]; omega⟩
theorem contains_any (a : Option Addr) (n c : Nat) (l : List (UInt8 × Int)) (w : World) (hl : Sl w 2 (.slice a n c) n (wcells l)) (B : Bool) (H : Hid (B = l.any wrongB)) :
    Calls Try.prog 36 #[.slice a n c, .func (.func 37) #[] #[]] w fun e w' => e = .returned (.bool B) ∧ Below w.heap.size w w' := by
  go_enter Try.func36, Try.ntmps36
  go_wp2_with fail
  refine (indexFunc_any a n c l w hl).mono ?_
  rintro e w1 ⟨⟨z, rfl, hz⟩, hb⟩
  go_wp2_with fail
  go_ret
  rw [H.out, ← hz.out]
  exact ⟨rfl, hb⟩
end Go.Proofs.Ytgcohalmfigjpaa
