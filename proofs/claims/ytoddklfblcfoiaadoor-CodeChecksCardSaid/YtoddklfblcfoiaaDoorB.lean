/-
  Bytes: their element type, what a conversion to a string comes to, Clone. No condition but that a slice reads as bytes.
-/
import Derived.Test.YtoddklfblcfoiaaDoorCanon
import Derived.Deep.QuietTactic
namespace Go.Proofs.YtoddklfblcfoiaaDoor
open Go.RowKit
set_option linter.unusedVariables false
set_option linter.unusedSimpArgs false

theorem etB : ET Tryd.prog 26 5 (.int .u8 0) 1 1 := ⟨Tryd.underlying26, by kernel_rfl, rfl, by decide⟩

theorem conv_later {w : World} {a : Option Addr} {n c : Nat} {l : List UInt8} (h : Sl w 1 (.slice a n c) n (bvs l)) : ∀ x : Later Rb w, (convert 26 9 (.slice a n c)).run Tryd.prog x.w = .ok (.string (str l)) x.w :=
  fun x => run_conv_string x.w Tryd.underlying26 Tryd.underlying5 Tryd.underlying9 (h.later x)

theorem far_ex {w : World} {base size n : Nat} {v : Value} (h : ∃ xs, Own w base size v n xs) {b o : Nat} {u : Value} (hb : b < base) : ∃ xs, Own (w.setCell ⟨b, o, none⟩ u) base size v n xs := h.imp fun _ h => h.far hb u
theorem later_cell {w : World} {b o : Nat} {v : Value} (h : w.cell? ⟨b, o, none⟩ = some v) : ∀ x : Later Rb w.drew, x.w.cell? ⟨b, o, none⟩ = some v :=
  fun x => (Below.cell (p := ⟨b, o, none⟩) x.later (lt_of_cell h)).trans h
theorem below_drewN {B : Nat} {a w : World} (h : Below B a w) (n : Nat) : Below B a (w.drewN n) := ⟨h.os, h.tape, h.output, h.size, h.block⟩
set_option maxHeartbeats 400000 in
theorem clone_any (a : Option Addr) (n c : Nat) (l : List UInt8) (w : World) (hl : Sl w 1 (.slice a n c) n (bvs l)) (hsz : n ≤ 140737488355328) :
    Calls Tryd.prog 52 #[.slice a n c] w fun e w' => ∃ v, e = .returned v ∧ Own w' w.heap.size 1 v n (bvs l) ∧ Below w.heap.size w w' := by
  have HL := Lib.hid hl
  have hn := hl.len
  have hnil := fun w => Lib.run_eql_slice_nil (P := Tryd.prog) w 26 5 a n c 0 0 Tryd.underlying26
  clear hl
  cases a with
  | none =>
    have hz : n = 0 := by
      have h := HL.out
      obtain ⟨_, a', c', he, h1, h2, h3, h4⟩ := h
      cases he
      have := h3 rfl
      omega
    subst hz
    go_enter Tryd.func52, Tryd.ntmps52
    go_wp2
    go_ret
    refine ⟨_, rfl, ?_, Below.refl _ _⟩
    obtain rfl : l = [] := List.eq_nil_of_length_eq_zero hn.1
    exact Own.nil _ _ _
  | some a =>
    go_enter Tryd.func52, Tryd.ntmps52
    go_wp2_with (at_builtin; refine wpL_append0 etB rfl _ _ rfl w.heap.size rfl HL.out rfl (bvs_one _) (by omega) (by simp [maxLen]; omega) (Nat.le_refl _) ?_; intro v2 w2 hown2 hb2)
    go_ret
    exact ⟨_, rfl, hown2, hb2⟩

end Go.Proofs.YtoddklfblcfoiaaDoor
