/-
  Bytes: their element type, what a conversion to a string comes to, Clone. No condition but that a slice reads as bytes.
-/
import Derived.Test.YtekmgffjdheifaaCanon
import Derived.Deep.QuietTactic
namespace Go.Proofs.Ytekmgffjdheifaa
open Go.RowKit
set_option linter.unusedVariables false
set_option linter.unusedSimpArgs false

theorem far_ex {w : World} {base size n : Nat} {v : Value} (h : ∃ xs, Own w base size v n xs) {b o : Nat} {u : Value} (hb : b < base) : ∃ xs, Own (w.setCell ⟨b, o, none⟩ u) base size v n xs := h.imp fun _ h => h.far hb u
theorem later_cell {w : World} {b o : Nat} {v : Value} (h : w.cell? ⟨b, o, none⟩ = some v) : ∀ x : Later Rb w.drew, x.w.cell? ⟨b, o, none⟩ = some v :=
  fun x => (Below.cell (p := ⟨b, o, none⟩) x.later (lt_of_cell h)).trans h
theorem below_drewN {B : Nat} {a w : World} (h : Below B a w) (n : Nat) : Below B a (w.drewN n) := ⟨h.os, h.tape, h.output, h.size, h.block⟩
end Go.Proofs.Ytekmgffjdheifaa
