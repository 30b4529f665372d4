/-
  Check: groups in new memory. No condition.
-/
import Derived.Test.YtoddklfblcfoiaaDoorCoH
import Derived.Test.YtoddklfblcfoiaaDoorCoY
import Derived.Test.YtoddklfblcfoiaaDoorCoZ
import Derived.Test.YtoddklfblcfoiaaDoorCpB
namespace Go.Proofs.YtoddklfblcfoiaaDoor
open Go Go.RowKit
set_option linter.unusedVariables false
set_option linter.unusedSimpArgs false
set_option maxRecDepth 100000

theorem made_ins (n : Nat) : (madeCells #[.int .u8 0, .int .i64 0, .int .i64 0, .int .i64 0, .string ⟨#[]⟩] (n * 5)).toList = inCells (List.replicate n ins0) := by
  apply List.ext_getElem?
  intro j
  by_cases hj : j < n * 5
  · have h1 : j / 5 < n := by omega
    have h2 := flat_get insC 5 insC_len (List.replicate n ins0) (j / 5) (j % 5) ins0 (by rw [List.getElem?_replicate, if_pos h1]) (Nat.mod_lt _ (by decide))
    rw [show j / 5 * 5 + j % 5 = j by omega] at h2
    rw [h2]
    have h3 : (madeCells #[.int .u8 0, .int .i64 0, .int .i64 0, .int .i64 0, .string ⟨#[]⟩] (n * 5)).toList[j]? = some ((#[Value.int .u8 0, .int .i64 0, .int .i64 0, .int .i64 0, .string ⟨#[]⟩] : Array Value)[j % 5]!) := by
      simp [madeCells, hj]
    rw [h3]
    have h4 : j % 5 = 0 ∨ j % 5 = 1 ∨ j % 5 = 2 ∨ j % 5 = 3 ∨ j % 5 = 4 := by omega
    rcases h4 with e | e | e | e | e <;> rw [e] <;> rfl
  · have h1 : (inCells (List.replicate n ins0)).length = n * 5 := by rw [flat_len insC 5 insC_len, List.length_replicate]
    have h2 : (inCells (List.replicate n ins0))[j]? = none := List.getElem?_eq_none (by rw [h1]; omega)
    have h3 : (madeCells #[.int .u8 0, .int .i64 0, .int .i64 0, .int .i64 0, .string ⟨#[]⟩] (n * 5)).toList[j]? = none := List.getElem?_eq_none (by simp [size_madeCells]; omega)
    rw [h2, h3]
/-- groups, all of them free -/
theorem wpL_makeIns {P : Program} {w : World} {ops : Array Oper} {rest : List Oper} {o : Oper} {a : Act} {Q : Exit → Act → World → Prop} {t e : TypeId} {bytes : Nat} (hT : ET P t e (.agg #[.int .u8 0, .int .i64 0, .int .i64 0, .int .i64 0, .string ⟨#[]⟩]) 5 bytes)
    (hgd : o.guard = none) (l c : Operand) (ho : o.op = .makeSlice t l c) (n : Nat) (base : Nat) {kl kc : IntKind} {L C : Int} (hl : a.eval l = .int kl L) (hc : a.eval c = .int kc C) (hL : L = (n : Int)) (hC : C = (n : Int))
    (b2 : bytes * n ≤ 281474976710656) (b3 : n ≤ maxLen) (b4 : base ≤ w.heap.size)
    (h : ∀ g off w', Own w' base 5 (.slice (some ⟨g, off, none⟩) n n) n (inCells (List.replicate n ins0)) → Below w.heap.size w w' → w.heap.size ≤ g → wpList P ops Q rest (a.put o.dst (.slice (some ⟨g, off, none⟩) n n)) w') : wpList P ops Q (o :: rest) a w := by
  obtain ⟨i, hi, hz0, hz1, hz2⟩ := info_parts hT.info
  refine wpList_make_full w hgd l c t ho base e i _ 5 hT.und hi hz0 hz1 kl kc L C n hl hc hL hC (by rw [hz2]; exact b2) b3 b4 ?_
  intro w' h1 h2
  have e1 : (Value.agg #[.int .u8 0, .int .i64 0, .int .i64 0, .int .i64 0, .string ⟨#[]⟩]).cells = #[.int .u8 0, .int .i64 0, .int .i64 0, .int .i64 0, .string ⟨#[]⟩] := by rfl
  rw [e1, made_ins] at h1
  exact h _ _ w' (Own.ofRow h1) (below_of_grown0 h2) (Nat.le_refl _)
end Go.Proofs.YtoddklfblcfoiaaDoor
