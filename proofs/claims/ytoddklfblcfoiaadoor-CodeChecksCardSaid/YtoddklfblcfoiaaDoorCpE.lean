/-
  The codes of the laws' anchor: what they come to. No condition: plain.
-/
import Derived.Test.YtoddklfblcfoiaaDoorCpD
namespace Go.Proofs.YtoddklfblcfoiaaDoor
open Go Go.RowKit
set_option linter.unusedVariables false
set_option linter.unusedSimpArgs false
set_option maxRecDepth 100000

def exI1 : Ins := ⟨1, 5, 0, 0, []⟩
def exI2 : Ins := ⟨16, 0, 0, 0, [105, 116, 111, 115]⟩
def exI3 : Ins := ⟨16, 0, 0, 0, [112, 114, 105, 110, 116]⟩
def exI4 : Ins := ⟨25, 0, 0, 0, []⟩
def exC : Cod := ⟨[[exI1, exI2, exI3, exI4]], [⟨[114], [105, 110, 116]⟩]⟩
def exD : Cod := ⟨[[exI2, exI3, exI4]], [⟨[114], [105, 110, 116]⟩]⟩
def exV : Lab := fun i => if i = 0 then some (0, []) else if i = 1 then some (1, []) else if i = 2 then some (1, []) else if i = 3 then some (1, []) else none
theorem exC_runs : RunsP [exI1, exI2, exI3, exI4] 0 ins0 := by
  refine ⟨exV, by decide, rfl, fun at_ s hs => ?_⟩
  unfold exV at hs
  split at hs
  · rename_i e; subst e; cases hs
    exact ⟨exI1, [(1, (1, []))], rfl, by kernel_rfl, fun t ht => by rw [List.mem_singleton.1 ht]; exact ⟨by decide, by decide, rfl⟩⟩
  split at hs
  · rename_i e; subst e; cases hs
    exact ⟨exI2, [(2, (1, []))], rfl, by kernel_rfl, fun t ht => by rw [List.mem_singleton.1 ht]; exact ⟨by decide, by decide, rfl⟩⟩
  split at hs
  · rename_i e; subst e; cases hs
    exact ⟨exI3, [(3, (1, []))], rfl, by kernel_rfl, fun t ht => by rw [List.mem_singleton.1 ht]; exact ⟨by decide, by decide, rfl⟩⟩
  split at hs
  · rename_i e; subst e; cases hs
    exact ⟨exI4, [], rfl, by kernel_rfl, fun t ht => by cases ht⟩
  · cases hs
theorem exD_runs : ¬ RunsP [exI2, exI3, exI4] 0 ins0 := by
  rintro ⟨V, _, h0, h⟩
  obtain ⟨x, ts, h1, h2, _⟩ := h 0 _ h0
  cases h1
  have e : outs V 0 ins0 0 exI2 (leastV 0, []) = none := by kernel_rfl
  rw [e] at h2
  cases h2
theorem grp_ex (l : List Ins) (h : ∀ x ∈ l, x.op.toNat ≠ 6) (b : By) : grpAll l b = some b := by
  induction l with
  | nil => rfl
  | cons x r ih =>
    unfold grpAll grpS
    rw [if_neg (h x (List.mem_cons_self ..))]
    exact ih (fun y hy => h y (List.mem_cons_of_mem _ hy))
theorem exC_check : checkE exC = 0 := by
  refine checkE_yes ⟨by simp [exC], ⟨by decide, fun i x hx => ?_⟩, fun l hl x hx => ?_, fun _ => none, ?_, fun f h1 h2 => ?_, fun i l hl => ?_⟩
  · cases i with
    | zero => cases hx; exact ⟨fun j hj => by omega, by kernel_rfl⟩
    | succ i => simp [exC] at hx
  · simp only [exC, List.mem_singleton] at hl
    subst hl
    simp only [List.mem_cons, List.not_mem_nil, or_false] at hx
    rcases hx with rfl | rfl | rfl | rfl <;> kernel_rfl
  · exact grp_ex _ (by intro x hx; simp [exC] at hx; rcases hx with rfl | rfl | rfl | rfl <;> decide) _
  · simp [exC] at h2; omega
  · cases i with
    | zero => cases hl; exact exC_runs
    | succ i => simp [exC] at hl
theorem exD_check : checkE exD = 17 := by
  refine checkE_no fun h => ?_
  obtain ⟨_, _, _, b, h1, h2, h3⟩ := h
  have hb : b = fun _ => none := by
    have := grp_ex exD.f.flatten (by intro x hx; simp [exD] at hx; rcases hx with rfl | rfl | rfl <;> decide) (fun _ => none)
    rw [h1] at this
    exact Option.some.inj this
  subst hb
  exact exD_runs (h3 0 _ rfl)
theorem exC_len : (codL exC).length ≤ 200 := by decide
end Go.Proofs.YtoddklfblcfoiaaDoor
