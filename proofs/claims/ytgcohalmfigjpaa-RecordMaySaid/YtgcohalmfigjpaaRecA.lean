/-
  The table of the kinds' limits, walked.
-/
import Derived.Test.YtgcohalmfigjpaaB
import Derived.MapKept
namespace Go.Proofs.Ytgcohalmfigjpaa
open Go.RowKit
set_option linter.unusedVariables false
set_option linter.unusedSimpArgs false

theorem upd (w : World) (es : Array MapEntry) (clock : Nat) (q : Int) (val : Value) (hf : Instr.findNow (.int .u8) (.int .u8 q) es.toList 0 = some none) :
    (Instr.mapUpdate 64 (.map (some w.heap.size)) (.int .u8 q) val).run Try.prog (w.alloc (.map es clock)) = .ok () (w.alloc (.map (es.push { key := .int .u8 q, val := val, born := clock }) (clock + 1))) := by
  have h0 : (w.alloc (.map es clock)).heap[w.heap.size]? = some (.map es clock) := heap_alloc_new _ _
  have h1 : (Instr.checkKey false 10000 5 (.int .u8 q)).run Try.prog (w.alloc (.map es clock)) = .ok () (w.alloc (.map es clock)) := by
    rw [Instr.checkKey]
    simp [run_underlying Try.underlying5]
  have h2 : (Instr.findKey 5 (.int .u8 q) es.toList).run Try.prog (w.alloc (.map es clock)) = .ok none (w.alloc (.map es clock)) := by
    rw [Instr.findKey]
    simp [run_underlying Try.underlying5, hf]
  simp [Instr.mapUpdate, run_underlying Try.underlying64, MapKept.run_getObj_map h0, h1, h2, MapKept.run_setObj_map _ h0, Result.andThen]
  congr 1
  apply Array.ext_getElem?
  intro i
  by_cases hi : i = w.heap.size
  · subst hi; simp
  · rw [show (w.alloc (.map es clock)).heap = w.heap.push (.map es clock) from rfl]
    simp [Array.getElem?_setIfInBounds, Array.getElem?_push, hi, Ne.symm hi]
def limE : Array MapEntry := #[⟨.int .u8 1, .agg #[.int .i64 2, .int .i64 8192], 0⟩, ⟨.int .u8 2, .agg #[.int .i64 0, .int .i64 1], 1⟩, ⟨.int .u8 3, .agg #[.int .i64 1, .int .i64 1], 2⟩, ⟨.int .u8 4, .agg #[.int .i64 0, .int .i64 8192], 3⟩, ⟨.int .u8 5, .agg #[.int .i64 0, .int .i64 0], 4⟩]
theorem words_any (w : World) : Calls Try.prog 35 #[] w fun e w' => e = .returned (.map (some w.heap.size)) ∧ w' = w.alloc (.map limE 5) := by
  have hmm := @run_makeMap Try.prog
  have u1 : (Instr.mapUpdate 64 (.map (some w.heap.size)) (.int .u8 1) (.agg #[.int .i64 2, .int .i64 8192])).run Try.prog (w.alloc (.map #[] 0)) = .ok () (w.alloc (.map #[⟨.int .u8 1, .agg #[.int .i64 2, .int .i64 8192], 0⟩] 1)) := upd w #[] 0 1 _ rfl
  have u2 : (Instr.mapUpdate 64 (.map (some w.heap.size)) (.int .u8 2) (.agg #[.int .i64 0, .int .i64 1])).run Try.prog (w.alloc (.map #[⟨.int .u8 1, .agg #[.int .i64 2, .int .i64 8192], 0⟩] 1)) = .ok () (w.alloc (.map #[⟨.int .u8 1, .agg #[.int .i64 2, .int .i64 8192], 0⟩, ⟨.int .u8 2, .agg #[.int .i64 0, .int .i64 1], 1⟩] 2)) := upd w #[⟨.int .u8 1, .agg #[.int .i64 2, .int .i64 8192], 0⟩] 1 2 _ rfl
  have u3 : (Instr.mapUpdate 64 (.map (some w.heap.size)) (.int .u8 3) (.agg #[.int .i64 1, .int .i64 1])).run Try.prog (w.alloc (.map #[⟨.int .u8 1, .agg #[.int .i64 2, .int .i64 8192], 0⟩, ⟨.int .u8 2, .agg #[.int .i64 0, .int .i64 1], 1⟩] 2)) = .ok () (w.alloc (.map #[⟨.int .u8 1, .agg #[.int .i64 2, .int .i64 8192], 0⟩, ⟨.int .u8 2, .agg #[.int .i64 0, .int .i64 1], 1⟩, ⟨.int .u8 3, .agg #[.int .i64 1, .int .i64 1], 2⟩] 3)) := upd w #[⟨.int .u8 1, .agg #[.int .i64 2, .int .i64 8192], 0⟩, ⟨.int .u8 2, .agg #[.int .i64 0, .int .i64 1], 1⟩] 2 3 _ rfl
  have u4 : (Instr.mapUpdate 64 (.map (some w.heap.size)) (.int .u8 4) (.agg #[.int .i64 0, .int .i64 8192])).run Try.prog (w.alloc (.map #[⟨.int .u8 1, .agg #[.int .i64 2, .int .i64 8192], 0⟩, ⟨.int .u8 2, .agg #[.int .i64 0, .int .i64 1], 1⟩, ⟨.int .u8 3, .agg #[.int .i64 1, .int .i64 1], 2⟩] 3)) = .ok () (w.alloc (.map #[⟨.int .u8 1, .agg #[.int .i64 2, .int .i64 8192], 0⟩, ⟨.int .u8 2, .agg #[.int .i64 0, .int .i64 1], 1⟩, ⟨.int .u8 3, .agg #[.int .i64 1, .int .i64 1], 2⟩, ⟨.int .u8 4, .agg #[.int .i64 0, .int .i64 8192], 3⟩] 4)) := upd w #[⟨.int .u8 1, .agg #[.int .i64 2, .int .i64 8192], 0⟩, ⟨.int .u8 2, .agg #[.int .i64 0, .int .i64 1], 1⟩, ⟨.int .u8 3, .agg #[.int .i64 1, .int .i64 1], 2⟩] 3 4 _ rfl
  have u5 : (Instr.mapUpdate 64 (.map (some w.heap.size)) (.int .u8 5) (.agg #[.int .i64 0, .int .i64 0])).run Try.prog (w.alloc (.map #[⟨.int .u8 1, .agg #[.int .i64 2, .int .i64 8192], 0⟩, ⟨.int .u8 2, .agg #[.int .i64 0, .int .i64 1], 1⟩, ⟨.int .u8 3, .agg #[.int .i64 1, .int .i64 1], 2⟩, ⟨.int .u8 4, .agg #[.int .i64 0, .int .i64 8192], 3⟩] 4)) = .ok () (w.alloc (.map #[⟨.int .u8 1, .agg #[.int .i64 2, .int .i64 8192], 0⟩, ⟨.int .u8 2, .agg #[.int .i64 0, .int .i64 1], 1⟩, ⟨.int .u8 3, .agg #[.int .i64 1, .int .i64 1], 2⟩, ⟨.int .u8 4, .agg #[.int .i64 0, .int .i64 8192], 3⟩, ⟨.int .u8 5, .agg #[.int .i64 0, .int .i64 0], 4⟩] 5)) := upd w #[⟨.int .u8 1, .agg #[.int .i64 2, .int .i64 8192], 0⟩, ⟨.int .u8 2, .agg #[.int .i64 0, .int .i64 1], 1⟩, ⟨.int .u8 3, .agg #[.int .i64 1, .int .i64 1], 2⟩, ⟨.int .u8 4, .agg #[.int .i64 0, .int .i64 8192], 3⟩] 4 5 _ rfl
  go_enter Try.func35, Try.ntmps35
  go_wp2_with fail
  go_ret
  exact ⟨rfl, rfl⟩

/-! ### what the table says -/
def lmin (K : Nat) : Int := if K = 1 then 2 else if K = 3 then 1 else 0
def lmax (K : Nat) : Int := if K = 1 ∨ K = 4 then 8192 else if K = 2 ∨ K = 3 then 1 else 0
def lis (K : Nat) : Bool := decide (1 ≤ K ∧ K ≤ 5)
theorem look_of (w : World) (r : Nat) (q : Int) (hr : w.heap[r]? = some (.map limE 5)) (i : Nat) (x : Value) (hv : Instr.findNow (.int .u8) (.int .u8 q) limE.toList 0 = some (some (i, x))) :
    (Instr.lookup 64 (.map (some r)) (.int .u8 q) true).run Try.prog w = .ok (.tuple #[x, .bool true]) w := by
  have h9 : limE.isEmpty = false := rfl
  have h1 : (Instr.checkKey false 10000 5 (.int .u8 q)).run Try.prog w = .ok () w := by
    rw [Instr.checkKey]
    simp [run_underlying Try.underlying5]
  have hf : (Instr.findKey 5 (.int .u8 q) limE.toList).run Try.prog w = .ok (some (i, x)) w := by
    rw [Instr.findKey]
    simp [run_underlying Try.underlying5, hv]
  simp [Instr.lookup, run_underlying Try.underlying64, MapKept.run_getObj_map hr, h9, h1, hf, Result.andThen]
theorem look_not (w : World) (r : Nat) (q : Int) (hr : w.heap[r]? = some (.map limE 5)) (hv : Instr.findNow (.int .u8) (.int .u8 q) limE.toList 0 = some none) :
    (Instr.lookup 64 (.map (some r)) (.int .u8 q) true).run Try.prog w = .ok (.tuple #[.agg #[.int .i64 0, .int .i64 0], .bool false]) w := by
  have h9 : limE.isEmpty = false := rfl
  have hz : (zeroValue 62).run Try.prog w = .ok (.agg #[.int .i64 0, .int .i64 0]) w := by kernel_rfl
  have h1 : (Instr.checkKey false 10000 5 (.int .u8 q)).run Try.prog w = .ok () w := by
    rw [Instr.checkKey]
    simp [run_underlying Try.underlying5]
  have hf : (Instr.findKey 5 (.int .u8 q) limE.toList).run Try.prog w = .ok none w := by
    rw [Instr.findKey]
    simp [run_underlying Try.underlying5, hv]
  simp [Instr.lookup, run_underlying Try.underlying64, MapKept.run_getObj_map hr, h9, h1, hf, hz, Result.andThen]
theorem look (w : World) (r K : Nat) (hr : w.heap[r]? = some (.map limE 5)) :
    (Instr.lookup 64 (.map (some r)) (.int .u8 (K : Int)) true).run Try.prog w = .ok (.tuple #[.agg #[.int .i64 (lmin K), .int .i64 (lmax K)], .bool (lis K)]) w := by
  by_cases k1 : K = 1
  · subst k1; exact look_of w r 1 hr 0 _ rfl
  by_cases k2 : K = 2
  · subst k2; exact look_of w r 2 hr 1 _ rfl
  by_cases k3 : K = 3
  · subst k3; exact look_of w r 3 hr 2 _ rfl
  by_cases k4 : K = 4
  · subst k4; exact look_of w r 4 hr 3 _ rfl
  by_cases k5 : K = 5
  · subst k5; exact look_of w r 5 hr 4 _ rfl
  have hn : Instr.findNow (.int .u8) (.int .u8 (K : Int)) limE.toList 0 = some none := by
    have e1 : ((K : Int) == 1) = false := by rw [beq_eq_false_iff_ne]; omega
    have e2 : ((K : Int) == 2) = false := by rw [beq_eq_false_iff_ne]; omega
    have e3 : ((K : Int) == 3) = false := by rw [beq_eq_false_iff_ne]; omega
    have e4 : ((K : Int) == 4) = false := by rw [beq_eq_false_iff_ne]; omega
    have e5 : ((K : Int) == 5) = false := by rw [beq_eq_false_iff_ne]; omega
    simp [limE, Instr.findNow, Instr.sameNow, e1, e2, e3, e4, e5]
  have a1 : lmin K = 0 := by rw [lmin, if_neg k1, if_neg k3]
  have a2 : lmax K = 0 := by rw [lmax, if_neg (by omega), if_neg (by omega)]
  have a3 : lis K = false := by rw [lis, decide_eq_false_iff_not]; omega
  rw [a1, a2, a3]
  exact look_not w r _ hr hn
end Go.Proofs.Ytgcohalmfigjpaa
