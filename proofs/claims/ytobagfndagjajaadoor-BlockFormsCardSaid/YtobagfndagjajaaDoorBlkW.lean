/-
  The law's works, walked.
-/
import Derived.Test.YtobagfndagjajaaDoorBlkE
namespace Go.Proofs.YtobagfndagjajaaDoor
open Go.RowKit
set_option linter.unusedVariables false
set_option linter.unusedSimpArgs false

def exB : List UInt8 := blkL 9 [1, 2]
theorem exB_is : exB = blkQ 9 [1, 2] ∧ 256 = exB.length ∧ (0 : Int) = blkE 9 [1, 2] := by
  have h : blkE 9 [1, 2] = 0 := by decide
  refine ⟨?_, ?_, h.symm⟩
  · rw [blkQ, if_pos h]; rfl
  · rw [exB, blkL_len 9 [1, 2] (by decide)]
theorem exB_open : OpIs exB 9 [1, 2] 2 0 := by
  obtain ⟨h1, h2, h3⟩ := seal_open 9 [1, 2] (by decide) (by decide)
  refine ⟨?_, ?_, rfl, ?_⟩
  · rw [exB, h1, h2]; rfl
  · rw [exB, h1, h3]; rfl
  · rw [exB, h1]; rfl
theorem zero_open : OpIs (List.replicate 256 0) 0 [] 0 8 := by
  have h : opOk (List.replicate 256 0) = false := by
    rw [opOk]
    have : opK (List.replicate 256 0) = 0 := rfl
    rw [this, decide_eq_true rfl, Bool.not_true, Bool.false_and, Bool.and_false, Bool.and_false]
  refine ⟨?_, ?_, rfl, ?_⟩ <;> rw [h] <;> rfl
theorem seal_ex (w : World) (a : Option Addr) (c : Nat) (hl : Sl w 1 (.slice a 2 c) 2 (bvs [1, 2])) : Calls Tryd.prog 11 #[.int .u8 9, .slice a 2 c] w fun e w' => ∃ v, e = .returned (.tuple #[v, .int .i64 0]) ∧ Own w' w.heap.size 1 v 256 (bvs exB) ∧ Below w.heap.size w w' :=
  seal_p 9 a 2 c [1, 2] w hl exB 256 0 exB_is
theorem open_ex (a : Option Addr) (c : Nat) (w : World) (hl : Sl w 1 (.slice a 256 c) 256 (bvs exB)) : Calls Tryd.prog 16 #[.slice a 256 c] w fun e w' => ∃ v, e = .returned (.tuple #[.int .u8 9, v, .int .i64 0]) ∧ Own w' w.heap.size 1 v 2 (bvs [1, 2]) ∧ Below w.heap.size w w' :=
  open_p a 256 c exB w hl 9 [1, 2] 2 0 exB_open
theorem open_zero (a : Option Addr) (c : Nat) (w : World) (hl : Sl w 1 (.slice a 256 c) 256 (bvs (List.replicate 256 0))) : Calls Tryd.prog 16 #[.slice a 256 c] w fun e w' => ∃ v, e = .returned (.tuple #[.int .u8 0, v, .int .i64 8]) ∧ Own w' w.heap.size 1 v 0 (bvs []) ∧ Below w.heap.size w w' :=
  open_p a 256 c (List.replicate 256 0) w hl 0 [] 0 8 zero_open
set_option maxRecDepth 100000 in
set_option maxHeartbeats 4000000 in
theorem works_any (w : World) : Calls Tryd.prog 9 #[] w fun e w' => e = .returned (.bool true) ∧ Below w.heap.size w w' := by
  go_enter Tryd.func9, Tryd.ntmps9
  have hr0 := Row.new w [.int .u8 1, .int .u8 2] 5
  have ho0 := own_row hr0 (base := w.heap.size) (Nat.le_refl _) (show 2 ≤ maxLen by decide)
  have hb0 : Below w.heap.size w (w.alloc (.cells #[.int .u8 1, .int .u8 2] 5)) := (Below.refl _ _).alloc (Nat.le_refl _) _
  simp only [List.length_cons, List.length_nil, Nat.zero_add, Nat.reduceAdd] at ho0
  have hc0 : [Value.int .u8 1, .int .u8 2] = bvs [1, 2] := by rfl
  rw [hc0] at ho0
  have hs0 : Sl (w.alloc (.cells #[.int .u8 1, .int .u8 2] 5)) 1 (.slice (some ⟨w.heap.size, 0, none⟩) 2 2) 2 (bvs [1, 2]) := ho0.sl
  clear hr0 ho0 hc0
  go_wp2_with fail
  refine (seal_ex _ _ 2 hs0).mono ?_
  rintro e w1 ⟨v1, rfl, ho1, hb1⟩
  obtain ⟨a1, c1, rfl⟩ := ho1.form
  have hB1 := hb0.trans (hb1.mono hb0.size)
  clear hb0 hb1 hs0
  go_wp2_with fail
  refine (open_ex a1 c1 w1 ho1.sl).mono ?_
  rintro e w2 ⟨v2, rfl, ho2, hb2⟩
  obtain ⟨a2, c2, rfl⟩ := ho2.form
  have hB2 := hB1.trans (hb2.mono hB1.size)
  clear hB1 hb2
  go_wp2_with (at_make; refine wpL_make etB rfl rfl _ _ rfl 256 w2.heap.size rfl rfl rfl rfl (by decide) (by decide) (Nat.le_refl _) ?_; intro v3 w3 ho3 hb3 hg3; obtain ⟨g3, f3, rfl, hgl⟩ := hg3; rw [bvs_replicate] at ho3)
  have hB3 := hB2.trans (hb3.mono hB2.size)
  have ho23 := ho2.below hb3
  refine (open_zero _ 256 w3 ho3.sl).mono ?_
  rintro e w4 ⟨v4, rfl, ho4, hb4⟩
  obtain ⟨a4, c4, rfl⟩ := ho4.form
  have hB4 := hB3.trans (hb4.mono hB3.size)
  have ho24 := ho23.below hb4
  obtain ⟨bi, oi, rfl, hi⟩ := ho24.sl.byte (k := 1) (by omega)
  have hi' : w4.cell? ⟨bi, oi + 1, none⟩ = some (.int .u8 2) := hi
  clear hi ho2 ho3 hb3 ho23 hB2 hB3 hb4 ho4
  go_wp2_with fail
  go_ret
  exact ⟨rfl, hB4⟩
end Go.Proofs.YtobagfndagjajaaDoor
