/-
  The small code, made. No condition.
-/
import Derived.Test.YtoddklfblcfoiaaDoorCpF
import Derived.Test.YtoddklfblcfoiaaDoorCqS
namespace Go.Proofs.YtoddklfblcfoiaaDoor
open Go Go.RowKit
set_option linter.unusedVariables false
set_option linter.unusedSimpArgs false
set_option maxRecDepth 100000

/-- the small code in memory: its two functions, and the slice of them -/
structure SmS (b0 b : Nat) (w : World) (l0 l1 : List Ins) (n0 n1 c0 c1 : Nat) : Prop where
  f0 : Own w b0 5 (.slice (some ⟨b + 1, 0, none⟩) n0 c0) n0 (inCells l0)
  f1 : Own w b0 5 (.slice (some ⟨b + 2, 0, none⟩) n1 c1) n1 (inCells l1)
  fs : Own w b0 1 (.slice (some ⟨b + 3, 0, none⟩) 2 2) 2 [.slice (some ⟨b + 1, 0, none⟩) n0 c0, .slice (some ⟨b + 2, 0, none⟩) n1 c1]
theorem SmS.mods {b0 b : Nat} {w w' : World} {l0 l1 : List Ins} {n0 n1 c0 c1 : Nat} {P : Nat → Prop} (h : SmS b0 b w l0 l1 n0 n1 c0 c1) (hm : Mods P w w') (h1 : ¬ P (b + 1)) (h2 : ¬ P (b + 2)) (h3 : ¬ P (b + 3)) : SmS b0 b w' l0 l1 n0 n1 c0 c1 :=
  ⟨h.f0.mods hm (fun g hg => by have e : b + 1 = g := by simpa [Value.ownBlock] using hg
                                rw [← e]; exact h1),
   h.f1.mods hm (fun g hg => by have e : b + 2 = g := by simpa [Value.ownBlock] using hg
                                rw [← e]; exact h2),
   h.fs.mods hm (fun g hg => by have e : b + 3 = g := by simpa [Value.ownBlock] using hg
                                rw [← e]; exact h3)⟩
theorem SmS.fresh {b0 b : Nat} {w w' : World} {l0 l1 : List Ins} {n0 n1 c0 c1 : Nat} (h : SmS b0 b w l0 l1 n0 n1 c0 c1) (hb : Below w.heap.size w w') : SmS b0 b w' l0 l1 n0 n1 c0 c1 :=
  h.mods (Mods.fresh hb (fun _ => False)) (fun h => h) (fun h => h) (fun h => h)
theorem SmS.cod {b0 b : Nat} {w : World} {l0 l1 : List Ins} {n0 n1 c0 c1 : Nat} (h : SmS b0 b w l0 l1 n0 n1 c0 c1) : CodM w (.slice (some ⟨b + 3, 0, none⟩) 2 2) (.slice none 0 0) ⟨[l0, l1], []⟩ := by
  have e0 : l0.length = n0 := by have := h.f0.1; rw [flat_len insC 5 insC_len] at this; omega
  have e1 : l1.length = n1 := by have := h.f1.1; rw [flat_len insC 5 insC_len] at this; omega
  refine ⟨⟨_, h.fs.sl, .cons ?_ (.cons ?_ .nil)⟩, Sl.nil w 2⟩
  · rw [e0]; exact h.f0.sl
  · rw [e1]; exact h.f1.sl
theorem small_mem (w : World) (va vb : Value) : ∃ w4, w4 = (((w.alloc (.cells #[va, vb] 25)).alloc (.cells #[.int .u8 1, .int .i64 5, .int .i64 0, .int .i64 0, .string ⟨#[]⟩, .int .u8 6, .int .i64 1, .int .i64 1, .int .i64 1, .string ⟨#[]⟩, .int .u8 18, .int .i64 7, .int .i64 0, .int .i64 0, .string ⟨#[]⟩, .int .u8 3, .int .i64 0, .int .i64 0, .int .i64 0, .string ⟨#[]⟩, .int .u8 1, .int .i64 7, .int .i64 0, .int .i64 0, .string ⟨#[]⟩, .int .u8 7, .int .i64 0, .int .i64 0, .int .i64 0, .string ⟨#[]⟩, .int .u8 19, .int .i64 0, .int .i64 0, .int .i64 0, .string ⟨#[]⟩, .int .u8 15, .int .i64 0, .int .i64 0, .int .i64 0, .string ⟨#[]⟩, .int .u8 25, .int .i64 0, .int .i64 0, .int .i64 0, .string ⟨#[]⟩] 46)).alloc (.cells #[.int .u8 3, .int .i64 0, .int .i64 0, .int .i64 0, .string ⟨#[]⟩, .int .u8 4, .int .i64 0, .int .i64 0, .int .i64 0, .string ⟨#[]⟩, .int .u8 16, .int .i64 0, .int .i64 0, .int .i64 0, .string ⟨#[43]⟩, .int .u8 8, .int .i64 0, .int .i64 0, .int .i64 0, .string ⟨#[]⟩] 46)).alloc (.cells #[.slice (some ⟨w.heap.size + 1, 0, none⟩) 9 9, .slice (some ⟨w.heap.size + 1 + 1, 0, none⟩) 4 4] 44)
    ∧ SmS w.heap.size w.heap.size w4 smF0 smF1 9 4 9 4 ∧ Below w.heap.size w w4 ∧ Row w4 w.heap.size 25 [va, vb] := by
  refine ⟨_, rfl, ?_⟩
  obtain ⟨w0, hw0⟩ : ∃ y, y = w.alloc (.cells #[va, vb] 25) := ⟨_, rfl⟩
  have r0 : Row w0 w.heap.size 25 [va, vb] := by rw [hw0]; exact Row.new w _ _
  have s0 : w0.heap.size = w.heap.size + 1 := by rw [hw0]; simp
  have b0 : Below w.heap.size w w0 := by rw [hw0]; exact (Below.refl _ _).alloc (Nat.le_refl _) _
  obtain ⟨w1, hw1⟩ : ∃ y, y = w0.alloc (.cells (inCells smF0).toArray 46) := ⟨_, rfl⟩
  have h1 : Own w1 w.heap.size 5 (.slice (some ⟨w0.heap.size, 0, none⟩) 9 9) 9 (inCells smF0) := by rw [hw1]; exact own_new w0 (inCells smF0) 46 5 9 (by omega) rfl (by decide)
  have s1 : w1.heap.size = w.heap.size + 2 := by rw [hw1]; simp [s0]
  have b1 : Below w0.heap.size w0 w1 := by rw [hw1]; exact (Below.refl _ _).alloc (Nat.le_refl _) _
  obtain ⟨w2, hw2⟩ : ∃ y, y = w1.alloc (.cells (inCells smF1).toArray 46) := ⟨_, rfl⟩
  have h2 : Own w2 w.heap.size 5 (.slice (some ⟨w1.heap.size, 0, none⟩) 4 4) 4 (inCells smF1) := by rw [hw2]; exact own_new w1 (inCells smF1) 46 5 4 (by omega) rfl (by decide)
  have s2 : w2.heap.size = w.heap.size + 3 := by rw [hw2]; simp [s1]
  have b2 : Below w1.heap.size w1 w2 := by rw [hw2]; exact (Below.refl _ _).alloc (Nat.le_refl _) _
  obtain ⟨w3, hw3⟩ : ∃ y, y = w2.alloc (.cells [.slice (some ⟨w.heap.size + 1, 0, none⟩) 9 9, .slice (some ⟨w.heap.size + 1 + 1, 0, none⟩) 4 4].toArray 44) := ⟨_, rfl⟩
  have h3 : Own w3 w.heap.size 1 (.slice (some ⟨w2.heap.size, 0, none⟩) 2 2) 2 [.slice (some ⟨w.heap.size + 1, 0, none⟩) 9 9, .slice (some ⟨w.heap.size + 1 + 1, 0, none⟩) 4 4] := by rw [hw3]; exact own_new w2 _ 44 1 2 (by omega) rfl (by decide)
  have b3 : Below w2.heap.size w2 w3 := by rw [hw3]; exact (Below.refl _ _).alloc (Nat.le_refl _) _
  rw [s0] at h1
  rw [s1] at h2
  rw [s2] at h3
  have e3 : w3 = (((w.alloc (.cells #[va, vb] 25)).alloc (.cells (inCells smF0).toArray 46)).alloc (.cells (inCells smF1).toArray 46)).alloc (.cells #[.slice (some ⟨w.heap.size + 1, 0, none⟩) 9 9, .slice (some ⟨w.heap.size + 1 + 1, 0, none⟩) 4 4] 44) := by rw [hw3, hw2, hw1, hw0]
  have key : SmS w.heap.size w.heap.size w3 smF0 smF1 9 4 9 4 ∧ Below w.heap.size w w3 ∧ Row w3 w.heap.size 25 [va, vb] :=
    ⟨⟨(h1.below b2).below b3, h2.below b3, h3⟩, ((b0.trans (b1.mono b0.size)).trans (b2.mono (by omega))).trans (b3.mono (by omega)), ((r0.after b1).after b2).after b3⟩
  rw [e3] at key
  exact key
set_option maxHeartbeats 2000000 in
theorem small_p (w : World) : Calls Tryd.prog 25 #[] w fun e w' => e = .returned (.agg #[.slice (some ⟨w.heap.size + 3, 0, none⟩) 2 2, .slice none 0 0]) ∧ SmS w.heap.size w.heap.size w' smF0 smF1 9 4 9 4 ∧ Below w.heap.size w w' := by
  go_enter Tryd.func25, Tryd.ntmps25
  go_wp2_with fail
  obtain ⟨w4, hw4, hS, hB, hR⟩ := small_mem w (.slice (some ⟨w.heap.size + 1 + 1 + 1, 0, none⟩) 2 2) (.slice none 0 0)
  rw [← hw4]
  try simp only [Exit.inBlock, Exit.then]
  refine bodyPost_ret (results_cell_row Tryd.results25 _ _ w.heap.size 25 _ (0, 0) _ rfl hR Tryd.underlying25 rfl (by kernel_rfl)) rfl ?_
  exact ⟨rfl, hS, hB⟩
end Go.Proofs.YtoddklfblcfoiaaDoor
