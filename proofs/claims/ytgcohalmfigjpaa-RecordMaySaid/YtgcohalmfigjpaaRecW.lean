/-
  The law's works, walked.
-/
import Derived.Test.YtgcohalmfigjpaaRecL
import Derived.Test.YtgcohalmfigjpaaRecP
import Derived.Test.YtgcohalmfigjpaaRecI
namespace Go.Proofs.Ytgcohalmfigjpaa
open Go.RowKit
set_option linter.unusedVariables false
set_option linter.unusedSimpArgs false

def exQ : List UInt8 := writeL 3 0 [(2, 3)] []
theorem exE : wrE 3 0 [(2, 3)] [] = 0 := by
  unfold wrE mayO
  rw [mayN_cnt]
  decide
theorem ex_is : (exQ = wrQ 3 0 [(2, 3)] [] ∧ 14 = exQ.length ∧ (0 : Int) = wrE 3 0 [(2, 3)] []) := by
  refine ⟨?_, ?_, exE.symm⟩
  · rw [wrQ, if_pos exE]; rfl
  · rw [exQ, writeL_len]; rfl
theorem ex_read : RdIs exQ 3 0 [(2, 3)] [] 1 0 := by
  obtain ⟨h1, h2, h3, h4, h5⟩ := wr_read 3 0 [(2, 3)] [] exE
  refine ⟨?_, ?_, ?_, ?_, rfl, ?_⟩
  · rw [exQ, h1, h2]; rfl
  · rw [exQ, h1, h3]; rfl
  · rw [exQ, h1, h4]; rfl
  · rw [exQ, h1, h5]; rfl
  · rw [exQ, h1]; rfl
theorem nil_read : RdIs [] 0 0 [] [] 0 8 := by
  have h : rdOk [] = false := rfl
  refine ⟨?_, ?_, ?_, ?_, rfl, ?_⟩ <;> rw [h] <;> rfl
theorem ex_oids : ([3] : List Int) = oidsL [(2, 3)] ∧ 1 = ([3] : List Int).length := ⟨rfl, rfl⟩
theorem write_ex (b : Nat) (w : World) (hl : Sl w 2 (.slice (some ⟨b, 0, none⟩) 1 1) 1 (wcells [(2, 3)])) : Calls Try.prog 12 #[.agg #[.int .u8 3, .int .i64 0, .slice (some ⟨b, 0, none⟩) 1 1, .string ⟨#[]⟩]] w fun e w' => ∃ v, e = .returned (.tuple #[v, .int .i64 0]) ∧ Own w' w.heap.size 1 v 14 (bvs exQ) ∧ Below w.heap.size w w' :=
  write_p 3 0 (some ⟨b, 0, none⟩) 1 1 [(2, 3)] [] w hl (by decide) 0 rfl (by decide) exQ 14 0 ex_is
theorem read_ex (a : Option Addr) (c : Nat) (w : World) (hl : Sl w 1 (.slice a 14 c) 14 (bvs exQ)) : Calls Try.prog 18 #[.slice a 14 c] w fun e w' => ∃ v, e = .returned (.tuple #[.agg #[.int .u8 3, .int .i64 0, v, .string ⟨#[]⟩], .int .i64 0]) ∧ Own w' w.heap.size 2 v 1 (wcells [(2, 3)]) ∧ Below w.heap.size w w' :=
  read_p a 14 c exQ w hl (by decide) 3 0 [(2, 3)] [] 1 0 ex_read
theorem read_nil (w : World) : Calls Try.prog 18 #[.slice none 0 0] w fun e w' => ∃ v, e = .returned (.tuple #[.agg #[.int .u8 0, .int .i64 0, v, .string ⟨#[]⟩], .int .i64 8]) ∧ Own w' w.heap.size 2 v 0 (wcells []) ∧ Below w.heap.size w w' :=
  read_p none 0 0 [] w (Sl.nil _ _) (by decide) 0 0 [] [] 0 8 nil_read
theorem oids_ex (b : Nat) (w : World) (hl : Sl w 2 (.slice (some ⟨b, 0, none⟩) 1 1) 1 (wcells [(2, 3)])) : Calls Try.prog 21 #[.agg #[.int .u8 3, .int .i64 0, .slice (some ⟨b, 0, none⟩) 1 1, .string ⟨#[]⟩]] w fun e w' => ∃ v, e = .returned v ∧ Own w' w.heap.size 1 v 1 (ints [3]) ∧ Below w.heap.size w w' :=
  oids_p 3 0 (some ⟨b, 0, none⟩) 1 1 [(2, 3)] [] w hl (by decide) [3] 1 ex_oids
theorem same_ex (b : Nat) (a : Option Addr) (c : Nat) (w : World) (h1 : Sl w 2 (.slice (some ⟨b, 0, none⟩) 1 1) 1 (wcells [(2, 3)])) (h2 : Sl w 2 (.slice a 1 c) 1 (wcells [(2, 3)])) : Calls Try.prog 15 #[.agg #[.int .u8 3, .int .i64 0, .slice (some ⟨b, 0, none⟩) 1 1, .string ⟨#[]⟩], .agg #[.int .u8 3, .int .i64 0, .slice a 1 c, .string ⟨#[]⟩]] w fun e w' => e = .returned (.bool true) ∧ Below w.heap.size w w' :=
  same_t 3 0 (some ⟨b, 0, none⟩) 1 1 a c [(2, 3)] [] w h1 h2
set_option maxRecDepth 100000 in
set_option maxHeartbeats 4000000 in
theorem works_any (w : World) : Calls Try.prog 10 #[] w fun e w' => e = .returned (.bool true) ∧ Below w.heap.size w w' := by
  go_enter Try.func10, Try.ntmps10
  have hs0 : Sl (w.alloc (.cells #[.int .u8 2, .int .i64 3] 44)) 2 (.slice (some ⟨w.heap.size, 0, none⟩) 1 1) 1 (wcells [(2, 3)]) := by
    refine ⟨rfl, _, _, rfl, Nat.le_refl _, by decide, by simp, fun j u hu => ⟨_, 0, rfl, ?_⟩⟩
    rw [Nat.zero_add]
    exact ((Row.new w [.int .u8 2, .int .i64 3] 44).cell j).trans hu
  have hb0 : Below w.heap.size w (w.alloc (.cells #[.int .u8 2, .int .i64 3] 44)) := (Below.refl _ _).alloc (Nat.le_refl _) _
  have hrA0 := Row.new (w.alloc (.cells #[.int .u8 2, .int .i64 3] 44)) [.int .u8 0, .int .i64 0, .slice none 0 0, .string ⟨#[]⟩] 24
  rw [World.size_alloc] at hrA0
  have hb1 := hb0.alloc hb0.size (.cells #[.int .u8 0, .int .i64 0, .slice none 0 0, .string ⟨#[]⟩] 24)
  have hs1 := hs0.below ((Below.refl (w.alloc (.cells #[.int .u8 2, .int .i64 3] 44)).heap.size _).alloc (Nat.le_refl _) (.cells #[.int .u8 0, .int .i64 0, .slice none 0 0, .string ⟨#[]⟩] 24))
  have hrW := hrA0
  obtain ⟨A, hA⟩ : ∃ A, A = w.heap.size := ⟨_, rfl⟩
  have HA := Lib.hid hA
  have hAw : w.heap.size ≤ A := by omega
  rw [← hA] at hs1 hrA0
  clear hA
  go_upto_region 2 with (refine wpL_storeRow rfl _ _ _ rfl (cs := [.int .u8 3, .int .i64 0, .slice (some ⟨w.heap.size, 0, none⟩) 1 1, .string ⟨#[]⟩]) rfl rfl hrW (by kernel_rfl) rfl rfl ?_; intro w2 hg2 hr2)
  have hB2 := hb1.grown hg2 hb1.size (fun g e => by cases e; omega)
  have hs2 : Sl w2 2 (.slice (some ⟨A, 0, none⟩) 1 1) 1 (wcells [(2, 3)]) := hs1.mods (Mods.grown hg2) (fun g hg e => by simp [Value.ownBlock] at hg e; have := HA.out; omega)
  rw [← HA.out] at hr2 ⊢
  obtain ⟨C, hC⟩ : ∃ C, C = A + 1 := ⟨_, rfl⟩
  rw [← hC] at hr2 ⊢
  clear HA hC hs0 hb0 hrA0 hrW hb1 hs1 hg2
  go_upto_region 3 with (refine wpL_loadRow rfl _ _ rfl rfl hr2 Try.underlying24 rfl (by kernel_rfl) ?_)
  refine (write_ex A w2 hs2).mono ?_
  rintro e w3 ⟨v3, rfl, ho3, hb3⟩
  obtain ⟨a3, c3, rfl⟩ := ho3.form
  have hr3 := hr2.after hb3
  have hs3 := hs2.below hb3
  have hB3 := hB2.trans (hb3.mono hB2.size)
  clear hr2 hs2 hB2 hb3
  go_upto_region 3 with fail
  go_wp2_with fail
  refine (read_ex a3 c3 w3 ho3.sl).mono ?_
  rintro e w4 ⟨v4, rfl, ho4, hb4⟩
  obtain ⟨a4, c4, rfl⟩ := ho4.form
  have hr4 := hr3.after hb4
  have hs4 := hs3.below hb4
  have ho3b := ho3.below hb4
  have hB4 := hB3.trans (hb4.mono hB3.size)
  clear hr3 hs3 hB3 hb4 ho3
  have hrZ := Row.new w4 [.int .u8 0, .int .i64 0, .slice none 0 0, .string ⟨#[]⟩] 24
  have hbZ : Below w4.heap.size w4 (w4.alloc (.cells #[.int .u8 0, .int .i64 0, .slice none 0 0, .string ⟨#[]⟩] 24)) := (Below.refl _ _).alloc (Nat.le_refl _) _
  go_upto_region 4 with (refine wpL_storeRow rfl _ _ _ rfl (cs := [.int .u8 3, .int .i64 0, .slice a4 1 c4, .string ⟨#[]⟩]) rfl rfl hrZ (by kernel_rfl) rfl rfl ?_; intro w5 hg5 hr5)
  have hb5 : Below w4.heap.size w4 w5 := hbZ.grown hg5 hbZ.size (fun g e => by cases e; exact Nat.le_refl _)
  obtain ⟨D, hD⟩ : ∃ D, D = w4.heap.size := ⟨_, rfl⟩
  rw [← hD] at hr5 ⊢
  have hrC := hr4.after hb5
  have hs5 := hs4.below hb5
  have ho5 := ho4.below hb5
  have ho3c := ho3b.below hb5
  have hB5 := hB4.trans (hb5.mono hB4.size)
  clear hD hrZ hbZ hg5 hb5 hr4 hs4 ho4 ho3b hB4
  go_wp2_with fail
  refine (read_nil w5).mono ?_
  rintro e w6 ⟨v6, rfl, ho6, hb6⟩
  obtain ⟨a6, c6, rfl⟩ := ho6.form
  have hr6 := hr5.after hb6
  have hrD := hrC.after hb6
  have hs6 := hs5.below hb6
  have ho6b := ho5.below hb6
  have ho3d := ho3c.below hb6
  have hB6 := hB5.trans (hb6.mono hB5.size)
  clear hr5 hrC hs5 ho5 ho3c hB5 hb6 ho6
  have hrZ := Row.new w6 [.int .u8 0, .int .i64 0, .slice none 0 0, .string ⟨#[]⟩] 24
  have hbZ : Below w6.heap.size w6 (w6.alloc (.cells #[.int .u8 0, .int .i64 0, .slice none 0 0, .string ⟨#[]⟩] 24)) := (Below.refl _ _).alloc (Nat.le_refl _) _
  go_upto_region 5 with (refine wpL_storeRow rfl _ _ _ rfl (cs := [.int .u8 0, .int .i64 0, .slice a6 0 c6, .string ⟨#[]⟩]) rfl rfl hrZ (by kernel_rfl) rfl rfl ?_; intro w7 hg7 hr7)
  have hb7 : Below w6.heap.size w6 w7 := hbZ.grown hg7 hbZ.size (fun g e => by cases e; exact Nat.le_refl _)
  have hr7b := hr6.after hb7
  have hrE := hrD.after hb7
  have hs7 := hs6.below hb7
  have ho7 := ho6b.below hb7
  have ho3e := ho3d.below hb7
  have hB7 := hB6.trans (hb7.mono hB6.size)
  clear hrZ hbZ hg7 hr7 hb7 hr6 hrD hs6 ho6b ho3d hB6
  go_upto_region 6 with (refine wpL_loadRow rfl _ _ rfl rfl hrE Try.underlying24 rfl (by kernel_rfl) ?_)
  refine (oids_ex A w7 hs7).mono ?_
  rintro e w8 ⟨v8, rfl, ho8, hb8⟩
  obtain ⟨a8, c8, rfl⟩ := ho8.form
  have hr8 := hr7b.after hb8
  have hrF := hrE.after hb8
  have hs8 := hs7.below hb8
  have ho8b := ho7.below hb8
  have ho3f := ho3e.below hb8
  have hB8 := hB7.trans (hb8.mono hB7.size)
  clear hr7b hrE hs7 ho7 ho3e hB7 hb8
  obtain ⟨bq, oq, rfl, hq⟩ := ho3f.sl.byte (k := 0) (by omega)
  obtain ⟨bi, oi, rfl, hi⟩ := ho8.sl.intAt (k := 0) (by omega)
  rw [Nat.add_zero, show exQ.getD 0 0 = 3 from rfl] at hq
  rw [Nat.add_zero, List.getD_cons_zero] at hi
  have hq' : w8.cell? ⟨bq, oq, none⟩ = some (.int .u8 3) := hq
  have hbq : bq < w8.heap.size := lt_of_cell hq'
  have hbi : bi < w8.heap.size := lt_of_cell hi
  clear hq ho3f
  have d0 := hrF.cell 0
  have d1 := hrF.cell 1
  have d2 := hrF.cell 2
  have d3 := hrF.cell 3
  have p0 := hr8.cell 0
  have p1 := hr8.cell 1
  have p2 := hr8.cell 2
  have p3 := hr8.cell 3
  simp only [List.getElem?_cons_zero, List.getElem?_cons_succ] at d0 d1 d2 d3 p0 p1 p2 p3
  go_wp2_with fail
  refine (same_ex A a4 c4 w8 hs8 ho8b.sl).mono ?_
  rintro e w9 ⟨rfl, hb9⟩
  have i9 := (hb9.cell (p := ⟨bi, oi, none⟩) hbi).trans hi
  have hB9 := hB8.trans (hb9.mono hB8.size)
  clear d0 d1 d2 d3 p0 p1 p2 p3
  go_wp2_with fail
  go_ret
  exact ⟨rfl, hB9⟩
end Go.Proofs.Ytgcohalmfigjpaa
