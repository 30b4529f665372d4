/-
  HeapNil walked. Conditions: what is handed in reads.
-/
import Derived.Test.YtekmgffjdheifaaHpY
import Derived.Test.YtekmgffjdheifaaHpN
namespace Go.Proofs.Ytekmgffjdheifaa
open Go Go.RowKit
set_option linter.unusedVariables false
set_option linter.unusedSimpArgs false
set_option maxRecDepth 100000

theorem ops_one {w w' : World} {q : Opn} {aO : Option Addr} {nO cO : Nat} {aR : Option Addr} {nR cR : Nat} {g : Nat} (h : OpIn w (opCs q aO nO cO aR nR cR) q aO nO cO aR nR cR) (hb : Below w.heap.size w w') (hr : Row w' g 64 (opCs q aO nO cO aR nR cR)) : OpsIn w' (some ⟨g, 0, none⟩) 1 1 [q] :=
  ⟨rfl, ⟨Nat.le_refl _, by decide⟩, fun i hi => by
    obtain rfl : i = 0 := by omega
    refine ⟨g, 0, _, aO, nO, cO, aR, nR, cR, rfl, h.below hb, fun j hj => ?_⟩
    rw [show 0 + 0 * 10 + j = j by omega]
    exact hr.cell j⟩
set_option maxHeartbeats 8000000 in
theorem heapNil_walk (q : Opn) (aO : Option Addr) (nO cO : Nat) (aR : Option Addr) (nR cR : Nat) (z : Int) (w : World) (h : OpIn w (opCs q aO nO cO aR nR cR) q aO nO cO aR nR cR) :
    Calls Try.prog 10 #[.agg #[.int .i64 q.K, .int .i64 q.k, .int .i64 q.i, .int .u8 (q.o.k.toNat : Int), .int .i64 q.o.t, .slice aO nO cO, .string (str q.o.s), .int .u8 (q.x.1.toNat : Int), .int .i64 q.x.2, .slice aR nR cR], .int .i64 z] w fun e w' => e = .returned (.bool true) ∧ Below w.heap.size w w' := by
  obtain ⟨w1, hw1⟩ : ∃ x, x = w.alloc (.cells (opCs q aO nO cO aR nR cR).toArray 64) := ⟨_, rfl⟩
  have hb1 : Below w.heap.size w w1 := by rw [hw1]; exact (Below.refl _ _).alloc (Nat.le_refl _) _
  have hr1 : Row w1 w.heap.size 64 (opCs q aO nO cO aR nR cR) := by rw [hw1]; exact Row.new _ _ _
  obtain ⟨w2, hw2⟩ : ∃ x, x = w1.alloc (.cells (opCs q aO nO cO aR nR cR).toArray 64) := ⟨_, rfl⟩
  have hb2 : Below w1.heap.size w1 w2 := by rw [hw2]; exact (Below.refl _ _).alloc (Nat.le_refl _) _
  have hr2 : Row w2 w1.heap.size 64 (opCs q aO nO cO aR nR cR) := by rw [hw2]; exact Row.new _ _ _
  have HB2 := Lib.hid (hb1.trans (hb2.mono hb1.size))
  have HQ := Lib.hid h
  have HO2 := Lib.hid (ops_one h HB2.out hr2)
  have HR1 := Lib.hid (hr1.after hb2)
  have d0 := hr1.cell 0
  have d1 := hr1.cell 1
  have d2 := hr1.cell 2
  have d3 := hr1.cell 3
  have d4 := hr1.cell 4
  have d5 := hr1.cell 5
  have d6 := hr1.cell 6
  have d7 := hr1.cell 7
  have d8 := hr1.cell 8
  have d9 := hr1.cell 9
  simp only [opCs, List.getElem?_cons_zero, List.getElem?_cons_succ] at d0 d1 d2 d3 d4 d5 d6 d7 d8 d9
  unfold opCs at hw1 hw2
  clear h hb1 hr1 hb2 hr2
  go_enter Try.func10, Try.ntmps10
  go_upto_region 1 with fail
  rw [← hw1]
  clear hw1
  try go_frame
  go_wp2_with fail
  rw [← hw2]
  clear hw2 d0 d1 d2 d3 d4 d5 d6 d7 d8 d9
  refine (vast_any (some ⟨w1.heap.size, 0, none⟩) 1 1 [q] w2 HO2.out).mono ?_
  rintro e w3 ⟨B, rfl, HB, hb3⟩
  have HB3 := Lib.hid (HB2.out.trans (hb3.mono HB2.out.size))
  have HR3 := Lib.hid (HR1.out.after hb3)
  clear hb3 HR1
  cases B with
  | true =>
    go_wp2_with fail
    refine (works_any w3).mono ?_
    rintro e w4 ⟨rfl, hb4⟩
    go_wp2_with fail
    go_ret
    exact ⟨rfl, HB3.out.trans (hb4.mono HB3.out.size)⟩
  | false =>
    have HT : Hid (totO q ≤ 16384) := Lib.hid ((HB.out rfl).2 0 Nat.one_pos)
    have d0 := HR3.out.cell 0
    have d1 := HR3.out.cell 1
    have d2 := HR3.out.cell 2
    have d3 := HR3.out.cell 3
    have d4 := HR3.out.cell 4
    have d5 := HR3.out.cell 5
    have d6 := HR3.out.cell 6
    have d7 := HR3.out.cell 7
    have d8 := HR3.out.cell 8
    have d9 := HR3.out.cell 9
    simp only [opCs, List.getElem?_cons_zero, List.getElem?_cons_succ] at d0 d1 d2 d3 d4 d5 d6 d7 d8 d9
    have DN := does_nil q (opCs q aO nO cO aR nR cR) aO nO cO aR nR cR w3 (HQ.out.below HB3.out) HT.out
    unfold opCs at DN
    have HDN := Lib.hid DN
    clear DN HB
    go_wp2_with fail
    refine HDN.out.mono ?_
    rintro e w4 ⟨v4, rfl, ho4, hb4⟩
    obtain ⟨aT, cT, rfl⟩ := ho4.form
    have HB4 := Lib.hid (HB3.out.trans (hb4.mono HB3.out.size))
    have HR4 := Lib.hid (HR3.out.after hb4)
    have HS4 := Lib.hid ho4.sl
    clear HDN hb4 HR3 ho4 d0 d1 d2 d3 d4 d5 d6 d7 d8 d9
    obtain ⟨E, hE⟩ : ∃ E, E = (if q.K = 0 ∨ q.K = 4 ∨ q.K = 8 then 2 else 0 : Int) := ⟨_, rfl⟩
    have hT : tCells (toldN q.K) (.slice aT 0 cT) = [.int .u8 0, .int .i64 0, .slice aT 0 cT, .string ⟨#[]⟩, .int .u8 0, .int .i64 0, .int .i64 0, .bool false, .int .i64 E] := by
      rw [hE]; unfold toldN; split <;> rfl
    rw [hT]
    have HE := Lib.hid hE
    clear hT hE
    go_upto_region 5 with (refine wpL_storeRow rfl _ _ _ rfl (cs := [.int .u8 0, .int .i64 0, .slice aT 0 cT, .string ⟨#[]⟩, .int .u8 0, .int .i64 0, .int .i64 0, .bool false, .int .i64 E]) rfl rfl (Row.new _ _ _) (by kernel_rfl) rfl rfl ?_; intro w5 hg5 hr5)
    have hb5 : Below w4.heap.size w4 w5 := below_grown ((Below.refl _ _).alloc (Nat.le_refl _) _) hg5 (Nat.le_refl _) (by simp)
    have HB5 := Lib.hid (HB4.out.trans (hb5.mono HB4.out.size))
    have HS5 := Lib.hid (HS4.out.below hb5)
    have d0 : w5.cell? ⟨w.heap.size, 0, none⟩ = some (.int .i64 q.K) := (HR4.out.after hb5).cell 0
    have t0 : w5.cell? ⟨w4.heap.size, 0, none⟩ = some (.int .u8 0) := hr5.cell 0
    have t1 : w5.cell? ⟨w4.heap.size, 1, none⟩ = some (.int .i64 0) := hr5.cell 1
    have t2 : w5.cell? ⟨w4.heap.size, 2, none⟩ = some (.slice aT 0 cT) := hr5.cell 2
    have t3 : w5.cell? ⟨w4.heap.size, 3, none⟩ = some (.string ⟨#[]⟩) := hr5.cell 3
    have t4 : w5.cell? ⟨w4.heap.size, 4, none⟩ = some (.int .u8 0) := hr5.cell 4
    have t5 : w5.cell? ⟨w4.heap.size, 5, none⟩ = some (.int .i64 0) := hr5.cell 5
    have t6 : w5.cell? ⟨w4.heap.size, 6, none⟩ = some (.int .i64 0) := hr5.cell 6
    have t7 : w5.cell? ⟨w4.heap.size, 7, none⟩ = some (.bool false) := hr5.cell 7
    have t8 : w5.cell? ⟨w4.heap.size, 8, none⟩ = some (.int .i64 E) := hr5.cell 8
    clear hg5 hr5 hb5 HR4 HS4
    generalize q.K = K at d0 HE
    by_cases k0 : K = 0
    · subst k0
      obtain rfl : E = 2 := HE.out
      go_wp2_with fail
      refine (same_t 0 0 aT 0 cT none 0 [] [] w5 HS5.out (Sl.nil w5 2)).mono ?_
      rintro e w6 ⟨rfl, hb6⟩
      have HB6 := Lib.hid (HB5.out.trans (hb6.mono HB5.out.size))
      have t4 := (hb6.cell (lt_of_cell t4)).trans t4
      have t5 := (hb6.cell (lt_of_cell t5)).trans t5
      clear hb6
      by_cases hz : 1 ≤ z ∧ z ≤ 16777216
      · obtain ⟨m, rfl⟩ : ∃ m : Nat, z = m := ⟨z.toNat, by omega⟩
        have hz1 : (1 : Int) ≤ (m : Int) := hz.1
        have hz2 : (m : Int) ≤ 16777216 := hz.2
        have hzm : 1 ≤ m ∧ m ≤ 16777216 := by omega
        clear hz
        go_wp2_with fail
        refine (new24 m w6 hzm).mono ?_
        rintro e w7 ⟨b, rfl, col7, H7⟩
        have HB7 : Hid (Below w.heap.size w w7) := Lib.hid (HB6.out.trans (H7.out.1.below.mono HB6.out.size))
        clear H7
        go_wp2_with fail
        refine (used_nil _).mono ?_
        rintro e w8 ⟨rfl, rfl⟩
        go_wp2_with fail
        refine (count_nil _).mono ?_
        rintro e w8 ⟨rfl, rfl⟩
        go_wp2_with fail
        refine (limit_nil _).mono ?_
        rintro e w8 ⟨rfl, rfl⟩
        go_wp2_with fail
        refine (dirty_nil _).mono ?_
        rintro e w8 ⟨rfl, rfl⟩
        go_wp2_with fail
        refine (oids_nil _).mono ?_
        rintro e w8 ⟨rfl, rfl⟩
        go_wp2_with fail
        refine (works_any _).mono ?_
        rintro e w9 ⟨rfl, hb9'⟩
        go_wp2_with fail
        go_ret
        exact ⟨by first | rfl | (have hz3 : decide (z ≤ 16777216) = false := decide_eq_false (by omega); show Ending.returned (.bool (!decide (z ≤ 16777216))) = _; rw [hz3]; rfl), HB7.out.trans (hb9'.mono HB7.out.size)⟩
      · have hn : newIs z = false := by unfold newIs; exact decide_eq_false hz
        go_wp2_with fail
        refine (new_no z w6 (Lib.hid hn)).mono ?_
        rintro e w7 ⟨rfl, rfl⟩
        have HB7 := HB6
        by_cases hz1 : 1 ≤ z
        · have hz2 : ¬ z ≤ 16777216 := fun h => hz ⟨hz1, h⟩
          clear hn
          go_wp2_with fail
          refine (used_nil _).mono ?_
          rintro e w8 ⟨rfl, rfl⟩
          go_wp2_with fail
          refine (count_nil _).mono ?_
          rintro e w8 ⟨rfl, rfl⟩
          go_wp2_with fail
          refine (limit_nil _).mono ?_
          rintro e w8 ⟨rfl, rfl⟩
          go_wp2_with fail
          refine (dirty_nil _).mono ?_
          rintro e w8 ⟨rfl, rfl⟩
          go_wp2_with fail
          refine (oids_nil _).mono ?_
          rintro e w8 ⟨rfl, rfl⟩
          go_wp2_with fail
          refine (works_any _).mono ?_
          rintro e w9 ⟨rfl, hb9'⟩
          go_wp2_with fail
          go_ret
          exact ⟨by first | rfl | (have hz3 : decide (z ≤ 16777216) = false := decide_eq_false (by omega); show Ending.returned (.bool (!decide (z ≤ 16777216))) = _; rw [hz3]; rfl), HB7.out.trans (hb9'.mono HB7.out.size)⟩
        · clear hn
          go_wp2_with fail
          refine (used_nil _).mono ?_
          rintro e w8 ⟨rfl, rfl⟩
          go_wp2_with fail
          refine (count_nil _).mono ?_
          rintro e w8 ⟨rfl, rfl⟩
          go_wp2_with fail
          refine (limit_nil _).mono ?_
          rintro e w8 ⟨rfl, rfl⟩
          go_wp2_with fail
          refine (dirty_nil _).mono ?_
          rintro e w8 ⟨rfl, rfl⟩
          go_wp2_with fail
          refine (oids_nil _).mono ?_
          rintro e w8 ⟨rfl, rfl⟩
          go_wp2_with fail
          refine (works_any _).mono ?_
          rintro e w9 ⟨rfl, hb9'⟩
          go_wp2_with fail
          go_ret
          exact ⟨by first | rfl | (have hz3 : decide (z ≤ 16777216) = false := decide_eq_false (by omega); show Ending.returned (.bool (!decide (z ≤ 16777216))) = _; rw [hz3]; rfl), HB7.out.trans (hb9'.mono HB7.out.size)⟩
    by_cases k4 : K = 4
    · subst k4
      obtain rfl : E = 2 := HE.out
      go_wp2_with fail
      refine (same_t 0 0 aT 0 cT none 0 [] [] w5 HS5.out (Sl.nil w5 2)).mono ?_
      rintro e w6 ⟨rfl, hb6⟩
      have HB6 := Lib.hid (HB5.out.trans (hb6.mono HB5.out.size))
      have t4 := (hb6.cell (lt_of_cell t4)).trans t4
      have t5 := (hb6.cell (lt_of_cell t5)).trans t5
      clear hb6
      by_cases hz : 1 ≤ z ∧ z ≤ 16777216
      · obtain ⟨m, rfl⟩ : ∃ m : Nat, z = m := ⟨z.toNat, by omega⟩
        have hz1 : (1 : Int) ≤ (m : Int) := hz.1
        have hz2 : (m : Int) ≤ 16777216 := hz.2
        have hzm : 1 ≤ m ∧ m ≤ 16777216 := by omega
        clear hz
        go_wp2_with fail
        refine (new24 m w6 hzm).mono ?_
        rintro e w7 ⟨b, rfl, col7, H7⟩
        have HB7 : Hid (Below w.heap.size w w7) := Lib.hid (HB6.out.trans (H7.out.1.below.mono HB6.out.size))
        clear H7
        go_wp2_with fail
        refine (used_nil _).mono ?_
        rintro e w8 ⟨rfl, rfl⟩
        go_wp2_with fail
        refine (count_nil _).mono ?_
        rintro e w8 ⟨rfl, rfl⟩
        go_wp2_with fail
        refine (limit_nil _).mono ?_
        rintro e w8 ⟨rfl, rfl⟩
        go_wp2_with fail
        refine (dirty_nil _).mono ?_
        rintro e w8 ⟨rfl, rfl⟩
        go_wp2_with fail
        refine (oids_nil _).mono ?_
        rintro e w8 ⟨rfl, rfl⟩
        go_wp2_with fail
        refine (works_any _).mono ?_
        rintro e w9 ⟨rfl, hb9'⟩
        go_wp2_with fail
        go_ret
        exact ⟨by first | rfl | (have hz3 : decide (z ≤ 16777216) = false := decide_eq_false (by omega); show Ending.returned (.bool (!decide (z ≤ 16777216))) = _; rw [hz3]; rfl), HB7.out.trans (hb9'.mono HB7.out.size)⟩
      · have hn : newIs z = false := by unfold newIs; exact decide_eq_false hz
        go_wp2_with fail
        refine (new_no z w6 (Lib.hid hn)).mono ?_
        rintro e w7 ⟨rfl, rfl⟩
        have HB7 := HB6
        by_cases hz1 : 1 ≤ z
        · have hz2 : ¬ z ≤ 16777216 := fun h => hz ⟨hz1, h⟩
          clear hn
          go_wp2_with fail
          refine (used_nil _).mono ?_
          rintro e w8 ⟨rfl, rfl⟩
          go_wp2_with fail
          refine (count_nil _).mono ?_
          rintro e w8 ⟨rfl, rfl⟩
          go_wp2_with fail
          refine (limit_nil _).mono ?_
          rintro e w8 ⟨rfl, rfl⟩
          go_wp2_with fail
          refine (dirty_nil _).mono ?_
          rintro e w8 ⟨rfl, rfl⟩
          go_wp2_with fail
          refine (oids_nil _).mono ?_
          rintro e w8 ⟨rfl, rfl⟩
          go_wp2_with fail
          refine (works_any _).mono ?_
          rintro e w9 ⟨rfl, hb9'⟩
          go_wp2_with fail
          go_ret
          exact ⟨by first | rfl | (have hz3 : decide (z ≤ 16777216) = false := decide_eq_false (by omega); show Ending.returned (.bool (!decide (z ≤ 16777216))) = _; rw [hz3]; rfl), HB7.out.trans (hb9'.mono HB7.out.size)⟩
        · clear hn
          go_wp2_with fail
          refine (used_nil _).mono ?_
          rintro e w8 ⟨rfl, rfl⟩
          go_wp2_with fail
          refine (count_nil _).mono ?_
          rintro e w8 ⟨rfl, rfl⟩
          go_wp2_with fail
          refine (limit_nil _).mono ?_
          rintro e w8 ⟨rfl, rfl⟩
          go_wp2_with fail
          refine (dirty_nil _).mono ?_
          rintro e w8 ⟨rfl, rfl⟩
          go_wp2_with fail
          refine (oids_nil _).mono ?_
          rintro e w8 ⟨rfl, rfl⟩
          go_wp2_with fail
          refine (works_any _).mono ?_
          rintro e w9 ⟨rfl, hb9'⟩
          go_wp2_with fail
          go_ret
          exact ⟨by first | rfl | (have hz3 : decide (z ≤ 16777216) = false := decide_eq_false (by omega); show Ending.returned (.bool (!decide (z ≤ 16777216))) = _; rw [hz3]; rfl), HB7.out.trans (hb9'.mono HB7.out.size)⟩
    by_cases k8 : K = 8
    · subst k8
      obtain rfl : E = 2 := HE.out
      go_wp2_with fail
      refine (same_t 0 0 aT 0 cT none 0 [] [] w5 HS5.out (Sl.nil w5 2)).mono ?_
      rintro e w6 ⟨rfl, hb6⟩
      have HB6 := Lib.hid (HB5.out.trans (hb6.mono HB5.out.size))
      have t4 := (hb6.cell (lt_of_cell t4)).trans t4
      have t5 := (hb6.cell (lt_of_cell t5)).trans t5
      clear hb6
      by_cases hz : 1 ≤ z ∧ z ≤ 16777216
      · obtain ⟨m, rfl⟩ : ∃ m : Nat, z = m := ⟨z.toNat, by omega⟩
        have hz1 : (1 : Int) ≤ (m : Int) := hz.1
        have hz2 : (m : Int) ≤ 16777216 := hz.2
        have hzm : 1 ≤ m ∧ m ≤ 16777216 := by omega
        clear hz
        go_wp2_with fail
        refine (new24 m w6 hzm).mono ?_
        rintro e w7 ⟨b, rfl, col7, H7⟩
        have HB7 : Hid (Below w.heap.size w w7) := Lib.hid (HB6.out.trans (H7.out.1.below.mono HB6.out.size))
        clear H7
        go_wp2_with fail
        refine (used_nil _).mono ?_
        rintro e w8 ⟨rfl, rfl⟩
        go_wp2_with fail
        refine (count_nil _).mono ?_
        rintro e w8 ⟨rfl, rfl⟩
        go_wp2_with fail
        refine (limit_nil _).mono ?_
        rintro e w8 ⟨rfl, rfl⟩
        go_wp2_with fail
        refine (dirty_nil _).mono ?_
        rintro e w8 ⟨rfl, rfl⟩
        go_wp2_with fail
        refine (oids_nil _).mono ?_
        rintro e w8 ⟨rfl, rfl⟩
        go_wp2_with fail
        refine (works_any _).mono ?_
        rintro e w9 ⟨rfl, hb9'⟩
        go_wp2_with fail
        go_ret
        exact ⟨by first | rfl | (have hz3 : decide (z ≤ 16777216) = false := decide_eq_false (by omega); show Ending.returned (.bool (!decide (z ≤ 16777216))) = _; rw [hz3]; rfl), HB7.out.trans (hb9'.mono HB7.out.size)⟩
      · have hn : newIs z = false := by unfold newIs; exact decide_eq_false hz
        go_wp2_with fail
        refine (new_no z w6 (Lib.hid hn)).mono ?_
        rintro e w7 ⟨rfl, rfl⟩
        have HB7 := HB6
        by_cases hz1 : 1 ≤ z
        · have hz2 : ¬ z ≤ 16777216 := fun h => hz ⟨hz1, h⟩
          clear hn
          go_wp2_with fail
          refine (used_nil _).mono ?_
          rintro e w8 ⟨rfl, rfl⟩
          go_wp2_with fail
          refine (count_nil _).mono ?_
          rintro e w8 ⟨rfl, rfl⟩
          go_wp2_with fail
          refine (limit_nil _).mono ?_
          rintro e w8 ⟨rfl, rfl⟩
          go_wp2_with fail
          refine (dirty_nil _).mono ?_
          rintro e w8 ⟨rfl, rfl⟩
          go_wp2_with fail
          refine (oids_nil _).mono ?_
          rintro e w8 ⟨rfl, rfl⟩
          go_wp2_with fail
          refine (works_any _).mono ?_
          rintro e w9 ⟨rfl, hb9'⟩
          go_wp2_with fail
          go_ret
          exact ⟨by first | rfl | (have hz3 : decide (z ≤ 16777216) = false := decide_eq_false (by omega); show Ending.returned (.bool (!decide (z ≤ 16777216))) = _; rw [hz3]; rfl), HB7.out.trans (hb9'.mono HB7.out.size)⟩
        · clear hn
          go_wp2_with fail
          refine (used_nil _).mono ?_
          rintro e w8 ⟨rfl, rfl⟩
          go_wp2_with fail
          refine (count_nil _).mono ?_
          rintro e w8 ⟨rfl, rfl⟩
          go_wp2_with fail
          refine (limit_nil _).mono ?_
          rintro e w8 ⟨rfl, rfl⟩
          go_wp2_with fail
          refine (dirty_nil _).mono ?_
          rintro e w8 ⟨rfl, rfl⟩
          go_wp2_with fail
          refine (oids_nil _).mono ?_
          rintro e w8 ⟨rfl, rfl⟩
          go_wp2_with fail
          refine (works_any _).mono ?_
          rintro e w9 ⟨rfl, hb9'⟩
          go_wp2_with fail
          go_ret
          exact ⟨by first | rfl | (have hz3 : decide (z ≤ 16777216) = false := decide_eq_false (by omega); show Ending.returned (.bool (!decide (z ≤ 16777216))) = _; rw [hz3]; rfl), HB7.out.trans (hb9'.mono HB7.out.size)⟩
    have k0' : (K == 0) = false := by simpa using k0
    have k4' : (K == 4) = false := by simpa using k4
    have k8' : (K == 8) = false := by simpa using k8
    obtain rfl : E = 0 := by rw [HE.out, if_neg (by simp [k0, k4, k8])]
    go_wp2_with fail
    refine (same_t 0 0 aT 0 cT none 0 [] [] w5 HS5.out (Sl.nil w5 2)).mono ?_
    rintro e w6 ⟨rfl, hb6⟩
    have HB6 := Lib.hid (HB5.out.trans (hb6.mono HB5.out.size))
    have t4 := (hb6.cell (lt_of_cell t4)).trans t4
    have t5 := (hb6.cell (lt_of_cell t5)).trans t5
    clear hb6
    by_cases hz : 1 ≤ z ∧ z ≤ 16777216
    · obtain ⟨m, rfl⟩ : ∃ m : Nat, z = m := ⟨z.toNat, by omega⟩
      have hz1 : (1 : Int) ≤ (m : Int) := hz.1
      have hz2 : (m : Int) ≤ 16777216 := hz.2
      have hzm : 1 ≤ m ∧ m ≤ 16777216 := by omega
      clear hz
      go_wp2_with fail
      refine (new24 m w6 hzm).mono ?_
      rintro e w7 ⟨b, rfl, col7, H7⟩
      have HB7 : Hid (Below w.heap.size w w7) := Lib.hid (HB6.out.trans (H7.out.1.below.mono HB6.out.size))
      clear H7
      go_wp2_with fail
      refine (used_nil _).mono ?_
      rintro e w8 ⟨rfl, rfl⟩
      go_wp2_with fail
      refine (count_nil _).mono ?_
      rintro e w8 ⟨rfl, rfl⟩
      go_wp2_with fail
      refine (limit_nil _).mono ?_
      rintro e w8 ⟨rfl, rfl⟩
      go_wp2_with fail
      refine (dirty_nil _).mono ?_
      rintro e w8 ⟨rfl, rfl⟩
      go_wp2_with fail
      refine (oids_nil _).mono ?_
      rintro e w8 ⟨rfl, rfl⟩
      go_wp2_with fail
      refine (works_any _).mono ?_
      rintro e w9 ⟨rfl, hb9'⟩
      go_wp2_with fail
      go_ret
      exact ⟨by first | rfl | (have hz3 : decide (z ≤ 16777216) = false := decide_eq_false (by omega); show Ending.returned (.bool (!decide (z ≤ 16777216))) = _; rw [hz3]; rfl), HB7.out.trans (hb9'.mono HB7.out.size)⟩
    · have hn : newIs z = false := by unfold newIs; exact decide_eq_false hz
      go_wp2_with fail
      refine (new_no z w6 (Lib.hid hn)).mono ?_
      rintro e w7 ⟨rfl, rfl⟩
      have HB7 := HB6
      by_cases hz1 : 1 ≤ z
      · have hz2 : ¬ z ≤ 16777216 := fun h => hz ⟨hz1, h⟩
        clear hn
        go_wp2_with fail
        refine (used_nil _).mono ?_
        rintro e w8 ⟨rfl, rfl⟩
        go_wp2_with fail
        refine (count_nil _).mono ?_
        rintro e w8 ⟨rfl, rfl⟩
        go_wp2_with fail
        refine (limit_nil _).mono ?_
        rintro e w8 ⟨rfl, rfl⟩
        go_wp2_with fail
        refine (dirty_nil _).mono ?_
        rintro e w8 ⟨rfl, rfl⟩
        go_wp2_with fail
        refine (oids_nil _).mono ?_
        rintro e w8 ⟨rfl, rfl⟩
        go_wp2_with fail
        refine (works_any _).mono ?_
        rintro e w9 ⟨rfl, hb9'⟩
        go_wp2_with fail
        go_ret
        exact ⟨by first | rfl | (have hz3 : decide (z ≤ 16777216) = false := decide_eq_false (by omega); show Ending.returned (.bool (!decide (z ≤ 16777216))) = _; rw [hz3]; rfl), HB7.out.trans (hb9'.mono HB7.out.size)⟩
      · clear hn
        go_wp2_with fail
        refine (used_nil _).mono ?_
        rintro e w8 ⟨rfl, rfl⟩
        go_wp2_with fail
        refine (count_nil _).mono ?_
        rintro e w8 ⟨rfl, rfl⟩
        go_wp2_with fail
        refine (limit_nil _).mono ?_
        rintro e w8 ⟨rfl, rfl⟩
        go_wp2_with fail
        refine (dirty_nil _).mono ?_
        rintro e w8 ⟨rfl, rfl⟩
        go_wp2_with fail
        refine (oids_nil _).mono ?_
        rintro e w8 ⟨rfl, rfl⟩
        go_wp2_with fail
        refine (works_any _).mono ?_
        rintro e w9 ⟨rfl, hb9'⟩
        go_wp2_with fail
        go_ret
        exact ⟨by first | rfl | (have hz3 : decide (z ≤ 16777216) = false := decide_eq_false (by omega); show Ending.returned (.bool (!decide (z ≤ 16777216))) = _; rw [hz3]; rfl), HB7.out.trans (hb9'.mono HB7.out.size)⟩
theorem heapNil_any (cs : List Value) (d : Int × Int × Int × (UInt8 × Int × List (UInt8 × Int) × List UInt8) × (UInt8 × Int) × List Int) (z : Int) (w : World) (h : VOp w cs d) :
    Calls Try.prog 10 #[.agg cs.toArray, .int .i64 z] w fun e w' => e = .returned (.bool true) ∧ Below w.heap.size w w' := by
  obtain ⟨q, a, n, c, aR, nR, cR, hq⟩ := op_open h
  have hcs := hq.cs
  subst hcs
  exact heapNil_walk q a n c aR nR cR z w hq
end Go.Proofs.Ytekmgffjdheifaa
