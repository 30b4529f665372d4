/-
  The law of heights, walked. Condition: the table as laid.
-/
import Derived.Test.YtoddklfblcfoiaaDoorCpF
import Derived.Test.YtoddklfblcfoiaaDoorCqH
import Derived.Test.YtoddklfblcfoiaaDoorCoH
namespace Go.Proofs.YtoddklfblcfoiaaDoor
open Go Go.RowKit
set_option linter.unusedVariables false
set_option linter.unusedSimpArgs false
set_option maxRecDepth 100000

theorem in_more (l : List Ins) (x : Ins) : inCells (l ++ [x]) = inCells l ++ insC x := by simp [inCells]
theorem in_range (f : Nat → Ins) (i : Nat) : inCells ((List.range (i + 1)).map f) = inCells ((List.range i).map f) ++ insC (f i) := by
  rw [List.range_succ, List.map_append, ← in_more]
  rfl
theorem in_rep (l : List Ins) (i : Nat) (x : Ins) : inCells (l ++ List.replicate (i + 1) x) = inCells (l ++ List.replicate i x) ++ insC x := by
  rw [List.replicate_succ', ← List.append_assoc, in_more]
theorem ht_small {a t : Nat} (ha : a < 60) : ∀ l ∈ (htC a t).f, l.length ≤ 1000000 ∧ ∀ x ∈ l, x.t.length ≤ 1000000 := by
  intro l hl
  simp only [htC, List.mem_singleton] at hl
  subst hl
  refine ⟨by rw [htL_len]; omega, fun x hx => ?_⟩
  simp only [htL, List.mem_append, List.mem_map, List.mem_range, List.mem_cons, List.not_mem_nil, or_false] at hx
  rcases hx with ⟨i, hi, rfl⟩ | rfl | rfl
  · exact Nat.zero_le _
  · exact Nat.zero_le _
  · exact Nat.zero_le _
theorem hg_small {a p : Nat} (ha : a < 60) (hp : p < 60) : ∀ l ∈ (hgC a p).f, l.length ≤ 1000000 ∧ ∀ x ∈ l, x.t.length ≤ 1000000 := by
  intro l hl
  simp only [hgC, List.mem_cons, List.not_mem_nil, or_false] at hl
  rcases hl with rfl | rfl
  · refine ⟨by decide, fun x hx => ?_⟩
    simp only [List.mem_cons, List.not_mem_nil, or_false] at hx
    rcases hx with rfl | rfl <;> exact Nat.zero_le _
  · refine ⟨by rw [hgF_len]; omega, fun x hx => ?_⟩
    simp only [hgF, List.mem_append, List.mem_map, List.mem_range, List.mem_cons, List.mem_replicate, List.not_mem_nil, or_false] at hx
    rcases hx with (⟨i, hi, rfl⟩ | ⟨_, rfl⟩) | rfl <;> exact Nat.zero_le _
theorem ins_one (x : Ins) : ∀ u ∈ insC x, u.oneCell' = true := by simp [insC, Value.oneCell']
set_option maxHeartbeats 4000000 in
theorem law_heights (n t p : Nat) (hn : n < 256) (ht : t < 256) (hp : p < 256) (W : World) (h : ∃ b fuel n, PrimsR W b fuel n) :
    Calls Tryd.prog 9 #[.int .u8 (n : Nat), .int .u8 (t : Nat), .int .u8 (p : Nat)] W fun e w' => e = .returned (.bool true) ∧ Below W.heap.size W w' := by
  obtain ⟨pb, fuel, pn, hP⟩ := h
  have HP0 := Lib.hid hP
  clear hP
  obtain ⟨A, hA⟩ : ∃ y, y = n % 60 := ⟨_, rfl⟩
  obtain ⟨T, hT⟩ : ∃ y, y = t % 60 := ⟨_, rfl⟩
  obtain ⟨Q, hQ⟩ : ∃ y, y = p % 60 := ⟨_, rfl⟩
  have hA6 : A < 60 := by omega
  have hT6 : T < 60 := by omega
  have hQ6 : Q < 60 := by omega
  have hAi : (n : Int) % 60 = (A : Int) := by omega
  have hTi : (t : Int) % 60 = (T : Int) := by omega
  have hQi : (p : Int) % 60 = (Q : Int) := by omega
  clear hA hT hQ
  go_enter Tryd.func9, Tryd.ntmps9
  go_wp2_with fail
  simp only [hAi, hTi]
  clear hAi hTi
  go_loopw [9, 10] (fun v9 v10 wr => ∃ (i : Nat) (aL : Option Addr) (cL : Nat), i ≤ A ∧ v9 = .slice aL i cL ∧ v10 = .int .i64 (i : Nat) ∧ Hid (Own wr W.heap.size 5 (.slice aL i cL) i (inCells ((List.range i).map htI))) ∧ Hid (Below W.heap.size W wr)) (fun _ v10 _ => A - (RowKit.intOf v10).toNat)
  case atStart => exact ⟨0, none, 0, Nat.zero_le _, rfl, rfl, Lib.hid (Own.nil _ _ _), Lib.hid (Below.refl _ _)⟩
  case round =>
    obtain ⟨i, aL, cL, hi, rfl, rfl, HO, HW⟩ := hrel
    by_cases hiA : i = A
    · have hiA' : A = i := hiA.symm
      subst hiA'
      clear hiA hi
      obtain ⟨w1, hw1⟩ : ∃ y, y = wr.alloc (.cells #[.int .u8 11, .int .i64 (T : Nat), .int .i64 0, .int .i64 0, .string ⟨#[]⟩, .int .u8 25, .int .i64 0, .int .i64 0, .int .i64 0, .string ⟨#[]⟩] 46) := ⟨_, rfl⟩
      have HO1 : Hid (Own w1 W.heap.size 5 (.slice aL A cL) A (inCells ((List.range A).map htI))) := Lib.hid (by rw [hw1]; exact HO.out.alloc _)
      have HS1 : Hid (Sl w1 5 (.slice (some ⟨wr.heap.size, 0, none⟩) 2 2) 2 (inCells [htT T, htH])) := Lib.hid (by rw [hw1]; exact Sl.litS wr (inCells [htT T, htH]) 46 5 2 rfl (by decide))
      have HB1 : Hid (Below W.heap.size W w1) := Lib.hid (by rw [hw1]; exact HW.out.alloc HW.out.size _)
      go_upto_region 9 with (at_builtin; rw [← hw1]; clear hw1; refine wpL_append etIns rfl _ _ rfl HO1.out rfl HS1.out rfl (by simp [insC, htT, htH, Value.oneCell']) (by omega) (by simp [maxLen]; omega) HB1.out.size ?_; intro v6 w6 ho6 hg6; obtain ⟨a6, c6, rfl⟩ := ho6.form)
      have HO6 : Hid (Own w6 W.heap.size 5 (.slice a6 (A + 2) c6) (A + 2) (inCells (htL A T))) := Lib.hid (by unfold htL inCells; rw [List.flatMap_append]; exact ho6)
      have HB6 := Lib.hid (below_own HB1.out HO1.out hg6 (Nat.le_refl _) HB1.out.size)
      clear ho6 hg6 HO1 HS1 HB1 HO HW
      obtain ⟨w7, hw7⟩ : ∃ y, y = w6.alloc (.cells #[.slice a6 (A + 2) c6] 44) := ⟨_, rfl⟩
      have HB7 : Hid (Below W.heap.size W w7) := Lib.hid (by rw [hw7]; exact HB6.out.alloc HB6.out.size _)
      have HC7 : Hid (CodM w7 (.slice (some ⟨w6.heap.size, 0, none⟩) 1 1) (.slice none 0 0) (htC A T)) := Lib.hid (by
        rw [hw7]
        refine ⟨⟨[.slice a6 (A + 2) c6], Sl.one w6 _ _, .cons ?_ .nil⟩, Sl.nil _ 2⟩
        rw [htL_len]
        exact (HO6.out.alloc _).sl)
      obtain ⟨E, hE⟩ : ∃ y, y = checkE (htC A T) := ⟨_, rfl⟩
      have hck := check_p W pb fuel pn HP0 _ _ _ _ _ _ (htC A T) w7 HB7 HC7.out (by decide) (ht_small hA6) (by decide) E (Lib.hid hE)
      go_upto_region 10 with fail
      rw [← hw7]
      clear hw7
      refine hck.mono ?_
      rintro e w8 ⟨rfl, hb8⟩
      clear hck
      have HB8 := Lib.hid (HB7.out.trans (hb8.mono HB7.out.size))
      clear HC7 HO6 HB6 HB7 hb8
      by_cases h2 : 2 ≤ T
      · have h2' : (2 : Int) ≤ T := by omega
        by_cases h3 : T ≤ A
        · have h3' : (T : Int) ≤ A := by omega
          have hE0 : E = 0 := hE.trans (ht_yes hA6 h2 h3)
          subst hE0
          clear hE h2 h3
          go_upto_region 12 with fail
          try simp only [hd]
          try clear hd
          try clear h3'
          try clear h2'
          go_wp2_with fail
          go_loopw [12, 13] (fun v12 v13 wr2 => ∃ (i : Nat) (aL : Option Addr) (cL : Nat), i ≤ A ∧ v12 = .slice aL i cL ∧ v13 = .int .i64 (i : Nat) ∧ Hid (Own wr2 W.heap.size 5 (.slice aL i cL) i (inCells ((List.range i).map hgL))) ∧ Hid (Below W.heap.size W wr2)) (fun _ v13 _ => A - (RowKit.intOf v13).toNat)
          case atStart => exact ⟨0, none, 0, Nat.zero_le _, rfl, rfl, Lib.hid (Own.nil _ _ _), HB8⟩
          case round =>
            clear HB8
            obtain ⟨i, aL, cL, hi, rfl, rfl, HO, HW⟩ := hrel
            by_cases hiA : i = A
            · have hiA' : A = i := hiA.symm
              subst hiA'
              clear hiA hi
              go_wp2_with fail
              simp only [hQi]
              clear hQi
              go_loopw [12, 15] (fun v12 v15 wr2 => ∃ (j : Nat) (aL : Option Addr) (cL : Nat), j ≤ Q ∧ v12 = .slice aL (A + j) cL ∧ v15 = .int .i64 (j : Nat) ∧ Hid (Own wr2 W.heap.size 5 (.slice aL (A + j) cL) (A + j) (inCells ((List.range A).map hgL ++ List.replicate j hgP))) ∧ Hid (Below W.heap.size W wr2)) (fun _ v15 _ => Q - (RowKit.intOf v15).toNat)
              case atStart => exact ⟨0, aL, cL, Nat.zero_le _, rfl, rfl, Lib.hid (by simpa using HO.out), HW⟩
              case round =>
                clear HO HW
                obtain ⟨j, aL, cL, hj, rfl, rfl, HO, HW⟩ := hrel
                by_cases hjQ : j = Q
                · have hjQ' : Q = j := hjQ.symm
                  subst hjQ'
                  clear hjQ hj
                  obtain ⟨w1, hw1⟩ : ∃ y, y = wr.alloc (.cells #[.int .u8 8, .int .i64 0, .int .i64 0, .int .i64 0, .string ⟨#[]⟩] 46) := ⟨_, rfl⟩
                  have HO1 : Hid (Own w1 W.heap.size 5 (.slice aL (A + Q) cL) (A + Q) (inCells ((List.range A).map hgL ++ List.replicate Q hgP))) := Lib.hid (by rw [hw1]; exact HO.out.alloc _)
                  have HS1 : Hid (Sl w1 5 (.slice (some ⟨wr.heap.size, 0, none⟩) 1 1) 1 (insC hgR)) := Lib.hid (by rw [hw1]; exact Sl.litS wr (insC hgR) 46 5 1 rfl (by decide))
                  have HB1 : Hid (Below W.heap.size W w1) := Lib.hid (by rw [hw1]; exact HW.out.alloc HW.out.size _)
                  go_upto_region 23 with (at_builtin; rw [← hw1]; clear hw1; refine wpL_append etIns rfl _ _ rfl HO1.out rfl HS1.out rfl (ins_one _) (by omega) (by simp [maxLen]; omega) HB1.out.size ?_; intro v6 w6 ho6 hg6; obtain ⟨a6, c6, rfl⟩ := ho6.form)
                  have HO6 : Hid (Own w6 W.heap.size 5 (.slice a6 (A + Q + 1) c6) (A + Q + 1) (inCells (hgF A Q))) := Lib.hid (by unfold hgF; rw [in_more]; exact ho6)
                  have HB6 := Lib.hid (below_own HB1.out HO1.out hg6 (Nat.le_refl _) HB1.out.size)
                  clear ho6 hg6 HO1 HS1 HB1 HO HW
                  obtain ⟨w7, hw7⟩ : ∃ y, y = (w6.alloc (.cells #[.int .u8 6, .int .i64 1, .int .i64 1, .int .i64 0, .string ⟨#[]⟩, .int .u8 25, .int .i64 0, .int .i64 0, .int .i64 0, .string ⟨#[]⟩] 46)).alloc (.cells #[.slice (some ⟨w6.heap.size, 0, none⟩) 2 2, .slice a6 (A + Q + 1) c6] 44) := ⟨_, rfl⟩
                  have HB7 : Hid (Below W.heap.size W w7) := Lib.hid (by rw [hw7]; exact (HB6.out.alloc HB6.out.size _).alloc (by simp; have := HB6.out.size; omega) _)
                  have HC7 : Hid (CodM w7 (.slice (some ⟨w6.heap.size + 1, 0, none⟩) 2 2) (.slice none 0 0) (hgC A Q)) := Lib.hid (by
                    rw [hw7]
                    obtain ⟨w5, hw5⟩ : ∃ y, y = w6.alloc (.cells (inCells [hgG, htH]).toArray 46) := ⟨_, rfl⟩
                    have hs5 := Sl.litS w6 (inCells [hgG, htH]) 46 5 2 rfl (by decide)
                    rw [← hw5] at hs5
                    have e5 : w5.heap.size = w6.heap.size + 1 := by rw [hw5]; simp
                    have ho5 : Own w5 W.heap.size 5 (.slice a6 (A + Q + 1) c6) (A + Q + 1) (inCells (hgF A Q)) := by rw [hw5]; exact HO6.out.alloc _
                    show CodM (World.alloc (w6.alloc (.cells (inCells [hgG, htH]).toArray 46)) _) _ _ _
                    rw [← hw5, ← e5]
                    have hs6 := Sl.lit w5 [.slice (some ⟨w6.heap.size, 0, none⟩) 2 2, .slice a6 (A + Q + 1) c6] 44 2 rfl (by decide)
                    have hb6 : Below w5.heap.size w5 (w5.alloc (.cells #[.slice (some ⟨w6.heap.size, 0, none⟩) 2 2, .slice a6 (A + Q + 1) c6] 44)) := (Below.refl _ _).alloc (Nat.le_refl _) _
                    refine ⟨⟨[.slice (some ⟨w6.heap.size, 0, none⟩) 2 2, .slice a6 (A + Q + 1) c6], hs6, .cons (hs5.below hb6) (.cons ?_ .nil)⟩, Sl.nil _ 2⟩
                    rw [hgF_len]
                    exact (ho5.below hb6).sl)
                  obtain ⟨E, hE⟩ : ∃ y, y = checkE (hgC A Q) := ⟨_, rfl⟩
                  have hck := check_p W pb fuel pn HP0 _ _ _ _ _ _ (hgC A Q) w7 HB7 HC7.out (by decide) (hg_small hA6 hQ6) (by decide) E (Lib.hid hE)
                  go_upto_region 24 with fail
                  rw [← hw7]
                  clear hw7
                  refine hck.mono ?_
                  rintro e w8 ⟨rfl, hb8⟩
                  clear hck
                  have HB8 := Lib.hid (HB7.out.trans (hb8.mono HB7.out.size))
                  clear HC7 HO6 HB6 HB7 hb8
                  have hwk := works_p W pb fuel pn HP0 w8 HB8
                  by_cases hAQ : A = Q + 1
                  · have hE0 : E = 0 := hE.trans (hg_yes hA6 hAQ)
                    subst hE0
                    have hs : (((A : Int) - Q) == 1) = true := by rw [beq_iff_eq]; omega
                    clear hE hAQ
                    go_wp2_with fail
                    refine hwk.mono ?_
                    rintro e wz ⟨rfl, hbz⟩
                    clear hwk
                    go_wp2_with fail
                    go_ret
                    exact ⟨rfl, HB8.out.trans (hbz.mono HB8.out.size)⟩
                  · have hE0 : E = 17 := hE.trans (hg_no hAQ)
                    subst hE0
                    have hs : (((A : Int) - Q) == 1) = false := by rw [beq_eq_false_iff_ne]; omega
                    clear hE hAQ
                    go_wp2_with fail
                    refine hwk.mono ?_
                    rintro e wz ⟨rfl, hbz⟩
                    clear hwk
                    go_wp2_with fail
                    go_ret
                    exact ⟨rfl, HB8.out.trans (hbz.mono HB8.out.size)⟩
                · have hjlt : j < Q := by omega
                  have hjlt' : (j : Int) < Q := by omega
                  have HO1 := Lib.hid (HO.out.alloc (.cells #[.int .u8 21, .int .i64 0, .int .i64 0, .int .i64 0, .string ⟨#[]⟩] 46))
                  have HS1 : Hid (Sl (wr.alloc (.cells #[.int .u8 21, .int .i64 0, .int .i64 0, .int .i64 0, .string ⟨#[]⟩] 46)) 5 (.slice (some ⟨wr.heap.size, 0, none⟩) 1 1) 1 (insC hgP)) := Lib.hid (Sl.litS wr (insC hgP) 46 5 1 rfl (by decide))
                  have HB1 := Lib.hid (HW.out.alloc HW.out.size (.cells #[.int .u8 21, .int .i64 0, .int .i64 0, .int .i64 0, .string ⟨#[]⟩] 46))
                  go_wp2_with (at_builtin; refine wpL_append etIns rfl _ _ rfl HO1.out rfl HS1.out rfl (ins_one _) (by omega) (by simp [maxLen]; omega) HB1.out.size ?_; intro v6 w6 ho6 hg6; obtain ⟨a6, c6, rfl⟩ := ho6.form)
                  exact ⟨⟨j + 1, a6, c6, by omega, rfl, by go_num, Lib.hid (by rw [in_rep]; exact ho6), Lib.hid (below_own HB1.out HO1.out hg6 (Nat.le_refl _) HB1.out.size)⟩, by simp [RowKit.intOf]; omega⟩
            · have hilt : i < A := by omega
              have hilt' : (i : Int) < A := by omega
              have HO1 := Lib.hid (HO.out.alloc (.cells #[.int .u8 3, .int .i64 (i : Nat), .int .i64 0, .int .i64 0, .string ⟨#[]⟩] 46))
              have HS1 : Hid (Sl (wr.alloc (.cells #[.int .u8 3, .int .i64 (i : Nat), .int .i64 0, .int .i64 0, .string ⟨#[]⟩] 46)) 5 (.slice (some ⟨wr.heap.size, 0, none⟩) 1 1) 1 (insC (hgL i))) := Lib.hid (Sl.litS wr (insC (hgL i)) 46 5 1 rfl (by decide))
              have HB1 := Lib.hid (HW.out.alloc HW.out.size (.cells #[.int .u8 3, .int .i64 (i : Nat), .int .i64 0, .int .i64 0, .string ⟨#[]⟩] 46))
              go_wp2_with (at_builtin; refine wpL_append etIns rfl _ _ rfl HO1.out rfl HS1.out rfl (ins_one _) (by omega) (by simp [maxLen]; omega) HB1.out.size ?_; intro v6 w6 ho6 hg6; obtain ⟨a6, c6, rfl⟩ := ho6.form)
              exact ⟨⟨i + 1, a6, c6, by omega, rfl, by go_num, Lib.hid (by rw [in_range]; exact ho6), Lib.hid (below_own HB1.out HO1.out hg6 (Nat.le_refl _) HB1.out.size)⟩, by simp [RowKit.intOf]; omega⟩
        · have h3' : ¬ (T : Int) ≤ A := by omega
          have hd : decide (T ≤ A) = false := decide_eq_false h3
          have hE0 : E = 17 := hE.trans (ht_no (fun h => h3 h.2))
          subst hE0
          clear hE h2 h3
          go_upto_region 12 with fail
          try simp only [hd]
          try clear hd
          try clear h3'
          try clear h2'
          go_wp2_with fail
          go_loopw [12, 13] (fun v12 v13 wr2 => ∃ (i : Nat) (aL : Option Addr) (cL : Nat), i ≤ A ∧ v12 = .slice aL i cL ∧ v13 = .int .i64 (i : Nat) ∧ Hid (Own wr2 W.heap.size 5 (.slice aL i cL) i (inCells ((List.range i).map hgL))) ∧ Hid (Below W.heap.size W wr2)) (fun _ v13 _ => A - (RowKit.intOf v13).toNat)
          case atStart => exact ⟨0, none, 0, Nat.zero_le _, rfl, rfl, Lib.hid (Own.nil _ _ _), HB8⟩
          case round =>
            clear HB8
            obtain ⟨i, aL, cL, hi, rfl, rfl, HO, HW⟩ := hrel
            by_cases hiA : i = A
            · have hiA' : A = i := hiA.symm
              subst hiA'
              clear hiA hi
              go_wp2_with fail
              simp only [hQi]
              clear hQi
              go_loopw [12, 15] (fun v12 v15 wr2 => ∃ (j : Nat) (aL : Option Addr) (cL : Nat), j ≤ Q ∧ v12 = .slice aL (A + j) cL ∧ v15 = .int .i64 (j : Nat) ∧ Hid (Own wr2 W.heap.size 5 (.slice aL (A + j) cL) (A + j) (inCells ((List.range A).map hgL ++ List.replicate j hgP))) ∧ Hid (Below W.heap.size W wr2)) (fun _ v15 _ => Q - (RowKit.intOf v15).toNat)
              case atStart => exact ⟨0, aL, cL, Nat.zero_le _, rfl, rfl, Lib.hid (by simpa using HO.out), HW⟩
              case round =>
                clear HO HW
                obtain ⟨j, aL, cL, hj, rfl, rfl, HO, HW⟩ := hrel
                by_cases hjQ : j = Q
                · have hjQ' : Q = j := hjQ.symm
                  subst hjQ'
                  clear hjQ hj
                  obtain ⟨w1, hw1⟩ : ∃ y, y = wr.alloc (.cells #[.int .u8 8, .int .i64 0, .int .i64 0, .int .i64 0, .string ⟨#[]⟩] 46) := ⟨_, rfl⟩
                  have HO1 : Hid (Own w1 W.heap.size 5 (.slice aL (A + Q) cL) (A + Q) (inCells ((List.range A).map hgL ++ List.replicate Q hgP))) := Lib.hid (by rw [hw1]; exact HO.out.alloc _)
                  have HS1 : Hid (Sl w1 5 (.slice (some ⟨wr.heap.size, 0, none⟩) 1 1) 1 (insC hgR)) := Lib.hid (by rw [hw1]; exact Sl.litS wr (insC hgR) 46 5 1 rfl (by decide))
                  have HB1 : Hid (Below W.heap.size W w1) := Lib.hid (by rw [hw1]; exact HW.out.alloc HW.out.size _)
                  go_upto_region 23 with (at_builtin; rw [← hw1]; clear hw1; refine wpL_append etIns rfl _ _ rfl HO1.out rfl HS1.out rfl (ins_one _) (by omega) (by simp [maxLen]; omega) HB1.out.size ?_; intro v6 w6 ho6 hg6; obtain ⟨a6, c6, rfl⟩ := ho6.form)
                  have HO6 : Hid (Own w6 W.heap.size 5 (.slice a6 (A + Q + 1) c6) (A + Q + 1) (inCells (hgF A Q))) := Lib.hid (by unfold hgF; rw [in_more]; exact ho6)
                  have HB6 := Lib.hid (below_own HB1.out HO1.out hg6 (Nat.le_refl _) HB1.out.size)
                  clear ho6 hg6 HO1 HS1 HB1 HO HW
                  obtain ⟨w7, hw7⟩ : ∃ y, y = (w6.alloc (.cells #[.int .u8 6, .int .i64 1, .int .i64 1, .int .i64 0, .string ⟨#[]⟩, .int .u8 25, .int .i64 0, .int .i64 0, .int .i64 0, .string ⟨#[]⟩] 46)).alloc (.cells #[.slice (some ⟨w6.heap.size, 0, none⟩) 2 2, .slice a6 (A + Q + 1) c6] 44) := ⟨_, rfl⟩
                  have HB7 : Hid (Below W.heap.size W w7) := Lib.hid (by rw [hw7]; exact (HB6.out.alloc HB6.out.size _).alloc (by simp; have := HB6.out.size; omega) _)
                  have HC7 : Hid (CodM w7 (.slice (some ⟨w6.heap.size + 1, 0, none⟩) 2 2) (.slice none 0 0) (hgC A Q)) := Lib.hid (by
                    rw [hw7]
                    obtain ⟨w5, hw5⟩ : ∃ y, y = w6.alloc (.cells (inCells [hgG, htH]).toArray 46) := ⟨_, rfl⟩
                    have hs5 := Sl.litS w6 (inCells [hgG, htH]) 46 5 2 rfl (by decide)
                    rw [← hw5] at hs5
                    have e5 : w5.heap.size = w6.heap.size + 1 := by rw [hw5]; simp
                    have ho5 : Own w5 W.heap.size 5 (.slice a6 (A + Q + 1) c6) (A + Q + 1) (inCells (hgF A Q)) := by rw [hw5]; exact HO6.out.alloc _
                    show CodM (World.alloc (w6.alloc (.cells (inCells [hgG, htH]).toArray 46)) _) _ _ _
                    rw [← hw5, ← e5]
                    have hs6 := Sl.lit w5 [.slice (some ⟨w6.heap.size, 0, none⟩) 2 2, .slice a6 (A + Q + 1) c6] 44 2 rfl (by decide)
                    have hb6 : Below w5.heap.size w5 (w5.alloc (.cells #[.slice (some ⟨w6.heap.size, 0, none⟩) 2 2, .slice a6 (A + Q + 1) c6] 44)) := (Below.refl _ _).alloc (Nat.le_refl _) _
                    refine ⟨⟨[.slice (some ⟨w6.heap.size, 0, none⟩) 2 2, .slice a6 (A + Q + 1) c6], hs6, .cons (hs5.below hb6) (.cons ?_ .nil)⟩, Sl.nil _ 2⟩
                    rw [hgF_len]
                    exact (ho5.below hb6).sl)
                  obtain ⟨E, hE⟩ : ∃ y, y = checkE (hgC A Q) := ⟨_, rfl⟩
                  have hck := check_p W pb fuel pn HP0 _ _ _ _ _ _ (hgC A Q) w7 HB7 HC7.out (by decide) (hg_small hA6 hQ6) (by decide) E (Lib.hid hE)
                  go_upto_region 24 with fail
                  rw [← hw7]
                  clear hw7
                  refine hck.mono ?_
                  rintro e w8 ⟨rfl, hb8⟩
                  clear hck
                  have HB8 := Lib.hid (HB7.out.trans (hb8.mono HB7.out.size))
                  clear HC7 HO6 HB6 HB7 hb8
                  have hwk := works_p W pb fuel pn HP0 w8 HB8
                  by_cases hAQ : A = Q + 1
                  · have hE0 : E = 0 := hE.trans (hg_yes hA6 hAQ)
                    subst hE0
                    have hs : (((A : Int) - Q) == 1) = true := by rw [beq_iff_eq]; omega
                    clear hE hAQ
                    go_wp2_with fail
                    refine hwk.mono ?_
                    rintro e wz ⟨rfl, hbz⟩
                    clear hwk
                    go_wp2_with fail
                    go_ret
                    exact ⟨rfl, HB8.out.trans (hbz.mono HB8.out.size)⟩
                  · have hE0 : E = 17 := hE.trans (hg_no hAQ)
                    subst hE0
                    have hs : (((A : Int) - Q) == 1) = false := by rw [beq_eq_false_iff_ne]; omega
                    clear hE hAQ
                    go_wp2_with fail
                    refine hwk.mono ?_
                    rintro e wz ⟨rfl, hbz⟩
                    clear hwk
                    go_wp2_with fail
                    go_ret
                    exact ⟨rfl, HB8.out.trans (hbz.mono HB8.out.size)⟩
                · have hjlt : j < Q := by omega
                  have hjlt' : (j : Int) < Q := by omega
                  have HO1 := Lib.hid (HO.out.alloc (.cells #[.int .u8 21, .int .i64 0, .int .i64 0, .int .i64 0, .string ⟨#[]⟩] 46))
                  have HS1 : Hid (Sl (wr.alloc (.cells #[.int .u8 21, .int .i64 0, .int .i64 0, .int .i64 0, .string ⟨#[]⟩] 46)) 5 (.slice (some ⟨wr.heap.size, 0, none⟩) 1 1) 1 (insC hgP)) := Lib.hid (Sl.litS wr (insC hgP) 46 5 1 rfl (by decide))
                  have HB1 := Lib.hid (HW.out.alloc HW.out.size (.cells #[.int .u8 21, .int .i64 0, .int .i64 0, .int .i64 0, .string ⟨#[]⟩] 46))
                  go_wp2_with (at_builtin; refine wpL_append etIns rfl _ _ rfl HO1.out rfl HS1.out rfl (ins_one _) (by omega) (by simp [maxLen]; omega) HB1.out.size ?_; intro v6 w6 ho6 hg6; obtain ⟨a6, c6, rfl⟩ := ho6.form)
                  exact ⟨⟨j + 1, a6, c6, by omega, rfl, by go_num, Lib.hid (by rw [in_rep]; exact ho6), Lib.hid (below_own HB1.out HO1.out hg6 (Nat.le_refl _) HB1.out.size)⟩, by simp [RowKit.intOf]; omega⟩
            · have hilt : i < A := by omega
              have hilt' : (i : Int) < A := by omega
              have HO1 := Lib.hid (HO.out.alloc (.cells #[.int .u8 3, .int .i64 (i : Nat), .int .i64 0, .int .i64 0, .string ⟨#[]⟩] 46))
              have HS1 : Hid (Sl (wr.alloc (.cells #[.int .u8 3, .int .i64 (i : Nat), .int .i64 0, .int .i64 0, .string ⟨#[]⟩] 46)) 5 (.slice (some ⟨wr.heap.size, 0, none⟩) 1 1) 1 (insC (hgL i))) := Lib.hid (Sl.litS wr (insC (hgL i)) 46 5 1 rfl (by decide))
              have HB1 := Lib.hid (HW.out.alloc HW.out.size (.cells #[.int .u8 3, .int .i64 (i : Nat), .int .i64 0, .int .i64 0, .string ⟨#[]⟩] 46))
              go_wp2_with (at_builtin; refine wpL_append etIns rfl _ _ rfl HO1.out rfl HS1.out rfl (ins_one _) (by omega) (by simp [maxLen]; omega) HB1.out.size ?_; intro v6 w6 ho6 hg6; obtain ⟨a6, c6, rfl⟩ := ho6.form)
              exact ⟨⟨i + 1, a6, c6, by omega, rfl, by go_num, Lib.hid (by rw [in_range]; exact ho6), Lib.hid (below_own HB1.out HO1.out hg6 (Nat.le_refl _) HB1.out.size)⟩, by simp [RowKit.intOf]; omega⟩
      · have h2' : ¬ (2 : Int) ≤ T := by omega
        have hE0 : E = 17 := hE.trans (ht_no (fun h => h2 h.1))
        subst hE0
        clear hE h2
        go_upto_region 12 with fail
        try simp only [hd]
        try clear hd
        try clear h3'
        try clear h2'
        go_wp2_with fail
        go_loopw [12, 13] (fun v12 v13 wr2 => ∃ (i : Nat) (aL : Option Addr) (cL : Nat), i ≤ A ∧ v12 = .slice aL i cL ∧ v13 = .int .i64 (i : Nat) ∧ Hid (Own wr2 W.heap.size 5 (.slice aL i cL) i (inCells ((List.range i).map hgL))) ∧ Hid (Below W.heap.size W wr2)) (fun _ v13 _ => A - (RowKit.intOf v13).toNat)
        case atStart => exact ⟨0, none, 0, Nat.zero_le _, rfl, rfl, Lib.hid (Own.nil _ _ _), HB8⟩
        case round =>
          clear HB8
          obtain ⟨i, aL, cL, hi, rfl, rfl, HO, HW⟩ := hrel
          by_cases hiA : i = A
          · have hiA' : A = i := hiA.symm
            subst hiA'
            clear hiA hi
            go_wp2_with fail
            simp only [hQi]
            clear hQi
            go_loopw [12, 15] (fun v12 v15 wr2 => ∃ (j : Nat) (aL : Option Addr) (cL : Nat), j ≤ Q ∧ v12 = .slice aL (A + j) cL ∧ v15 = .int .i64 (j : Nat) ∧ Hid (Own wr2 W.heap.size 5 (.slice aL (A + j) cL) (A + j) (inCells ((List.range A).map hgL ++ List.replicate j hgP))) ∧ Hid (Below W.heap.size W wr2)) (fun _ v15 _ => Q - (RowKit.intOf v15).toNat)
            case atStart => exact ⟨0, aL, cL, Nat.zero_le _, rfl, rfl, Lib.hid (by simpa using HO.out), HW⟩
            case round =>
              clear HO HW
              obtain ⟨j, aL, cL, hj, rfl, rfl, HO, HW⟩ := hrel
              by_cases hjQ : j = Q
              · have hjQ' : Q = j := hjQ.symm
                subst hjQ'
                clear hjQ hj
                obtain ⟨w1, hw1⟩ : ∃ y, y = wr.alloc (.cells #[.int .u8 8, .int .i64 0, .int .i64 0, .int .i64 0, .string ⟨#[]⟩] 46) := ⟨_, rfl⟩
                have HO1 : Hid (Own w1 W.heap.size 5 (.slice aL (A + Q) cL) (A + Q) (inCells ((List.range A).map hgL ++ List.replicate Q hgP))) := Lib.hid (by rw [hw1]; exact HO.out.alloc _)
                have HS1 : Hid (Sl w1 5 (.slice (some ⟨wr.heap.size, 0, none⟩) 1 1) 1 (insC hgR)) := Lib.hid (by rw [hw1]; exact Sl.litS wr (insC hgR) 46 5 1 rfl (by decide))
                have HB1 : Hid (Below W.heap.size W w1) := Lib.hid (by rw [hw1]; exact HW.out.alloc HW.out.size _)
                go_upto_region 23 with (at_builtin; rw [← hw1]; clear hw1; refine wpL_append etIns rfl _ _ rfl HO1.out rfl HS1.out rfl (ins_one _) (by omega) (by simp [maxLen]; omega) HB1.out.size ?_; intro v6 w6 ho6 hg6; obtain ⟨a6, c6, rfl⟩ := ho6.form)
                have HO6 : Hid (Own w6 W.heap.size 5 (.slice a6 (A + Q + 1) c6) (A + Q + 1) (inCells (hgF A Q))) := Lib.hid (by unfold hgF; rw [in_more]; exact ho6)
                have HB6 := Lib.hid (below_own HB1.out HO1.out hg6 (Nat.le_refl _) HB1.out.size)
                clear ho6 hg6 HO1 HS1 HB1 HO HW
                obtain ⟨w7, hw7⟩ : ∃ y, y = (w6.alloc (.cells #[.int .u8 6, .int .i64 1, .int .i64 1, .int .i64 0, .string ⟨#[]⟩, .int .u8 25, .int .i64 0, .int .i64 0, .int .i64 0, .string ⟨#[]⟩] 46)).alloc (.cells #[.slice (some ⟨w6.heap.size, 0, none⟩) 2 2, .slice a6 (A + Q + 1) c6] 44) := ⟨_, rfl⟩
                have HB7 : Hid (Below W.heap.size W w7) := Lib.hid (by rw [hw7]; exact (HB6.out.alloc HB6.out.size _).alloc (by simp; have := HB6.out.size; omega) _)
                have HC7 : Hid (CodM w7 (.slice (some ⟨w6.heap.size + 1, 0, none⟩) 2 2) (.slice none 0 0) (hgC A Q)) := Lib.hid (by
                  rw [hw7]
                  obtain ⟨w5, hw5⟩ : ∃ y, y = w6.alloc (.cells (inCells [hgG, htH]).toArray 46) := ⟨_, rfl⟩
                  have hs5 := Sl.litS w6 (inCells [hgG, htH]) 46 5 2 rfl (by decide)
                  rw [← hw5] at hs5
                  have e5 : w5.heap.size = w6.heap.size + 1 := by rw [hw5]; simp
                  have ho5 : Own w5 W.heap.size 5 (.slice a6 (A + Q + 1) c6) (A + Q + 1) (inCells (hgF A Q)) := by rw [hw5]; exact HO6.out.alloc _
                  show CodM (World.alloc (w6.alloc (.cells (inCells [hgG, htH]).toArray 46)) _) _ _ _
                  rw [← hw5, ← e5]
                  have hs6 := Sl.lit w5 [.slice (some ⟨w6.heap.size, 0, none⟩) 2 2, .slice a6 (A + Q + 1) c6] 44 2 rfl (by decide)
                  have hb6 : Below w5.heap.size w5 (w5.alloc (.cells #[.slice (some ⟨w6.heap.size, 0, none⟩) 2 2, .slice a6 (A + Q + 1) c6] 44)) := (Below.refl _ _).alloc (Nat.le_refl _) _
                  refine ⟨⟨[.slice (some ⟨w6.heap.size, 0, none⟩) 2 2, .slice a6 (A + Q + 1) c6], hs6, .cons (hs5.below hb6) (.cons ?_ .nil)⟩, Sl.nil _ 2⟩
                  rw [hgF_len]
                  exact (ho5.below hb6).sl)
                obtain ⟨E, hE⟩ : ∃ y, y = checkE (hgC A Q) := ⟨_, rfl⟩
                have hck := check_p W pb fuel pn HP0 _ _ _ _ _ _ (hgC A Q) w7 HB7 HC7.out (by decide) (hg_small hA6 hQ6) (by decide) E (Lib.hid hE)
                go_upto_region 24 with fail
                rw [← hw7]
                clear hw7
                refine hck.mono ?_
                rintro e w8 ⟨rfl, hb8⟩
                clear hck
                have HB8 := Lib.hid (HB7.out.trans (hb8.mono HB7.out.size))
                clear HC7 HO6 HB6 HB7 hb8
                have hwk := works_p W pb fuel pn HP0 w8 HB8
                by_cases hAQ : A = Q + 1
                · have hE0 : E = 0 := hE.trans (hg_yes hA6 hAQ)
                  subst hE0
                  have hs : (((A : Int) - Q) == 1) = true := by rw [beq_iff_eq]; omega
                  clear hE hAQ
                  go_wp2_with fail
                  refine hwk.mono ?_
                  rintro e wz ⟨rfl, hbz⟩
                  clear hwk
                  go_wp2_with fail
                  go_ret
                  exact ⟨rfl, HB8.out.trans (hbz.mono HB8.out.size)⟩
                · have hE0 : E = 17 := hE.trans (hg_no hAQ)
                  subst hE0
                  have hs : (((A : Int) - Q) == 1) = false := by rw [beq_eq_false_iff_ne]; omega
                  clear hE hAQ
                  go_wp2_with fail
                  refine hwk.mono ?_
                  rintro e wz ⟨rfl, hbz⟩
                  clear hwk
                  go_wp2_with fail
                  go_ret
                  exact ⟨rfl, HB8.out.trans (hbz.mono HB8.out.size)⟩
              · have hjlt : j < Q := by omega
                have hjlt' : (j : Int) < Q := by omega
                have HO1 := Lib.hid (HO.out.alloc (.cells #[.int .u8 21, .int .i64 0, .int .i64 0, .int .i64 0, .string ⟨#[]⟩] 46))
                have HS1 : Hid (Sl (wr.alloc (.cells #[.int .u8 21, .int .i64 0, .int .i64 0, .int .i64 0, .string ⟨#[]⟩] 46)) 5 (.slice (some ⟨wr.heap.size, 0, none⟩) 1 1) 1 (insC hgP)) := Lib.hid (Sl.litS wr (insC hgP) 46 5 1 rfl (by decide))
                have HB1 := Lib.hid (HW.out.alloc HW.out.size (.cells #[.int .u8 21, .int .i64 0, .int .i64 0, .int .i64 0, .string ⟨#[]⟩] 46))
                go_wp2_with (at_builtin; refine wpL_append etIns rfl _ _ rfl HO1.out rfl HS1.out rfl (ins_one _) (by omega) (by simp [maxLen]; omega) HB1.out.size ?_; intro v6 w6 ho6 hg6; obtain ⟨a6, c6, rfl⟩ := ho6.form)
                exact ⟨⟨j + 1, a6, c6, by omega, rfl, by go_num, Lib.hid (by rw [in_rep]; exact ho6), Lib.hid (below_own HB1.out HO1.out hg6 (Nat.le_refl _) HB1.out.size)⟩, by simp [RowKit.intOf]; omega⟩
          · have hilt : i < A := by omega
            have hilt' : (i : Int) < A := by omega
            have HO1 := Lib.hid (HO.out.alloc (.cells #[.int .u8 3, .int .i64 (i : Nat), .int .i64 0, .int .i64 0, .string ⟨#[]⟩] 46))
            have HS1 : Hid (Sl (wr.alloc (.cells #[.int .u8 3, .int .i64 (i : Nat), .int .i64 0, .int .i64 0, .string ⟨#[]⟩] 46)) 5 (.slice (some ⟨wr.heap.size, 0, none⟩) 1 1) 1 (insC (hgL i))) := Lib.hid (Sl.litS wr (insC (hgL i)) 46 5 1 rfl (by decide))
            have HB1 := Lib.hid (HW.out.alloc HW.out.size (.cells #[.int .u8 3, .int .i64 (i : Nat), .int .i64 0, .int .i64 0, .string ⟨#[]⟩] 46))
            go_wp2_with (at_builtin; refine wpL_append etIns rfl _ _ rfl HO1.out rfl HS1.out rfl (ins_one _) (by omega) (by simp [maxLen]; omega) HB1.out.size ?_; intro v6 w6 ho6 hg6; obtain ⟨a6, c6, rfl⟩ := ho6.form)
            exact ⟨⟨i + 1, a6, c6, by omega, rfl, by go_num, Lib.hid (by rw [in_range]; exact ho6), Lib.hid (below_own HB1.out HO1.out hg6 (Nat.le_refl _) HB1.out.size)⟩, by simp [RowKit.intOf]; omega⟩
    · have hilt : i < A := by omega
      have hilt' : (i : Int) < A := by omega
      have HO1 := Lib.hid (HO.out.alloc (.cells #[.int .u8 1, .int .i64 (i : Nat), .int .i64 0, .int .i64 0, .string ⟨#[]⟩] 46))
      have HS1 : Hid (Sl (wr.alloc (.cells #[.int .u8 1, .int .i64 (i : Nat), .int .i64 0, .int .i64 0, .string ⟨#[]⟩] 46)) 5 (.slice (some ⟨wr.heap.size, 0, none⟩) 1 1) 1 (insC (htI i))) := Lib.hid (Sl.litS wr (insC (htI i)) 46 5 1 rfl (by decide))
      have HB1 := Lib.hid (HW.out.alloc HW.out.size (.cells #[.int .u8 1, .int .i64 (i : Nat), .int .i64 0, .int .i64 0, .string ⟨#[]⟩] 46))
      go_wp2_with (at_builtin; refine wpL_append etIns rfl _ _ rfl HO1.out rfl HS1.out rfl (ins_one _) (by omega) (by simp [maxLen]; omega) HB1.out.size ?_; intro v6 w6 ho6 hg6; obtain ⟨a6, c6, rfl⟩ := ho6.form)
      exact ⟨⟨i + 1, a6, c6, by omega, rfl, by go_num, Lib.hid (by rw [in_range]; exact ho6), Lib.hid (below_own HB1.out HO1.out hg6 (Nat.le_refl _) HB1.out.size)⟩, by simp [RowKit.intOf]; omega⟩
theorem heights_top (a b c : Int) (W : World) (ha : (Lit.int .u8 a).wf = true) (hb : (Lit.int .u8 b).wf = true) (hc : (Lit.int .u8 c).wf = true) (h : ∃ b fuel n, PrimsR W b fuel n) :
    Calls Tryd.prog 9 #[.int .u8 a, .int .u8 b, .int .u8 c] W fun e w' => e = .returned (.bool true) ∧ Below W.heap.size W w' := by
  obtain ⟨n, hn, rfl⟩ := nat_u8 ha
  obtain ⟨t, ht, rfl⟩ := nat_u8 hb
  obtain ⟨p, hp, rfl⟩ := nat_u8 hc
  exact law_heights n t p hn ht hp W h
end Go.Proofs.YtoddklfblcfoiaaDoor
