/-
  The document's Takes, and Same, walked. Condition: code within a machine's reach.
-/
import Derived.Test.YtoddklfblcfoiaaDoorCoK
import Derived.Test.YtoddklfblcfoiaaDoorCoE
import Derived.Test.YtoddklfblcfoiaaDoorRef00
namespace Go.Proofs.YtoddklfblcfoiaaDoor
open Go Go.RowKit
set_option linter.unusedVariables false
set_option linter.unusedSimpArgs false
set_option maxRecDepth 100000

theorem bs_ne {s t : List UInt8} (h : s ≠ t) : ((str s).toList == t) = false := by rw [ByteArray.toList_eq, str_toList, beq_eq_false_iff_ne]; exact h
theorem bs_eq {s t : List UInt8} (h : s = t) : ((str s).toList == t) = true := by rw [ByteArray.toList_eq, str_toList, h]; simp
set_option maxHeartbeats 8000000 in
theorem rtakes_p (s : List UInt8) (w : World) :
    Calls Tryd.prog 23 #[.string (str s)] w fun e w' => e = .returned (.tuple #[.int .i64 (takesN s : Nat), .bool (takesB s)]) ∧ Below w.heap.size w w' := by
  go_enter Tryd.func23, Tryd.ntmps23
  go_upto_region 2 with fail
  by_cases hs : s = ([112, 114, 105, 110, 116])
  · have hb : ((str s).toList == ([112, 114, 105, 110, 116])) = true := bs_eq hs
    have HT := Lib.hid (takes_in (s := s) (k := 1) (by rw [hs]; decide))
    clear hs
    go_wp2_with fail
    go_ret2
    exact ⟨by rw [HT.out.1, HT.out.2]; rfl, Below.refl _ _⟩
  have hb : ((str s).toList == ([112, 114, 105, 110, 116])) = false := bs_ne hs
  have n0 := Lib.hid hs
  clear hs
  go_upto_region 3 with fail
  clear hb
  by_cases hs : s = ([105, 116, 111, 115])
  · have hb : ((str s).toList == ([105, 116, 111, 115])) = true := bs_eq hs
    have HT := Lib.hid (takes_in (s := s) (k := 1) (by rw [hs]; decide))
    clear hs
    go_wp2_with fail
    go_ret2
    exact ⟨by rw [HT.out.1, HT.out.2]; rfl, Below.refl _ _⟩
  have hb : ((str s).toList == ([105, 116, 111, 115])) = false := bs_ne hs
  have n1 := Lib.hid hs
  clear hs
  go_upto_region 4 with fail
  clear hb
  by_cases hs : s = ([115, 105, 122, 101])
  · have hb : ((str s).toList == ([115, 105, 122, 101])) = true := bs_eq hs
    have HT := Lib.hid (takes_in (s := s) (k := 1) (by rw [hs]; decide))
    clear hs
    go_wp2_with fail
    go_ret2
    exact ⟨by rw [HT.out.1, HT.out.2]; rfl, Below.refl _ _⟩
  have hb : ((str s).toList == ([115, 105, 122, 101])) = false := bs_ne hs
  have n2 := Lib.hid hs
  clear hs
  go_upto_region 5 with fail
  clear hb
  by_cases hs : s = ([110, 111, 116])
  · have hb : ((str s).toList == ([110, 111, 116])) = true := bs_eq hs
    have HT := Lib.hid (takes_in (s := s) (k := 1) (by rw [hs]; decide))
    clear hs
    go_wp2_with fail
    go_ret2
    exact ⟨by rw [HT.out.1, HT.out.2]; rfl, Below.refl _ _⟩
  have hb : ((str s).toList == ([110, 111, 116])) = false := bs_ne hs
  have n3 := Lib.hid hs
  clear hs
  go_upto_region 6 with fail
  clear hb
  by_cases hs : s = ([114, 101, 102])
  · have hb : ((str s).toList == ([114, 101, 102])) = true := bs_eq hs
    have HT := Lib.hid (takes_in (s := s) (k := 1) (by rw [hs]; decide))
    clear hs
    go_wp2_with fail
    go_ret2
    exact ⟨by rw [HT.out.1, HT.out.2]; rfl, Below.refl _ _⟩
  have hb : ((str s).toList == ([114, 101, 102])) = false := bs_ne hs
  have n4 := Lib.hid hs
  clear hs
  go_upto_region 7 with fail
  clear hb
  by_cases hs : s = ([108, 101, 110])
  · have hb : ((str s).toList == ([108, 101, 110])) = true := bs_eq hs
    have HT := Lib.hid (takes_in (s := s) (k := 1) (by rw [hs]; decide))
    clear hs
    go_wp2_with fail
    go_ret2
    exact ⟨by rw [HT.out.1, HT.out.2]; rfl, Below.refl _ _⟩
  have hb : ((str s).toList == ([108, 101, 110])) = false := bs_ne hs
  have n5 := Lib.hid hs
  clear hs
  go_upto_region 8 with fail
  clear hb
  by_cases hs : s = ([99, 111, 109, 109, 105, 116])
  · have hb : ((str s).toList == ([99, 111, 109, 109, 105, 116])) = true := bs_eq hs
    have HT := Lib.hid (takes_in (s := s) (k := 1) (by rw [hs]; decide))
    clear hs
    go_wp2_with fail
    go_ret2
    exact ⟨by rw [HT.out.1, HT.out.2]; rfl, Below.refl _ _⟩
  have hb : ((str s).toList == ([99, 111, 109, 109, 105, 116])) = false := bs_ne hs
  have n6 := Lib.hid hs
  clear hs
  go_upto_region 9 with fail
  clear hb
  by_cases hs : s = ([97, 98, 111, 114, 116])
  · have hb : ((str s).toList == ([97, 98, 111, 114, 116])) = true := bs_eq hs
    have HT := Lib.hid (takes_in (s := s) (k := 1) (by rw [hs]; decide))
    clear hs
    go_wp2_with fail
    go_ret2
    exact ⟨by rw [HT.out.1, HT.out.2]; rfl, Below.refl _ _⟩
  have hb : ((str s).toList == ([97, 98, 111, 114, 116])) = false := bs_ne hs
  have n7 := Lib.hid hs
  clear hs
  go_upto_region 10 with fail
  clear hb
  by_cases hs : s = ([126])
  · have hb : ((str s).toList == ([126])) = true := bs_eq hs
    have HT := Lib.hid (takes_in (s := s) (k := 1) (by rw [hs]; decide))
    clear hs
    go_wp2_with fail
    go_ret2
    exact ⟨by rw [HT.out.1, HT.out.2]; rfl, Below.refl _ _⟩
  have hb : ((str s).toList == ([126])) = false := bs_ne hs
  have n8 := Lib.hid hs
  clear hs
  go_upto_region 11 with fail
  clear hb
  by_cases hs : s = ([33])
  · have hb : ((str s).toList == ([33])) = true := bs_eq hs
    have HT := Lib.hid (takes_in (s := s) (k := 1) (by rw [hs]; decide))
    clear hs
    go_wp2_with fail
    go_ret2
    exact ⟨by rw [HT.out.1, HT.out.2]; rfl, Below.refl _ _⟩
  have hb : ((str s).toList == ([33])) = false := bs_ne hs
  have n9 := Lib.hid hs
  clear hs
  go_upto_region 13 with fail
  clear hb
  by_cases hs : s = ([115, 97, 109, 101])
  · have hb : ((str s).toList == ([115, 97, 109, 101])) = true := bs_eq hs
    have HT := Lib.hid (takes_in (s := s) (k := 2) (by rw [hs]; decide))
    clear hs
    go_wp2_with fail
    go_ret2
    exact ⟨by rw [HT.out.1, HT.out.2]; rfl, Below.refl _ _⟩
  have hb : ((str s).toList == ([115, 97, 109, 101])) = false := bs_ne hs
  have n10 := Lib.hid hs
  clear hs
  go_upto_region 14 with fail
  clear hb
  by_cases hs : s = ([97, 114, 114, 97, 121])
  · have hb : ((str s).toList == ([97, 114, 114, 97, 121])) = true := bs_eq hs
    have HT := Lib.hid (takes_in (s := s) (k := 2) (by rw [hs]; decide))
    clear hs
    go_wp2_with fail
    go_ret2
    exact ⟨by rw [HT.out.1, HT.out.2]; rfl, Below.refl _ _⟩
  have hb : ((str s).toList == ([97, 114, 114, 97, 121])) = false := bs_ne hs
  have n11 := Lib.hid hs
  clear hs
  go_upto_region 15 with fail
  clear hb
  by_cases hs : s = ([103, 101, 116])
  · have hb : ((str s).toList == ([103, 101, 116])) = true := bs_eq hs
    have HT := Lib.hid (takes_in (s := s) (k := 2) (by rw [hs]; decide))
    clear hs
    go_wp2_with fail
    go_ret2
    exact ⟨by rw [HT.out.1, HT.out.2]; rfl, Below.refl _ _⟩
  have hb : ((str s).toList == ([103, 101, 116])) = false := bs_ne hs
  have n12 := Lib.hid hs
  clear hs
  go_upto_region 16 with fail
  clear hb
  by_cases hs : s = ([43])
  · have hb : ((str s).toList == ([43])) = true := bs_eq hs
    have HT := Lib.hid (takes_in (s := s) (k := 2) (by rw [hs]; decide))
    clear hs
    go_wp2_with fail
    go_ret2
    exact ⟨by rw [HT.out.1, HT.out.2]; rfl, Below.refl _ _⟩
  have hb : ((str s).toList == ([43])) = false := bs_ne hs
  have n13 := Lib.hid hs
  clear hs
  go_upto_region 17 with fail
  clear hb
  by_cases hs : s = ([45])
  · have hb : ((str s).toList == ([45])) = true := bs_eq hs
    have HT := Lib.hid (takes_in (s := s) (k := 2) (by rw [hs]; decide))
    clear hs
    go_wp2_with fail
    go_ret2
    exact ⟨by rw [HT.out.1, HT.out.2]; rfl, Below.refl _ _⟩
  have hb : ((str s).toList == ([45])) = false := bs_ne hs
  have n14 := Lib.hid hs
  clear hs
  go_upto_region 18 with fail
  clear hb
  by_cases hs : s = ([42])
  · have hb : ((str s).toList == ([42])) = true := bs_eq hs
    have HT := Lib.hid (takes_in (s := s) (k := 2) (by rw [hs]; decide))
    clear hs
    go_wp2_with fail
    go_ret2
    exact ⟨by rw [HT.out.1, HT.out.2]; rfl, Below.refl _ _⟩
  have hb : ((str s).toList == ([42])) = false := bs_ne hs
  have n15 := Lib.hid hs
  clear hs
  go_upto_region 19 with fail
  clear hb
  by_cases hs : s = ([100, 105, 118])
  · have hb : ((str s).toList == ([100, 105, 118])) = true := bs_eq hs
    have HT := Lib.hid (takes_in (s := s) (k := 2) (by rw [hs]; decide))
    clear hs
    go_wp2_with fail
    go_ret2
    exact ⟨by rw [HT.out.1, HT.out.2]; rfl, Below.refl _ _⟩
  have hb : ((str s).toList == ([100, 105, 118])) = false := bs_ne hs
  have n16 := Lib.hid hs
  clear hs
  go_upto_region 20 with fail
  clear hb
  by_cases hs : s = ([109, 111, 100])
  · have hb : ((str s).toList == ([109, 111, 100])) = true := bs_eq hs
    have HT := Lib.hid (takes_in (s := s) (k := 2) (by rw [hs]; decide))
    clear hs
    go_wp2_with fail
    go_ret2
    exact ⟨by rw [HT.out.1, HT.out.2]; rfl, Below.refl _ _⟩
  have hb : ((str s).toList == ([109, 111, 100])) = false := bs_ne hs
  have n17 := Lib.hid hs
  clear hs
  go_upto_region 21 with fail
  clear hb
  by_cases hs : s = ([60])
  · have hb : ((str s).toList == ([60])) = true := bs_eq hs
    have HT := Lib.hid (takes_in (s := s) (k := 2) (by rw [hs]; decide))
    clear hs
    go_wp2_with fail
    go_ret2
    exact ⟨by rw [HT.out.1, HT.out.2]; rfl, Below.refl _ _⟩
  have hb : ((str s).toList == ([60])) = false := bs_ne hs
  have n18 := Lib.hid hs
  clear hs
  go_upto_region 22 with fail
  clear hb
  by_cases hs : s = ([60, 61])
  · have hb : ((str s).toList == ([60, 61])) = true := bs_eq hs
    have HT := Lib.hid (takes_in (s := s) (k := 2) (by rw [hs]; decide))
    clear hs
    go_wp2_with fail
    go_ret2
    exact ⟨by rw [HT.out.1, HT.out.2]; rfl, Below.refl _ _⟩
  have hb : ((str s).toList == ([60, 61])) = false := bs_ne hs
  have n19 := Lib.hid hs
  clear hs
  go_upto_region 23 with fail
  clear hb
  by_cases hs : s = ([62])
  · have hb : ((str s).toList == ([62])) = true := bs_eq hs
    have HT := Lib.hid (takes_in (s := s) (k := 2) (by rw [hs]; decide))
    clear hs
    go_wp2_with fail
    go_ret2
    exact ⟨by rw [HT.out.1, HT.out.2]; rfl, Below.refl _ _⟩
  have hb : ((str s).toList == ([62])) = false := bs_ne hs
  have n20 := Lib.hid hs
  clear hs
  go_upto_region 24 with fail
  clear hb
  by_cases hs : s = ([62, 61])
  · have hb : ((str s).toList == ([62, 61])) = true := bs_eq hs
    have HT := Lib.hid (takes_in (s := s) (k := 2) (by rw [hs]; decide))
    clear hs
    go_wp2_with fail
    go_ret2
    exact ⟨by rw [HT.out.1, HT.out.2]; rfl, Below.refl _ _⟩
  have hb : ((str s).toList == ([62, 61])) = false := bs_ne hs
  have n21 := Lib.hid hs
  clear hs
  go_upto_region 25 with fail
  clear hb
  by_cases hs : s = ([61])
  · have hb : ((str s).toList == ([61])) = true := bs_eq hs
    have HT := Lib.hid (takes_in (s := s) (k := 2) (by rw [hs]; decide))
    clear hs
    go_wp2_with fail
    go_ret2
    exact ⟨by rw [HT.out.1, HT.out.2]; rfl, Below.refl _ _⟩
  have hb : ((str s).toList == ([61])) = false := bs_ne hs
  have n22 := Lib.hid hs
  clear hs
  go_upto_region 26 with fail
  clear hb
  by_cases hs : s = ([60, 62])
  · have hb : ((str s).toList == ([60, 62])) = true := bs_eq hs
    have HT := Lib.hid (takes_in (s := s) (k := 2) (by rw [hs]; decide))
    clear hs
    go_wp2_with fail
    go_ret2
    exact ⟨by rw [HT.out.1, HT.out.2]; rfl, Below.refl _ _⟩
  have hb : ((str s).toList == ([60, 62])) = false := bs_ne hs
  have n23 := Lib.hid hs
  clear hs
  go_upto_region 27 with fail
  clear hb
  by_cases hs : s = ([94])
  · have hb : ((str s).toList == ([94])) = true := bs_eq hs
    have HT := Lib.hid (takes_in (s := s) (k := 2) (by rw [hs]; decide))
    clear hs
    go_wp2_with fail
    go_ret2
    exact ⟨by rw [HT.out.1, HT.out.2]; rfl, Below.refl _ _⟩
  have hb : ((str s).toList == ([94])) = false := bs_ne hs
  have n24 := Lib.hid hs
  clear hs
  go_upto_region 28 with fail
  clear hb
  by_cases hs : s = ([58, 61])
  · have hb : ((str s).toList == ([58, 61])) = true := bs_eq hs
    have HT := Lib.hid (takes_in (s := s) (k := 2) (by rw [hs]; decide))
    clear hs
    go_wp2_with fail
    go_ret2
    exact ⟨by rw [HT.out.1, HT.out.2]; rfl, Below.refl _ _⟩
  have hb : ((str s).toList == ([58, 61])) = false := bs_ne hs
  have n25 := Lib.hid hs
  clear hs
  go_upto_region 30 with fail
  clear hb
  by_cases hs : s = ([112, 117, 116])
  · have hb : ((str s).toList == ([112, 117, 116])) = true := bs_eq hs
    have HT := Lib.hid (takes_in (s := s) (k := 3) (by rw [hs]; decide))
    clear hs
    go_wp2_with fail
    go_ret2
    exact ⟨by rw [HT.out.1, HT.out.2]; rfl, Below.refl _ _⟩
  have hb : ((str s).toList == ([112, 117, 116])) = false := bs_ne hs
  have n26 := Lib.hid hs
  clear hs
  go_upto_region 32 with fail
  clear hb
  have h1 : s ∉ tabP 1 := fun h => by
    have h : s ∈ P1 := h
    simp only [P1, List.mem_cons, List.not_mem_nil, or_false] at h
    rcases h with h | h | h | h | h | h | h | h | h | h
    · exact n0.out h
    · exact n1.out h
    · exact n2.out h
    · exact n3.out h
    · exact n4.out h
    · exact n5.out h
    · exact n6.out h
    · exact n7.out h
    · exact n8.out h
    · exact n9.out h
  have h2 : s ∉ tabP 2 := fun h => by
    have h : s ∈ P2 := h
    simp only [P2, List.mem_cons, List.not_mem_nil, or_false] at h
    rcases h with h | h | h | h | h | h | h | h | h | h | h | h | h | h | h | h
    · exact n10.out h
    · exact n11.out h
    · exact n12.out h
    · exact n13.out h
    · exact n14.out h
    · exact n15.out h
    · exact n16.out h
    · exact n17.out h
    · exact n18.out h
    · exact n19.out h
    · exact n20.out h
    · exact n21.out h
    · exact n22.out h
    · exact n23.out h
    · exact n24.out h
    · exact n25.out h
  have h3 : s ∉ tabP 3 := fun h => by
    have h : s ∈ P3 := h
    simp only [P3, List.mem_cons, List.not_mem_nil, or_false] at h
    exact n26.out h
  have HT := Lib.hid (takes_out h1 h2 h3)
  clear h1 h2 h3
  go_wp2_with fail
  go_ret2
  exact ⟨by rw [HT.out.1, HT.out.2]; rfl, Below.refl _ _⟩
set_option maxHeartbeats 4000000 in
theorem same_p (aF : Option Addr) (nF kF : Nat) (aR : Option Addr) (nR kR : Nat) (c : Cod) (aG : Option Addr) (nG kG : Nat) (aS : Option Addr) (nS kS : Nat) (d : Cod) (w : World) (hc : CodM w (.slice aF nF kF) (.slice aR nR kR) c) (hd : CodM w (.slice aG nG kG) (.slice aS nS kS) d) (HC : Hid ((codL c).length ≤ 1000000000)) (HD : Hid ((codL d).length ≤ 1000000000)) (X : Bool) (HX : Hid (X = decide (codL c = codL d))) :
    Calls Tryd.prog 18 #[.agg #[.slice aF nF kF, .slice aR nR kR], .agg #[.slice aG nG kG, .slice aS nS kS]] w fun e w' => e = .returned (.bool X) ∧ Below w.heap.size w w' := by
  obtain ⟨w1, hw1⟩ : ∃ y, y = w.alloc (.cells #[.slice aF nF kF, .slice aR nR kR] 25) := ⟨_, rfl⟩
  have hr1 : Row w1 w.heap.size 25 [.slice aF nF kF, .slice aR nR kR] := by rw [hw1]; exact Row.new w _ _
  have hb1 : Below w.heap.size w w1 := by rw [hw1]; exact (Below.refl _ _).alloc (Nat.le_refl _) _
  have hs1 : w1.heap.size = w.heap.size + 1 := by rw [hw1]; simp
  obtain ⟨w2, hw2⟩ : ∃ y, y = w1.alloc (.cells #[.slice aG nG kG, .slice aS nS kS] 25) := ⟨_, rfl⟩
  have hr2 : Row w2 w1.heap.size 25 [.slice aG nG kG, .slice aS nS kS] := by rw [hw2]; exact Row.new w1 _ _
  have hb2 : Below w1.heap.size w1 w2 := by rw [hw2]; exact (Below.refl _ _).alloc (Nat.le_refl _) _
  rw [hs1] at hr2
  have hr1b := hr1.after hb2
  have hb3 : Below w.heap.size w w2 := hb1.trans (hb2.mono hb1.size)
  have HC1 := Lib.hid (hc.below hb3)
  have HD1 := Lib.hid (hd.below hb3)
  have HB3 := Lib.hid hb3
  have c0 := hr1b.cell 0
  have c1 := hr1b.cell 1
  have d0 := hr2.cell 0
  have d1 := hr2.cell 1
  simp only [List.getElem?_cons_zero, List.getElem?_cons_succ] at c0 c1 d0 d1
  have q0 := later_cell c0
  have q1 := later_cell c1
  have q2 := later_cell d0
  have q3 := later_cell d1
  clear hr1 hr2 hr1b hb1 hb2 hb3 c0 c1 d0 d1 hs1 hc hd
  go_enter Tryd.func18, Tryd.ntmps18
  go_upto_region 1 with fail
  rw [← hw1, ← hw2]
  clear hw1 hw2
  refine wp_region_idx Rb Rb_refl Rb_trans [(0,0),(0,2),(1,1),(1,3),(1,4),(0,5)] (by kernel_rfl) (by kernel_rfl) (by kernel_rfl) ?_
  simp only [pickO, List.getD_cons_succ, List.getD_cons_zero]
  refine wpCan_seg 2 (by kernel_rfl) ?_
  simp only [List.take_succ_cons, List.take_zero, List.drop_succ_cons, List.drop_zero, List.map_cons, List.map_nil]
  iterate 2 (go_big_quiet_step (fail))
  refine wpQuiet_nil ?_
  clear q0 q1 q2 q3
  refine wpCan_list (k := 0) (fun KK hK => ?_) (fun _ => Rb_refl _)
  go_wp2_with fail
  refine (rwrite_p aF nF kF aR nR kR c w2.drew (HC1.out.below (Below.refl _ _).drew) HC).mono ?_
  rintro e w3 ⟨v3, rfl, ho3, hb3⟩
  obtain ⟨a3, k3, rfl⟩ := ho3.form
  have HO3 := Lib.hid ho3
  have HB4 := Lib.hid ((Below.refl w2.heap.size w2).drew.trans hb3)
  have HC3 := Lib.hid HC.out
  clear ho3
  obtain ⟨n3, hn3⟩ : ∃ n, n = (codL c).length := ⟨_, rfl⟩
  rw [← hn3] at HO3 HC3
  have hn4 := HC3.out
  rw [← hn3]
  clear hn3
  go_wp2_with fail
  refine hK _ _ (fun _ => hb3) ?_
  clear hK KK hb3
  refine wpCan_list (k := 0) (fun KK hK => ?_) (fun _ => Rb_refl _)
  go_wp2_with fail
  refine (rwrite_p aG nG kG aS nS kS d w3 (HD1.out.below HB4.out) HD).mono ?_
  rintro e w5 ⟨v5, rfl, ho5, hb5⟩
  obtain ⟨a5, k5, rfl⟩ := ho5.form
  have HO5 := Lib.hid ho5
  have HO3' := Lib.hid (HO3.out.sl.below hb5)
  have HB5 := Lib.hid hb5
  have HD3 := Lib.hid HD.out
  clear ho5
  obtain ⟨n5, hn5⟩ : ∃ n, n = (codL d).length := ⟨_, rfl⟩
  rw [← hn5] at HO5 HD3
  have hn6 := HD3.out
  rw [← hn5]
  clear hn5
  go_wp2_with fail
  refine hK _ _ (fun _ => hb5) ?_
  clear hK KK hb5
  refine wpCan_list (k := 0) (fun KK hK => ?_) (fun _ => Rb_refl _)
  go_wp2_with fail
  refine (eqb_any a3 n3 k3 a5 n5 k5 (codL c) (codL d) w5 HO3'.out HO5.out.sl (by omega) (by omega)).mono ?_
  rw [← HX.out]
  rintro e w6 ⟨rfl, hb6⟩
  have HB6 := Lib.hid hb6
  go_wp2_with fail
  refine hK _ _ (fun _ => hb6) ?_
  clear hK KK hb6
  refine wpCan_seg 1 (by kernel_rfl) ?_
  simp only [List.take_succ_cons, List.take_zero, List.drop_succ_cons, List.drop_zero, List.map_cons, List.map_nil]
  iterate 1 (go_big_quiet_step (fail))
  refine wpQuiet_nil ?_
  unfold wpCan
  go_wp2_with fail
  go_ret
  have h1 := HB3.out.size
  have h4 := HB4.out.size
  have h5 := HB5.out.size
  exact ⟨rfl, ((HB3.out.trans (HB4.out.mono h1)).trans (HB5.out.mono (by omega))).trans (HB6.out.mono (by omega))⟩
end Go.Proofs.YtoddklfblcfoiaaDoor
