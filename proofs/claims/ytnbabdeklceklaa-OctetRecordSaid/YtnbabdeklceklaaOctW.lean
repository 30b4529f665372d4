/-
  The walks of the laws' helpers of octet: works, spread, held.
-/
import Derived.Test.YtnbabdeklceklaaOctR
import Derived.Deep.QuietTactic
namespace Go.Proofs.Ytnbabdeklceklaa
open Go.RowKit
set_option linter.unusedVariables false

set_option maxHeartbeats 800000 in
theorem works_any (w : World) : Calls Try.prog 8 #[] w fun e w' => e = .returned (.bool true) ∧ Below w.heap.size w w' := by
  have c1 : putL [9] 515 2 = [9, 3, 2] := by decide +kernel
  have c2 : fillIs [9, 3, 2] 6 = true := by decide +kernel
  have c3 : fillL [9, 3, 2] 6 = [9, 3, 2, 0, 0, 0] := by decide +kernel
  have c4 : getN [9, 3, 2, 0, 0, 0] 1 2 = 515 := by decide +kernel
  have c5 : getE [9, 3, 2, 0, 0, 0] 1 2 = 0 := by decide +kernel
  have c6 : getE [9, 3, 2, 0, 0, 0] 5 2 = 1 := by decide +kernel
  have c7 : cutIs [9, 3, 2, 0, 0, 0] 2 3 = true := by decide +kernel
  have c8 : cutL [9, 3, 2, 0, 0, 0] 2 3 = [2, 0, 0] := by decide +kernel
  have hs := Sl.one w (.int .u8 9) 5
  have hB0 : Hid (Below w.heap.size w (w.alloc (.cells #[.int .u8 9] 5))) := (Below.refl _ _).alloc (Nat.le_refl _) _
  go_enter Try.func8, Try.ntmps8
  go_wp2_with fail
  refine (put_any _ _ _ [9] _ 515 2 hs (by omega) (by omega)).mono ?_
  rintro e w1 ⟨v1, rfl, ho1, hb1⟩
  rw [c1] at ho1
  obtain ⟨a1, k1, rfl⟩ := ho1.form
  have HO1 := Lib.hid ho1
  have HB1 := Lib.hid (hB0.out.trans (hb1.mono (by simp)))
  clear ho1 hb1 hs hB0
  go_wp2_with fail
  refine (fill_any a1 _ _ _ _ 6 HO1.out.sl).mono ?_
  rintro e w2 ⟨v2, rfl, ho2, hb2⟩
  rw [c3] at ho2
  rw [c2]
  obtain ⟨a2, k2, rfl⟩ := ho2.form
  have HO2 := Lib.hid ho2
  have HB2 := Lib.hid (HB1.out.trans (hb2.mono HB1.out.size))
  clear ho2 hb2 HO1 HB1
  go_wp2_with fail
  refine (get_any a2 _ _ _ _ 1 2 HO2.out.sl (by decide)).mono ?_
  rintro e w3 ⟨rfl, hb3⟩
  rw [c4, c5]
  have HO3 := Lib.hid (HO2.out.below hb3)
  have HB3 := Lib.hid (HB2.out.trans (hb3.mono HB2.out.size))
  clear hb3 HO2 HB2
  go_wp2_with fail
  refine (get_any a2 _ _ _ _ 5 2 HO3.out.sl (by decide)).mono ?_
  rintro e w4 ⟨rfl, hb4⟩
  rw [c6]
  have HO4 := Lib.hid (HO3.out.below hb4)
  have HB4 := Lib.hid (HB3.out.trans (hb4.mono HB3.out.size))
  clear hb4 HO3 HB3
  go_wp2_with fail
  refine (cut_any a2 _ _ _ _ 2 3 HO4.out.sl (by decide)).mono ?_
  rintro e w5 ⟨v5, rfl, ho5, hb5⟩
  rw [c8] at ho5
  rw [c7]
  have HB5 := Lib.hid (HB4.out.trans (hb5.mono HB4.out.size))
  obtain ⟨g, off, k5, rfl, _, _, _, _, _⟩ := ho5.open (by decide) (by decide)
  have h0 : w5.cell? ⟨g, off, none⟩ = some (.int .u8 2) := ho5.get 0 (by decide)
  have h2 : w5.cell? ⟨g, off + 2, none⟩ = some (.int .u8 0) := ho5.get 2 (by decide)
  clear ho5 hb5 HO4 HB4
  go_wp2_with fail
  go_ret
  exact ⟨rfl, HB5.out⟩

/-- a list that is laid into noughts, cell by cell -/
def laid (T : List UInt8) (i : Nat) : List UInt8 := T.take i ++ List.replicate (T.length - i) 0
theorem laid_length (T : List UInt8) (i : Nat) (h : i ≤ T.length) : (laid T i).length = T.length := by simp [laid]; omega
theorem laid_zero (T : List UInt8) : laid T 0 = List.replicate T.length 0 := by simp [laid]
theorem laid_all (T : List UInt8) : laid T T.length = T := by simp [laid]
theorem laid_step (T : List UInt8) (i : Nat) (h : i < T.length) (b : UInt8) : ((laid T i).set i b).set i (T.getD i 0) = laid T (i + 1) := by
  rw [List.set_set, laid, laid, List.set_append_right _ _ (by simp; omega), List.length_take, Nat.min_eq_left (Nat.le_of_lt h), Nat.sub_self, take_snoc T i h]
  obtain ⟨k, hk⟩ : ∃ k, T.length - i = k + 1 := ⟨T.length - i - 1, by omega⟩
  rw [hk, List.replicate_succ, List.set_cons_zero, show T.length - (i + 1) = k by omega]
  simp
theorem laid_step1 (T : List UInt8) (i : Nat) (h : i < T.length) : (laid T i).set i (T.getD i 0) = laid T (i + 1) := by
  have := laid_step T i h 0
  rwa [List.set_set] at this

theorem spread_any (a : Option Addr) (n c : Nat) (l : List UInt8) (w : World) (y : UInt8) (hl : Sl w 1 (.slice a n c) n (bvs l)) (hsz : n ≤ 1048576) :
    Calls Try.prog 9 #[.slice a n c, .int .u8 y.toNat] w fun e w' => ∃ g off c', e = .returned (.slice (some ⟨g, off, none⟩) n c') ∧ n + 16 ≤ c' ∧
      Own w' w.heap.size 1 (.slice (some ⟨g, off, none⟩) (n + 16) c') (n + 16) (bvs (l ++ List.replicate 16 y)) ∧ Below w.heap.size w w' := by
  have hn := hl.len
  have HL := Lib.hid hl
  clear hl
  obtain ⟨T, hT⟩ : ∃ T, T = l ++ List.replicate 16 y := ⟨_, rfl⟩
  have hTl : T.length = n + 16 := by rw [hT]; simp [hn.1]
  have HT := Lib.hid hT
  rw [← hT]
  clear hT
  go_enter Try.func9, Try.ntmps9
  go_wp2_with (first | (at_make; refine wpL_make etB rfl rfl _ _ rfl (n + 16) w.heap.size rfl rfl rfl rfl (by omega) (by simp [maxLen]; omega) (Nat.le_refl _) ?_; rintro v2 w2 hown hb ⟨g, off, rfl, hg⟩; have HO := Lib.hid hown; have HB := Lib.hid hb; have HG := Lib.hid hg; clear hown hb hg))
  obtain ⟨W2, hW2⟩ : ∃ W2 : World, W2 = w2 := ⟨_, rfl⟩
  go_loopw [6] (fun v wr => ∃ i : Nat, i ≤ n + 16 ∧ v = .int .i64 i ∧ Own wr w.heap.size 1 (.slice (some ⟨g, off, none⟩) (n + 16) (n + 16)) (n + 16) (bvs (laid T i)) ∧ Below w.heap.size w wr) (fun v _ => n + 16 - (intOf v).toNat)
  case atStart =>
    refine ⟨0, Nat.zero_le _, rfl, ?_, HB.out⟩
    rw [laid_zero, hTl, ← bvs_replicate]
    exact HO.out
  case round =>
    obtain ⟨i, hi, rfl, ho, hb⟩ := hrel
    have HOr := Lib.hid ho
    have HBr := Lib.hid hb
    by_cases him : i = n + 16
    · subst him
      have HTn : Hid (laid T (n + 16) = T) := by show _ = _; rw [← hTl]; exact laid_all T
      clear ho hb
      go_wp2_with fail
      go_ret
      refine ⟨g, off, n + 16, rfl, Nat.le_refl _, ?_, HBr.out⟩
      rw [← HTn.out]
      exact HOr.out
    · have hlt : i < n + 16 := by omega
      have h1 := ho.get i (by rw [bvs_length, laid_length _ _ (by omega), hTl]; omega)
      have h2 := ho.free i (by rw [bvs_length, laid_length _ _ (by omega), hTl]; omega)
      rw [bvs_get _ _ (by rw [laid_length _ _ (by omega)]; omega)] at h1
      by_cases hin : i < n
      · have hsl := HL.out.below HBr.out
        obtain ⟨b', off', rfl, hb1⟩ := hsl.byte hin
        have hbg : b' ≠ g := by
          obtain ⟨b2, o2, e2, hb2⟩ := HL.out.byte hin
          cases e2
          have := lt_of_cell hb2
          have := HG.out
          omega
        have hT1 : Hid (T.getD i 0 = l.getD i 0) := by
          show _ = _
          rw [HT.out]; simp [List.getElem?_append_left (show i < l.length by omega)]
        obtain ⟨z, hz⟩ : ∃ z, z = l.getD i 0 := ⟨_, rfl⟩
        rw [← hz] at hb1 hT1
        have hb2 : ∀ u, (wr.setCell ⟨g, off + i, none⟩ u).cell? ⟨b', off' + i, none⟩ = some (.int .u8 (z.toNat : Int)) := fun u => (cell_setCell_ne (by simp; omega)).trans hb1
        have h3 : ∀ u, ∃ v, (wr.setCell ⟨g, off + i, none⟩ u).cell? ⟨g, off + i, none⟩ = some v := fun u => ⟨_, cell_setCell_same h1⟩
        clear ho hb hsl hz
        go_wp2_with fail
        refine ⟨⟨i + 1, by omega, rfl, ?_, (HBr.out.setCell (p := ⟨g, off + i, none⟩) HG.out _).setCell (p := ⟨g, off + i, none⟩) HG.out _⟩, by simp [intOf]; omega⟩
        rw [← laid_step T i (by omega) y, hT1.out, ← bvs_set, ← bvs_set]
        exact (HOr.out.set i _).set i _
      · have hT1 : Hid (T.getD i 0 = y) := by
          show _ = _
          rw [HT.out, List.getD_eq_getElem?_getD, List.getElem?_append_right (by omega), List.getElem?_replicate, if_pos (by omega)]; rfl
        clear ho hb
        go_wp2_with fail
        refine ⟨⟨i + 1, by omega, rfl, ?_, HBr.out.setCell (p := ⟨g, off + i, none⟩) HG.out _⟩, by simp [intOf]; omega⟩
        rw [← laid_step1 T i (by omega), hT1.out, ← bvs_set]
        exact HOr.out.set i _

/-- whether the bytes of a and what is behind them stand -/
def heldB (l : List UInt8) (y : UInt8) (m : List UInt8) : Bool := m == l ++ List.replicate 16 y

set_option maxRecDepth 1000000 in
theorem held_any (g off n c : Nat) (a : Option Addr) (k : Nat) (l : List UInt8) (w : World) (y : UInt8) (hs : Sl w 1 (.slice (some ⟨g, off, none⟩) (n + 16) c) (n + 16) (bvs (l ++ List.replicate 16 y))) (hl : Sl w 1 (.slice a n k) n (bvs l)) (hsz : n ≤ 1048576) :
    Calls Try.prog 18 #[.slice (some ⟨g, off, none⟩) n c, .slice a n k, .int .u8 y.toNat] w fun e w' => e = .returned (.bool true) ∧ Below w.heap.size w w' := by
  have hn := hl.len
  have hc := hs.cap
  have HL := Lib.hid hl
  have HS := Lib.hid hs
  clear hl hs
  go_enter Try.func18, Try.ntmps18
  go_wp2_with fail
  go_loopw [8] (fun v wr => ∃ i : Nat, i ≤ n + 16 ∧ v = .int .i64 i ∧ Below w.heap.size w wr) (fun v _ => n + 16 - (intOf v).toNat)
  case atStart => exact ⟨0, Nat.zero_le _, rfl, Below.refl _ _⟩
  case round =>
    obtain ⟨i, hi, rfl, hb⟩ := hrel
    have HB := Lib.hid hb
    by_cases him : i = n + 16
    · subst him
      go_wp2_with fail
      go_ret
      exact ⟨rfl, HB.out⟩
    · have hlt : i < n + 16 := by omega
      obtain ⟨b1, o1, he, hb1⟩ := (HS.out.below HB.out).byte hlt
      cases he
      clear hb
      have hlt2 : (i : Int) < (n : Int) + 16 := by omega
      by_cases hin : i < n
      · obtain ⟨b2, o2, rfl, hb2⟩ := (HL.out.below HB.out).byte hin
        have hT1 : (l ++ List.replicate 16 y).getD i 0 = l.getD i 0 := by simp [List.getElem?_append_left (show i < l.length by omega)]
        rw [hT1] at hb1
        obtain ⟨z, hz⟩ : ∃ z, z = l.getD i 0 := ⟨_, rfl⟩
        rw [← hz] at hb1 hb2
        clear hz hT1
        have hin2 : (i : Int) < (n : Int) := by omega
        have hin3 : decide (n ≤ i) = false := by simp; omega
        go_wp2_with fail
        go_quiet (fail)
        all_goals go_wp2_with fail
        go_roundw
        case rel => exact ⟨i + 1, by omega, by go_num, HB.out.trans ⟨rfl, rfl, rfl, Nat.le_refl _, fun _ _ => rfl⟩⟩
        case measure => simp [intOf]; omega
      · have hT1 : (l ++ List.replicate 16 y).getD i 0 = y := by
          rw [List.getD_eq_getElem?_getD, List.getElem?_append_right (by omega), List.getElem?_replicate, if_pos (by omega)]; rfl
        rw [hT1] at hb1
        clear hT1
        have hin2 : ¬ (i : Int) < (n : Int) := by omega
        go_wp2_with fail
        go_quiet (fail)
        all_goals go_wp2_with fail
        go_roundw
        case rel => exact ⟨i + 1, by omega, by go_num, HB.out.trans ⟨rfl, rfl, rfl, Nat.le_refl _, fun _ _ => rfl⟩⟩
        case measure => simp [intOf]; omega
end Go.Proofs.Ytnbabdeklceklaa
