/-
  Plain law: a block with one byte laid anew and its sum made right.
-/
import Derived.Test.YtobagfndagjajaaDoorBlkV
namespace Go.Proofs.YtobagfndagjajaaDoor
open Go.RowKit
set_option linter.unusedVariables false
set_option linter.unusedSimpArgs false

theorem trim_all (l : List UInt8) : (trimL l).length = 0 ↔ ∀ i, i < l.length → l.getD i 0 = 0 := by
  rw [trim_zeros]
  constructor
  · intro h i hi
    rw [h]
    simp [List.getD, List.getElem?_replicate, hi]
  · intro h
    refine List.ext_getElem (by simp) fun i h1 h2 => ?_
    have := h i h1
    rw [List.getD, List.getElem?_eq_getElem h1] at this
    simpa using this
theorem forms_ok (q : List UInt8) (hq : q.length = 252) : opOk (sumL q) = true ↔ (q.getD 0 0 ≠ 0 ∧ opN (sumL q) ≤ 248 ∧ q.getD 1 0 = 0 ∧ ∀ i, 4 + opN (sumL q) ≤ i → i < 252 → q.getD i 0 = 0) := by
  rw [opOk_sumL q hq]
  simp only [Bool.and_eq_true, Bool.not_eq_true', decide_eq_false_iff_not, decide_eq_true_eq, trim_all, List.length_drop, hq]
  refine and_congr Iff.rfl (and_congr Iff.rfl (and_congr Iff.rfl ?_))
  constructor
  · intro h i h1 h2
    have := h (i - (4 + opN (sumL q))) (by omega)
    rw [List.getD, List.getElem?_drop, show 4 + opN (sumL q) + (i - (4 + opN (sumL q))) = i by omega] at this
    exact this
  · intro h i hi
    rw [List.getD, List.getElem?_drop]
    exact h _ (by omega) (by omega)
theorem getD_set8 (l : List UInt8) (k i : Nat) (v : UInt8) (hk : k < l.length) : (l.set k v).getD i 0 = if i = k then v else l.getD i 0 := by
  simp only [List.getD, List.getElem?_set]
  by_cases h : i = k
  · subst h; simp [hk]
  · rw [if_neg (fun e => h e.symm), if_neg h]
section
variable {K : UInt8} {l : List UInt8} (hl : l.length ≤ 248)
theorem blkP0 : (blkP K l).getD 0 0 = K := by simp [blkP, frontL]
theorem blkP1 : (blkP K l).getD 1 0 = 0 := by simp [blkP, frontL]
include hl in
theorem blkP23 : ((blkP K l).getD 2 0).toNat + 256 * ((blkP K l).getD 3 0).toNat = l.length := by
  have e : digs l.length 2 = [UInt8.ofNat (l.length % 256), UInt8.ofNat (l.length / 256 % 256)] := by simp [digs, List.range_succ]
  have h2 : (blkP K l).getD 2 0 = UInt8.ofNat (l.length % 256) := by simp [blkP, frontL, e]
  have h3 : (blkP K l).getD 3 0 = UInt8.ofNat (l.length / 256 % 256) := by simp [blkP, frontL, e]
  rw [h2, h3, UInt8.toNat_ofNat', UInt8.toNat_ofNat']
  omega
theorem blkPz (i : Nat) (h : 4 + l.length ≤ i) : (blkP K l).getD i 0 = 0 := by
  have hf : (frontL K l.length ++ l).length = 4 + l.length := by rw [List.length_append, frontL_len]
  rw [blkP, List.getD, List.getElem?_append_right (by omega), List.getElem?_replicate]
  split <;> rfl
include hl in
theorem opN_set (k : Nat) (v : UInt8) (hk : k < 252) (h2 : k ≠ 2) (h3 : k ≠ 3) : opN (sumL ((blkP K l).set k v)) = l.length := by
  have hP := blkP_len K l hl
  rw [opN_sumL _ (by rw [List.length_set, hP]), getD_set8 _ _ _ _ (by omega), getD_set8 _ _ _ _ (by omega), if_neg (by omega), if_neg (by omega), blkP23 hl]
include hl in
theorem form_0 (v : UInt8) : opOk (sumL ((blkP K l).set 0 v)) = !decide (v = 0) := by
  have hP := blkP_len K l hl
  have h := forms_ok ((blkP K l).set 0 v) (by rw [List.length_set, hP])
  rw [opN_set hl 0 v (by decide) (by decide) (by decide)] at h
  simp only [getD_set8 _ _ _ _ (show 0 < (blkP K l).length by omega)] at h
  rw [Bool.eq_iff_iff, h]
  simp only [if_true, Bool.not_eq_true', decide_eq_false_iff_not]
  refine ⟨fun h => h.1, fun h => ⟨h, hl, by rw [if_neg (by decide), blkP1], fun i h1 h2 => ?_⟩⟩
  rw [if_neg (by omega), blkPz i h1]
include hl in
theorem form_1 (v : UInt8) (hK : K ≠ 0) : opOk (sumL ((blkP K l).set 1 v)) = decide (v = 0) := by
  have hP := blkP_len K l hl
  have h := forms_ok ((blkP K l).set 1 v) (by rw [List.length_set, hP])
  rw [opN_set hl 1 v (by decide) (by decide) (by decide)] at h
  simp only [getD_set8 _ _ _ _ (show 1 < (blkP K l).length by omega)] at h
  rw [Bool.eq_iff_iff, h]
  simp only [if_true, decide_eq_true_eq]
  refine ⟨fun h => h.2.2.1, fun h => ⟨by rw [if_neg (by decide), blkP0]; exact hK, hl, h, fun i h1 h2 => ?_⟩⟩
  rw [if_neg (by omega), blkPz i h1]
include hl in
theorem form_z (k : Nat) (v : UInt8) (hK : K ≠ 0) (hk : k < 252) (hn : 4 + l.length ≤ k) : opOk (sumL ((blkP K l).set k v)) = decide (v = 0) := by
  have hP := blkP_len K l hl
  have h := forms_ok ((blkP K l).set k v) (by rw [List.length_set, hP])
  rw [opN_set hl k v hk (by omega) (by omega)] at h
  simp only [getD_set8 _ _ _ _ (show k < (blkP K l).length by omega)] at h
  rw [Bool.eq_iff_iff, h]
  simp only [decide_eq_true_eq]
  refine ⟨fun h => ?_, fun h => ⟨by rw [if_neg (by omega), blkP0]; exact hK, hl, by rw [if_neg (by omega), blkP1], fun i h1 h2 => ?_⟩⟩
  · have := h.2.2.2 k hn hk
    rwa [if_pos rfl] at this
  · split
    · exact h
    · exact blkPz i h1
include hl in
theorem form_b (k : Nat) (v : UInt8) (hK : K ≠ 0) (h4 : 4 ≤ k) (hn : k < 4 + l.length) : opOk (sumL ((blkP K l).set k v)) = true := by
  have hP := blkP_len K l hl
  have h := forms_ok ((blkP K l).set k v) (by rw [List.length_set, hP])
  rw [opN_set hl k v (by omega) (by omega) (by omega)] at h
  simp only [getD_set8 _ _ _ _ (show k < (blkP K l).length by omega)] at h
  rw [h]
  refine ⟨by rw [if_neg (by omega), blkP0]; exact hK, hl, by rw [if_neg (by omega), blkP1], fun i h1 h2 => ?_⟩
  rw [if_neg (by omega)]
  exact blkPz i h1
include hl in
theorem form_23 (k : Nat) (v : UInt8) (hK : K ≠ 0) (hk : k = 2 ∨ k = 3) : opOk (sumL ((blkP K l).set k v)) = true ↔ opN (sumL ((blkP K l).set k v)) ≤ 248 ∧ ∀ i, 4 + opN (sumL ((blkP K l).set k v)) ≤ i → i < 252 → ((blkP K l).set k v).getD i 0 = 0 := by
  have hP := blkP_len K l hl
  rw [forms_ok ((blkP K l).set k v) (by rw [List.length_set, hP])]
  rw [getD_set8 _ _ _ _ (show k < (blkP K l).length by omega), getD_set8 _ _ _ _ (show k < (blkP K l).length by omega), if_neg (by omega), if_neg (by omega), blkP0, blkP1]
  exact ⟨fun h => ⟨h.2.1, h.2.2.2⟩, fun h => ⟨hK, h.1, rfl, h.2⟩⟩
end
theorem take_blk (K : UInt8) (l : List UInt8) (hl : l.length ≤ 248) (k : Nat) (v : UInt8) : ((blkL K l).set k v).take 252 = (blkP K l).set k v := by
  rw [List.take_set, blkL, List.take_append_of_le_length (by rw [blkP_len K l hl]; omega), List.take_of_length_le (by rw [blkP_len K l hl]; omega)]
theorem sum_same (X : List UInt8) (hX : X.length = 256) (i : Nat) (hi : i < 252) : (sumL (X.take 252)).getD i 0 = X.getD i 0 := by
  simp only [List.getD]
  rw [sumL, List.getElem?_append_left (by rw [List.length_take]; omega), List.getElem?_take, if_pos hi]
theorem sum_body (X : List UInt8) (hX : X.length = 256) (h : opN (sumL (X.take 252)) ≤ 248) : opB (sumL (X.take 252)) = (X.drop 4).take (opN (sumL (X.take 252))) := by
  refine List.ext_getElem ?_ fun i h1 h2 => ?_
  · rw [opB, List.length_take, List.length_take, List.length_drop, List.length_drop, sumL_len, List.length_take, hX]
    omega
  · have hi : i < opN (sumL (X.take 252)) := by rw [List.length_take] at h2; omega
    have e := sum_same X hX (4 + i) (by omega)
    have hS : (sumL (X.take 252)).length = 256 := by rw [sumL_len, List.length_take, hX]; rfl
    rw [List.getD, List.getD, List.getElem?_eq_getElem (by omega), List.getElem?_eq_getElem (by omega)] at e
    simp only [opB, List.getElem_take, List.getElem_drop]
    exact e
theorem sum_get (X : List UInt8) (hX : X.length = 256) : getN X 2 2 = opN (sumL (X.take 252)) := by
  have e := getN_at4 X 2 2 rfl (by omega)
  rw [leN_two _ _ (by omega)] at e
  rw [opN_sumL _ (by rw [List.length_take, hX]; rfl)]
  simp only [List.getD, List.getElem?_take] at e ⊢
  exact e
end Go.Proofs.YtobagfndagjajaaDoor
