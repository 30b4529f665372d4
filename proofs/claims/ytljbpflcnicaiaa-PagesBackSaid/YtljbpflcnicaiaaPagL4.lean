/-
  What is laid is told: plain laws of the parts. No condition but that a map is one.
-/
import Derived.Test.YtljbpflcnicaiaaPagL3
namespace Go.Proofs.Ytljbpflcnicaiaa
open Go.RowKit
set_option linter.unusedVariables false
set_option linter.unusedSimpArgs false

theorem words_bytes2 : ∀ (X : List Nat), (∀ x ∈ X, x < 65536) → wordsL (bytes2 X) = X
  | [], _ => rfl
  | x :: X, h => by
    have ih := words_bytes2 X fun y hy => h y (List.mem_cons_of_mem _ hy)
    have hx := h x (List.mem_cons_self ..)
    unfold bytes2 at ih ⊢
    rw [List.flatMap_cons, digs2, List.cons_append, List.cons_append, List.nil_append, wordsL, ih]
    congr 1
    have h1 : (UInt8.ofNat (x % 256)).toNat = x % 256 := by simp
    have h2 : (UInt8.ofNat (x / 256 % 256)).toNat = x / 256 % 256 := by simp
    rw [h1, h2]; omega
theorem bytes2_words : ∀ (l : List UInt8), l.length % 2 = 0 → bytes2 (wordsL l) = l
  | [], _ => rfl
  | [x], h => by simp at h
  | x :: y :: r, h => by
    have ih := bytes2_words r (by simp at h; omega)
    unfold bytes2 at ih ⊢
    have hx := x.toNat_lt
    have hy := y.toNat_lt
    rw [wordsL, List.flatMap_cons, ih, digs2, show (x.toNat + 256 * y.toNat) % 256 = x.toNat by omega, show (x.toNat + 256 * y.toNat) / 256 % 256 = y.toNat by omega]
    simp
theorem trimZ_last (n : Nat) : ∀ (l : List Nat), l.length = n → trimZ l = [] ∨ ∃ Y x, trimZ l = Y ++ [x] ∧ x ≠ 0 := by
  induction n with
  | zero => intro l h; left; rw [List.eq_nil_of_length_eq_zero h]; rfl
  | succ n ih =>
    intro l h
    have hne : l ≠ [] := by intro e; rw [e] at h; simp at h
    have e := List.dropLast_concat_getLast hne
    by_cases h0 : l.getLast hne = 0
    · rw [h0] at e
      rw [← e, trimZ_zero]
      exact ih l.dropLast (by rw [List.length_dropLast]; omega)
    · right
      refine ⟨l.dropLast, l.getLast hne, ?_, h0⟩
      conv => lhs; rw [← e]
      exact trimZ_snoc _ _ h0
theorem endZ_bytes2 (X : List Nat) (hX : ∀ x ∈ X, x < 65536) (h : X = [] ∨ ∃ Y x, X = Y ++ [x] ∧ x ≠ 0) : endZ (bytes2 X) = false := by
  rcases h with rfl | ⟨Y, x, rfl, hx⟩
  · rfl
  · have hlt := hX x (by simp)
    have hl := bytes2_len (Y ++ [x])
    rw [List.length_append, List.length_singleton] at hl
    have hg := bytes2_get (Y ++ [x]) Y.length (by simp)
    have hd : (Y ++ [x]).getD Y.length 0 = x := by
      rw [List.getD_eq_getElem?_getD, List.getElem?_append_right (Nat.le_refl _), Nat.sub_self]; rfl
    rw [hd] at hg
    rw [endZ, hl, show 2 * (Y.length + 1) - 1 = 2 * Y.length + 1 by omega, show 2 * (Y.length + 1) - 2 = 2 * Y.length by omega, hg.1, hg.2]
    by_cases h1 : x / 256 % 256 = 0
    · have h2 : x % 256 ≠ 0 := by omega
      have : decide (UInt8.ofNat (x % 256) = 0) = false := by
        rw [decide_eq_false_iff_not]
        intro e
        have := congrArg UInt8.toNat e
        simp at this
        omega
      rw [this, Bool.and_false]
    · have : decide (UInt8.ofNat (x / 256 % 256) = 0) = false := by
        rw [decide_eq_false_iff_not]
        intro e
        have := congrArg UInt8.toNat e
        simp at this
        omega
      rw [this, Bool.and_false, Bool.false_and]
theorem lay_part {S : List Nat} (hS : Good S) (i : Nat) (hi : i < 9) : layIs (i : Int) (partB S i) = true ∧ laidL i (partB S i) = partL S i := by
  have e : partB S i = bytes2 (trimZ (partL S i)) := by rw [partB, if_pos (by omega)]; rfl
  have hm : ∀ x ∈ trimZ (partL S i), x < 65536 := fun x hx => part_mem hS i x (trimZ_mem hx)
  have hle := trimZ_le (partL S i)
  rw [part_len hS i hi] at hle
  have hl := bytes2_len (trimZ (partL S i))
  constructor
  · rw [e, layIs, Int.toNat_natCast, hl, endZ_bytes2 _ hm (trimZ_last _ _ rfl), decide_eq_true (by omega : (0 : Int) ≤ i), decide_eq_true (by omega : (i : Int) < 9), decide_eq_true (by omega : 2 * (trimZ (partL S i)).length % 2 = 0), decide_eq_true (by omega : 2 * (trimZ (partL S i)).length ≤ 2 * partN i)]
    rfl
  · rw [e, laidL, words_bytes2 _ hm, hl, show 2 * (trimZ (partL S i)).length / 2 = (trimZ (partL S i)).length by omega]
    have := trimZ_fill (partL S i)
    rw [part_len hS i hi] at this
    exact this.symm
theorem ext_getD {S T : List Nat} (hl : S.length = T.length) (h : ∀ j, S.getD j 0 = T.getD j 0) : S = T := by
  apply List.ext_getElem hl
  intro j h1 h2
  have := h j
  rw [List.getD_eq_getElem?_getD, List.getD_eq_getElem?_getD, List.getElem?_eq_getElem h1, List.getElem?_eq_getElem h2] at this
  exact this
theorem splice_getD (S T : List Nat) (p j : Nat) (hp : p + T.length ≤ S.length) : (splice S p T).getD j 0 = if p ≤ j ∧ j < p + T.length then T.getD (j - p) 0 else S.getD j 0 := by
  unfold splice
  have h1 : (S.take p).length = p := by rw [List.length_take]; omega
  rw [List.getD_eq_getElem?_getD]
  by_cases hj : j < p
  · rw [if_neg (by omega), List.getElem?_append_left (by omega), List.getElem?_take_of_lt hj, ← List.getD_eq_getElem?_getD]
  · rw [List.getElem?_append_right (by omega), h1]
    by_cases hj2 : j < p + T.length
    · rw [if_pos ⟨by omega, hj2⟩, List.getElem?_append_left (by omega), ← List.getD_eq_getElem?_getD]
    · rw [if_neg (by omega), List.getElem?_append_right (by omega), List.getElem?_drop, ← List.getD_eq_getElem?_getD, show p + T.length + (j - p - T.length) = j by omega]
/-- the parts from i on are laid -/
def mixS (S : List Nat) (i : Nat) : List Nat := (List.replicate 1024 0).take (124 * i) ++ S.drop (124 * i)
theorem mix_len {S : List Nat} (hS : Good S) (i : Nat) : (mixS S i).length = 1024 := by
  rw [mixS, List.length_append, List.length_take, List.length_drop, List.length_replicate, hS.1]; omega
theorem mix_getD {S : List Nat} (hS : Good S) (i j : Nat) : (mixS S i).getD j 0 = if j < 124 * i then 0 else S.getD j 0 := by
  unfold mixS
  have h0 := hS.1
  rw [List.getD_eq_getElem?_getD]
  by_cases hj : j < 124 * i
  · rw [if_pos hj]
    by_cases hj2 : j < 1024
    · rw [List.getElem?_append_left (by rw [List.length_take, List.length_replicate]; omega), List.getElem?_take_of_lt hj, List.getElem?_replicate, if_pos hj2]; rfl
    · rw [List.getElem?_eq_none (by rw [List.length_append, List.length_take, List.length_drop, List.length_replicate, h0]; omega)]; rfl
  · rw [if_neg hj]
    by_cases hi : 124 * i ≤ 1024
    · rw [List.getElem?_append_right (by rw [List.length_take, List.length_replicate]; omega), List.length_take, List.length_replicate, Nat.min_eq_left hi, List.getElem?_drop, ← List.getD_eq_getElem?_getD, show 124 * i + (j - 124 * i) = j by omega]
    · rw [List.getElem?_eq_none (by rw [List.length_append, List.length_take, List.length_drop, List.length_replicate, h0]; omega), List.getD_eq_getElem?_getD, List.getElem?_eq_none (by omega)]
theorem mix_nine {S : List Nat} (hS : Good S) : mixS S 9 = List.replicate 1024 0 := by
  apply ext_getD
  · rw [mix_len hS, List.length_replicate]
  · intro j
    rw [mix_getD hS, List.getD_eq_getElem?_getD (l := List.replicate 1024 0), List.getElem?_replicate]
    split
    · split <;> rfl
    · rw [List.getD_eq_getElem?_getD, List.getElem?_eq_none (by rw [hS.1]; omega), if_neg (by omega)]
theorem mix_zero (S : List Nat) : mixS S 0 = S := by simp [mixS]
theorem mix_step {S : List Nat} (hS : Good S) (i : Nat) (hi : i < 9) : layS (mixS S (i + 1)) (i : Int) (partB S i) = mixS S i := by
  obtain ⟨h1, h2⟩ := lay_part hS i hi
  rw [layS, h1, if_pos rfl, Int.toNat_natCast, h2]
  have hp := part_len hS i hi
  have he := part_end i hi
  have hpn : partN i = 124 ∨ (i = 8 ∧ partN i = 32) := by unfold partN; split <;> omega
  apply ext_getD
  · rw [length_splice _ _ _ (by rw [mix_len hS, hp]; omega), mix_len hS, mix_len hS]
  · intro j
    rw [splice_getD _ _ _ _ (by rw [mix_len hS, hp]; omega), hp, mix_getD hS, mix_getD hS]
    by_cases hj : 124 * i ≤ j ∧ j < 124 * i + partN i
    · rw [if_pos hj, if_neg (by omega)]
      have : j - 124 * i < 124 := by have := (partN_le i).2; omega
      rw [partL, List.getD_eq_getElem?_getD, List.getElem?_take_of_lt this, List.getElem?_drop, ← List.getD_eq_getElem?_getD, show 124 * i + (j - 124 * i) = j by omega]
    · rw [if_neg hj]
      by_cases h3 : j < 124 * i
      · rw [if_pos (by omega), if_pos h3]
      · rw [if_neg h3]
        split
        · rw [List.getD_eq_getElem?_getD, List.getElem?_eq_none (by rw [hS.1]; omega)]; rfl
        · rfl
theorem sel_none (P : Nat → Bool) (n : Nat) (h : ∀ j, j < n → P j = false) : sel P n = [] := by
  induction n with
  | zero => rfl
  | succ n ih => rw [sel_succ, ih (fun j hj => h j (by omega)), h n (by omega)]; rfl
theorem sel_one (P : Nat → Bool) (n i : Nat) (hi : i < n) (h : ∀ j, j < n → j ≠ i → P j = false) : sel P n = if P i then [(i : Int)] else [] := by
  induction n with
  | zero => omega
  | succ n ih =>
    rw [sel_succ]
    by_cases e : i = n
    · subst e
      rw [sel_none P i fun j hj => h j (by omega) (by omega)]; rfl
    · rw [ih (by omega) fun j hj => h j (by omega), h n (by omega) (fun h => e h.symm)]; simp
theorem turned_self (S : List Nat) : turnedL S S = [] := sel_none _ _ fun j _ => by simp [otherP]
theorem lay_other {S : List Nat} (hS : Good S) (i : Nat) (l : List UInt8) (h : layIs (i : Int) l = true) (j : Nat) (hj : j < 9) (hji : j ≠ i) : otherP S (layS S i l) j = false := by
  have hT := good_lay hS (i : Int) l
  have e : layS S (i : Int) l = splice S (124 * i) (laidL i l) := by rw [layS, h, if_pos rfl, Int.toNat_natCast]
  simp only [layIs, Bool.and_eq_true, decide_eq_true_eq, Int.toNat_natCast] at h
  have hl := laid_len i l h.1.2
  have he := part_end i (by omega)
  have hp := (partN_le i).2
  rw [otherP, decide_eq_true]
  · rfl
  · rw [part_ext hS hT j hj, e]
    intro x hx
    rw [splice_getD _ _ _ _ (by rw [hS.1, hl]; omega), hl, if_neg (by omega)]
theorem lay_turned {S : List Nat} (hS : Good S) (i : Nat) (l : List UInt8) (h : layIs (i : Int) l = true) : turnedL S (layS S i l) = [] ∨ turnedL S (layS S i l) = [(i : Int)] := by
  have hi : i < 9 := by
    simp only [layIs, Bool.and_eq_true, decide_eq_true_eq] at h
    omega
  have := sel_one (otherP S (layS S i l)) 9 i hi (lay_other hS i l h)
  unfold turnedL
  rw [this]
  split
  · exact .inr rfl
  · exact .inl rfl
theorem trimZ_zeros (l : List Nat) (n : Nat) : trimZ (l ++ List.replicate n 0) = trimZ l := by
  induction n with
  | zero => simp
  | succ n ih => rw [List.replicate_succ', ← List.append_assoc, trimZ_zero, ih]
theorem lay_told {S : List Nat} (hS : Good S) (i : Nat) (l : List UInt8) (h : layIs (i : Int) l = true) : partB (layS S i l) (i : Int) = l := by
  have h9 := h
  have e : layS S (i : Int) l = splice S (124 * i) (laidL i l) := by rw [layS, h, if_pos rfl, Int.toNat_natCast]
  simp only [layIs, Bool.and_eq_true, decide_eq_true_eq, Int.toNat_natCast, Bool.not_eq_true'] at h
  obtain ⟨⟨⟨⟨h1, h2⟩, h3⟩, h4⟩, h5⟩ := h
  have hl := laid_len i l h4
  have hi : i < 9 := by omega
  have he := part_end i hi
  have hp := (partN_le i).2
  have hpart : partL (layS S (i : Int) l) i = laidL i l := by
    apply ext_getD
    · rw [part_len (good_lay hS _ _) i hi, hl]
    · intro j
      by_cases hj : j < partN i
      · rw [partL, List.getD_eq_getElem?_getD, List.getElem?_take_of_lt (by omega), List.getElem?_drop, ← List.getD_eq_getElem?_getD, e, splice_getD _ _ _ _ (by rw [hS.1, hl]; omega), hl, if_pos (by omega), show 124 * i + j - 124 * i = j by omega]
      · rw [List.getD_eq_getElem?_getD, List.getElem?_eq_none (by rw [part_len (good_lay hS _ _) i hi]; omega), List.getD_eq_getElem?_getD, List.getElem?_eq_none (by omega)]
  rw [partB, if_pos (by omega), Int.toNat_natCast, hpart, laidL, trimZ_zeros]
  have hw : trimZ (wordsL l) = wordsL l := by
    by_cases h0 : l.length = 0
    · have : l = [] := List.eq_nil_of_length_eq_zero h0
      subst this; rfl
    · have hwl := words_len l
      obtain ⟨k, hk⟩ : ∃ k, l.length = 2 * k + 2 := ⟨l.length / 2 - 1, by omega⟩
      have hwk : (wordsL l).length = k + 1 := by omega
      have hlast := words_get l k (by omega)
      have htk := nats_snoc (wordsL l) k (by omega)
      rw [List.take_of_length_le (by omega)] at htk
      rw [htk]
      refine trimZ_snoc _ _ ?_
      rw [hlast]
      intro hz
      rw [endZ, hk, show 2 * k + 2 - 1 = 2 * k + 1 by omega, show 2 * k + 2 - 2 = 2 * k by omega] at h5
      have z1 : l.getD (2 * k + 1) 0 = 0 := UInt8.toNat_inj.1 (by have : (l.getD (2 * k + 1) 0).toNat = 0 := by omega
                                                                  rw [this]; rfl)
      have z2 : l.getD (2 * k) 0 = 0 := UInt8.toNat_inj.1 (by have : (l.getD (2 * k) 0).toNat = 0 := by omega
                                                              rw [this]; rfl)
      rw [z1, z2] at h5
      simp at h5
  rw [hw, bytes2_words l h3]
end Go.Proofs.Ytljbpflcnicaiaa
