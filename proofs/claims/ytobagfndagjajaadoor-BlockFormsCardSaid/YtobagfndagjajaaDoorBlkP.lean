/-
  What a block's bytes say, in plain Lean.
-/
import Derived.Test.YtobagfndagjajaaDoorBlkD
namespace Go.Proofs.YtobagfndagjajaaDoor
open Go.RowKit
set_option linter.unusedVariables false
set_option linter.unusedSimpArgs false

theorem digs_cons (x k : Nat) : digs x (k + 1) = UInt8.ofNat (x % 256) :: digs (x / 256) k := by
  simp only [digs, List.range_succ_eq_map, List.map_cons, List.map_map, Nat.pow_zero, Nat.div_one]
  congr 1
  apply List.map_congr_left
  intro i _
  simp only [Function.comp, Nat.pow_succ]
  rw [Nat.div_div_eq_div_mul, Nat.mul_comm]
theorem digs_leN : ∀ l : List UInt8, digs (leN l) l.length = l
  | [] => rfl
  | b :: r => by
    have hb := b.toNat_lt
    rw [List.length_cons, digs_cons, leN, show (b.toNat + 256 * leN r) % 256 = b.toNat by omega, show (b.toNat + 256 * leN r) / 256 = leN r by omega, digs_leN r]
    simp
theorem leNd (k : Nat) : ∀ x : Nat, leN (digs x k) = x % 256 ^ k := by
  induction k with
  | zero => intro x; simp [digs, leN, Nat.mod_one]
  | succ k ih =>
    intro x
    rw [digs_cons, leN, ih, Nat.pow_succ, Nat.mul_comm (256 ^ k), Nat.mod_mul]
    simp
theorem trim_zeros : ∀ l : List UInt8, (trimL l).length = 0 ↔ l = List.replicate l.length 0
  | [] => by simp [trimL]
  | x :: r => by
    have ih := trim_zeros r
    rw [trimL, List.dropWhile_cons]
    by_cases hx : x = 0
    · rw [if_pos (by simpa using hx), ← trimL, ih, List.length_cons, List.replicate_succ, hx]
      simp
    · rw [if_neg (by simpa using hx), List.length_cons, List.replicate_succ]
      simp [hx]
theorem opOk_parts {b : List UInt8} (h : opOk b = true) : b.length = 256 ∧ sumN (b.take 252) = getN b 252 4 ∧ opK b ≠ 0 ∧ opN b ≤ 248 ∧ b.getD 1 0 = 0 ∧ (b.take 252).drop (4 + opN b) = List.replicate (248 - opN b) 0 := by
  rw [opOk] at h
  simp only [Bool.and_eq_true, decide_eq_true_eq, Bool.not_eq_true', decide_eq_false_iff_not] at h
  obtain ⟨h1, h2, h3, h4, h5, h6⟩ := h
  refine ⟨h1, h2, h3, h4, h5, ?_⟩
  have := (trim_zeros _).1 h6
  rw [List.length_drop, List.length_take, h1] at this
  rw [this]
  congr 1
  omega
/-- what is opened is sealed so -/
theorem open_seal {b : List UInt8} (h : opOk b = true) : blkE (opK b) (opB b) = 0 ∧ blkL (opK b) (opB b) = b := by
  obtain ⟨h1, h2, h3, h4, h5, h6⟩ := opOk_parts h
  have hbl : (opB b).length = opN b := by rw [opB, List.length_take, List.length_drop, h1]; omega
  have hE : blkE (opK b) (opB b) = 0 := by rw [blkE, hbl, if_neg (by rintro (h | h); exact h3 h; omega)]
  refine ⟨hE, ?_⟩
  have hn : digs (opN b) 2 = (b.drop 2).take 2 := by
    have e := getN_at4 b 2 2 rfl (by omega)
    have e2 := digs_leN ((b.drop 2).take 2)
    rw [List.length_take, List.length_drop, h1] at e2
    rw [opN, show (2 : Int) = ((2 : Nat) : Int) from rfl, e]
    exact e2
  have hf : frontL (opK b) (opN b) = b.take 4 := by
    rw [frontL, hn]
    match b, h1, h5 with
    | x :: y :: z :: u :: r, _, h5 =>
      simp at h5
      simp [opK, h5]
  have hP : blkP (opK b) (opB b) = b.take 252 := by
    rw [blkP, hbl, hf, ← h6, opB]
    have e1 : b.take 252 = (b.take 252).take (4 + opN b) ++ (b.take 252).drop (4 + opN b) := (List.take_append_drop _ _).symm
    have e2 : (b.take 252).take (4 + opN b) = b.take 4 ++ (b.drop 4).take (opN b) := by
      rw [List.take_take, Nat.min_eq_left (by omega), List.take_add]
    conv => rhs; rw [e1, e2]
  have hs : digs (sumN (b.take 252)) 4 = b.drop 252 := by
    have e := getN_at4 b 252 4 rfl (by omega)
    have e2 := digs_leN ((b.drop 252).take 4)
    rw [List.take_of_length_le (by rw [List.length_drop]; omega)] at e e2
    rw [List.length_drop, h1] at e2
    rw [h2, show (252 : Int) = ((252 : Nat) : Int) from rfl, show (4 : Int) = ((4 : Nat) : Int) from rfl, e]
    exact e2
  rw [blkL, hP, hs, List.take_append_drop]
/-- what was sealed is opened -/
theorem seal_open (K : UInt8) (b : List UInt8) (hK : K ≠ 0) (h : b.length ≤ 248) : opOk (blkL K b) = true ∧ opK (blkL K b) = K ∧ opB (blkL K b) = b := by
  have hP := blkP_len K b h
  have hL := blkL_len K b h
  have hk : opK (blkL K b) = K := rfl
  have ht : (blkL K b).take 252 = blkP K b := by rw [blkL, List.take_append_of_le_length (by omega), List.take_of_length_le (by omega)]
  have hd : (blkL K b).drop 252 = digs (sumN (blkP K b)) 4 := by rw [blkL, List.drop_append_of_le_length (by omega), List.drop_of_length_le (by omega), List.nil_append]
  have hs : getN (blkL K b) 252 4 = sumN (blkP K b) := by
    have e := getN_at4 (blkL K b) 252 4 rfl (by omega)
    rw [hd, List.take_of_length_le (by rw [digs_length]; exact Nat.le_refl _), leNd, Nat.mod_eq_of_lt (by have := sumN_lt (blkP K b); omega)] at e
    exact e
  have hf : blkL K b = [K, 0] ++ (digs b.length 2 ++ (b ++ (List.replicate (248 - b.length) 0 ++ digs (sumN (blkP K b)) 4))) := by
    have hp : blkP K b = [K, 0] ++ (digs b.length 2 ++ (b ++ List.replicate (248 - b.length) 0)) := by rw [blkP, frontL]; simp
    rw [blkL]
    generalize sumN (blkP K b) = z
    rw [hp]
    simp
  have hn : opN (blkL K b) = b.length := by
    have e := getN_at4 (blkL K b) 2 2 rfl (by omega)
    have e2 : ((blkL K b).drop 2).take 2 = digs b.length 2 := by
      rw [hf, List.drop_append_of_le_length (by simp), List.drop_of_length_le (by simp), List.nil_append, List.take_append_of_le_length (by rw [digs_length]; exact Nat.le_refl _), List.take_of_length_le (by rw [digs_length]; exact Nat.le_refl _)]
    rw [e2, leNd, Nat.mod_eq_of_lt (by omega)] at e
    exact e
  have hB : opB (blkL K b) = b := by
    have e2 : (blkL K b).drop 4 = b ++ (List.replicate (248 - b.length) 0 ++ digs (sumN (blkP K b)) 4) := by
      have e3 : blkL K b = ([K, 0] ++ digs b.length 2) ++ (b ++ (List.replicate (248 - b.length) 0 ++ digs (sumN (blkP K b)) 4)) := by rw [hf]; simp
      rw [e3, List.drop_append_of_le_length (by simp [digs_length]), List.drop_of_length_le (by simp [digs_length]), List.nil_append]
    rw [opB, hn, e2, List.take_append_of_le_length (Nat.le_refl _), List.take_of_length_le (Nat.le_refl _)]
  have hz : (blkP K b).drop (4 + b.length) = List.replicate (248 - b.length) 0 := by
    rw [blkP, List.drop_append_of_le_length (by rw [List.length_append, frontL_len]; exact Nat.le_refl _), List.drop_of_length_le (by rw [List.length_append, frontL_len]; exact Nat.le_refl _), List.nil_append]
  refine ⟨?_, hk, hB⟩
  rw [opOk, decide_eq_true hL, ht, hs, hk, hn, hz, decide_eq_true h, decide_eq_false hK]
  have h1 : (blkL K b).getD 1 0 = 0 := by rw [hf]; rfl
  have h0 : (trimL (List.replicate (248 - b.length) 0)).length = 0 := (trim_zeros _).2 (by simp)
  rw [h1, h0]
  simp
/-- the document's way: it holds, if it is sealed so -/
theorem op_law (b : List UInt8) (hl : b.length = 256) : opOk b = (cutIs b 4 (opN b) && (decide (blkE (opK b) (opB b) = 0) && decide (blkQ (opK b) (opB b) = b))) := by
  cases h : opOk b with
  | true =>
    obtain ⟨e1, e2⟩ := open_seal h
    obtain ⟨h1, h2, h3, h4, h5, h6⟩ := opOk_parts h
    have hc : cutIs b 4 (opN b) = true := by
      simp only [cutIs, hl, Bool.and_eq_true, decide_eq_true_eq]
      omega
    rw [hc, blkQ, if_pos e1, e1, e2]
    simp
  | false =>
    symm
    cases hx : (cutIs b 4 (opN b) && (decide (blkE (opK b) (opB b) = 0) && decide (blkQ (opK b) (opB b) = b))) with
    | false => rfl
    | true =>
      exfalso
      simp only [Bool.and_eq_true, decide_eq_true_eq] at hx
      obtain ⟨h1, h2, h3⟩ := hx
      rw [blkQ, if_pos h2] at h3
      rw [blkE] at h2
      split at h2
      · cases h2
      · rename_i hn
        rw [← h3, (seal_open (opK b) (opB b) (fun e => hn (.inl e)) (by omega)).1] at h
        cases h
end Go.Proofs.YtobagfndagjajaaDoor
