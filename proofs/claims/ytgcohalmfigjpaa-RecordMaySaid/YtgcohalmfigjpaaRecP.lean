/-
  What an object's bytes say, in plain Lean.
-/
import Derived.Test.YtgcohalmfigjpaaRecK
import Derived.Test.YtgcohalmfigjpaaRecE
namespace Go.Proofs.Ytgcohalmfigjpaa
open Go.RowKit
set_option linter.unusedVariables false
set_option linter.unusedSimpArgs false

theorem digs_cons (x k : Nat) : digs x (k + 1) = UInt8.ofNat (x % 256) :: digs (x / 256) k := by
  simp only [digs, List.range_succ_eq_map, List.map_cons, List.map_map, Nat.pow_zero, Nat.div_one]
  congr 1
  apply List.map_congr_left
  intro i _
  simp only [Function.comp, Nat.pow_succ]
  rw [Nat.div_div_eq_div_mul, Nat.mul_comm]
theorem digs_leN : ∀ l : List UInt8, digs (leN l) l.length = l
  | [] => rfl
  | b :: r => by
    have hb := b.toNat_lt
    rw [List.length_cons, digs_cons, leN, show (b.toNat + 256 * leN r) % 256 = b.toNat by omega, show (b.toNat + 256 * leN r) / 256 = leN r by omega, digs_leN r]
    simp
theorem leNd (k : Nat) : ∀ x : Nat, leN (digs x k) = x % 256 ^ k := by
  induction k with
  | zero => intro x; simp [digs, leN, Nat.mod_one]
  | succ k ih =>
    intro x
    rw [digs_cons, leN, ih, Nat.pow_succ, Nat.mul_comm (256 ^ k), Nat.mod_mul]
    simp
theorem getN_at (b : List UInt8) (p k : Nat) (hk : saysB k = true) (h : p + k ≤ b.length) : getN b p k = leN ((b.drop p).take k) := by
  have hc : cutIs b p k = true := by
    simp only [cutIs, Bool.and_eq_true, decide_eq_true_eq]
    omega
  rw [getN, getIs, hc, hk]
  simp [cutL, hc]
theorem u64_i64 (x : Nat) (h : x < 18446744073709551616) : u64N (i64W x) = x := by
  unfold u64N i64W wrap64
  omega
theorem i64_u64 (z : Int) (h : -9223372036854775808 ≤ z) (h2 : z < 9223372036854775808) : i64W (u64N z) = z := by
  unfold u64N i64W wrap64
  omega
theorem word_back (q : List UInt8) (h : q.length = 9) : wordL (wordR q) = q := by
  cases q with
  | nil => cases h
  | cons x r =>
    have hr : r.length = 8 := by simpa using h
    have hg : getN (x :: r) 1 8 = leN r := by
      have := getN_at (x :: r) 1 8 rfl (by simp; omega)
      rw [List.drop_succ_cons, List.drop_zero, List.take_of_length_le (by omega)] at this
      exact this
    have hlt := leN_lt r
    rw [hr] at hlt
    rw [wordR, wordL, hg, u64_i64 _ (by omega), List.getD_cons_zero]
    have := digs_leN r
    rw [hr] at this
    rw [this]
theorem piece_len (r : List UInt8) (k : Nat) (h : 9 * k + 9 ≤ r.length) : (piece r k).length = 9 := by
  rw [piece, List.length_take, List.length_drop]; omega
theorem words_back (r : List UInt8) (k : Nat) (h : 9 * k ≤ r.length) : wordsL (wordsR r k) = r.take (9 * k) := by
  induction k with
  | zero => rfl
  | succ k ih =>
    rw [wordsR_succ, wordsL, List.flatMap_append, ← wordsL, ih (by omega), show 9 * (k + 1) = 9 * k + 9 by omega, List.take_add]
    simp only [List.flatMap_cons, List.flatMap_nil, List.append_nil]
    rw [word_back _ (piece_len r k (by omega))]
    rfl
theorem word_fwd (x : UInt8 × Int) (h : -9223372036854775808 ≤ x.2) (h2 : x.2 < 9223372036854775808) : wordR (wordL x) = x := by
  obtain ⟨a, z⟩ := x
  have hg : getN (wordL (a, z)) 1 8 = u64N z := by
    have := getN_at (wordL (a, z)) 1 8 rfl (by simp [wordL, digs_length])
    rw [wordL, List.drop_succ_cons, List.drop_zero, List.take_of_length_le (by rw [digs_length]; exact Nat.le_refl _), leNd, Nat.mod_eq_of_lt (u64N_lt z)] at this
    exact this
  rw [wordR, hg, i64_u64 z h h2, wordL]
  rfl
theorem wordL_len (x : UInt8 × Int) : (wordL x).length = 9 := by simp [wordL, digs_length]
theorem words_fwd : ∀ (l : List (UInt8 × Int)) (t : List UInt8), (∀ x ∈ l, -9223372036854775808 ≤ x.2 ∧ x.2 < 9223372036854775808) → wordsR (wordsL l ++ t) l.length = l
  | [], t, _ => rfl
  | x :: l, t, h => by
    have hx := h x (List.mem_cons_self ..)
    have ih := words_fwd l t (fun y hy => h y (List.mem_cons_of_mem _ hy))
    rw [List.length_cons, wordsR, List.range_succ_eq_map, List.map_cons, List.map_map]
    have e : wordsL (x :: l) ++ t = wordL x ++ (wordsL l ++ t) := by simp [wordsL]
    rw [e]
    refine List.cons_eq_cons.2 ⟨?_, ?_⟩
    · rw [piece, Nat.mul_zero, List.drop_zero, List.take_append_of_le_length (by rw [wordL_len]; exact Nat.le_refl _), List.take_of_length_le (by rw [wordL_len]; exact Nat.le_refl _)]
      exact word_fwd x hx.1 hx.2
    · conv => rhs; rw [← ih]
      rw [wordsR]
      apply List.map_congr_left
      intro i _
      show wordR (piece (wordL x ++ (wordsL l ++ t)) (i + 1)) = _
      rw [piece, show 9 * (i + 1) = (wordL x).length + 9 * i by rw [wordL_len]; omega, List.drop_append, piece, List.drop_of_length_le (by omega), List.nil_append, Nat.add_sub_cancel_left]

/-! ### the head -/
theorem head_say (b : List UInt8) (h : 5 ≤ b.length) : b = headL (rdK b) (rdT b) (getN b 3 2) ++ b.drop 5 := by
  have h1 := getN_at b 1 2 rfl (by omega)
  have h3 := getN_at b 3 2 rfl (by omega)
  have l1 : ((b.drop 1).take 2).length = 2 := by rw [List.length_take, List.length_drop]; omega
  have l3 : ((b.drop 3).take 2).length = 2 := by rw [List.length_take, List.length_drop]; omega
  have d1 := digs_leN ((b.drop 1).take 2)
  have d3 := digs_leN ((b.drop 3).take 2)
  have t1 := leN_lt ((b.drop 1).take 2)
  rw [l1] at d1 t1
  rw [l3] at d3
  have e1 : u64N (rdT b) = leN ((b.drop 1).take 2) := by
    rw [rdT, show (1 : Int) = ((1 : Nat) : Int) from rfl, show (2 : Int) = ((2 : Nat) : Int) from rfl, h1]
    unfold u64N
    omega
  have e3 : getN b 3 2 = leN ((b.drop 3).take 2) := h3
  rw [headL, e1, e3, d1, d3]
  have p0 : b = b.take 1 ++ b.drop 1 := (List.take_append_drop 1 b).symm
  have p1 : b.drop 1 = (b.drop 1).take 2 ++ b.drop 3 := by rw [← List.drop_drop (i := 2) (j := 1), List.take_append_drop]
  have p3 : b.drop 3 = (b.drop 3).take 2 ++ b.drop 5 := by rw [← List.drop_drop (i := 2) (j := 3), List.take_append_drop]
  have p : b.take 1 = [rdK b] := by
    cases b with
    | nil => simp at h
    | cons x r => rfl
  conv => lhs; rw [p0, p, p1, p3]
  simp
theorem headL_len (K : UInt8) (t : Int) (n : Nat) : (headL K t n).length = 5 := by simp [headL, digs_length]
theorem headL_inj {K : UInt8} {t : Int} {n m : Nat} (hn : n < 65536) (hm : m < 65536) (h : headL K t n = headL K t m) : n = m := by
  have h1 := List.append_cancel_left (h : (K :: digs (u64N t) 2) ++ digs n 2 = (K :: digs (u64N t) 2) ++ digs m 2)
  have h2 := congrArg leN h1
  rw [leNd, leNd, Nat.mod_eq_of_lt (by omega), Nat.mod_eq_of_lt (by omega)] at h2
  exact h2
/-- what the lenient reader reads -/
def rdL0 (b : List UInt8) : List (UInt8 × Int) := if rdK b = 5 then [] else wordsR (b.drop 5) ((b.drop 5).length / 9)
theorem rd_len0 (b : List UInt8) (h : 5 ≤ b.length) : (wordsL (rdL0 b) ++ rdS b).length + 5 ≤ b.length := by
  unfold rdL0 rdS
  by_cases hk : rdK b = 5
  · rw [if_pos hk, if_pos hk]; simp [wordsL]; omega
  · rw [if_neg hk, if_neg hk, List.length_append, wordsL_len, wordsR_len]; simp; omega
/-- it holds, if it is written so -/
theorem rd_law (b : List UInt8) (h : 5 ≤ b.length) (h2 : b.length ≤ 8192) : rdOk b = (decide (wrE (rdK b) (rdT b) (rdL0 b) (rdS b) = 0) && decide (wrQ (rdK b) (rdT b) (rdL0 b) (rdS b) = b)) ∧ (rdOk b = true → rdL b = rdL0 b) := by
  have hb := head_say b h
  have hlen0 := rd_len0 b h
  have hsmall : ¬ 8192 < 5 + 9 * (rdL0 b).length + (rdS b).length := by
    rw [List.length_append, wordsL_len] at hlen0; omega
  have hN := getN_lt2 b 3
  by_cases hw : wordsL (rdL0 b) ++ rdS b = b.drop 5
  · have hl : rdL b = rdL0 b ∧ (decide (rdK b = 5) || decide ((b.drop 5).length % 9 = 0)) = true := by
      unfold rdL rdL0
      by_cases hk : rdK b = 5
      · rw [if_pos hk, if_pos hk]; simp [hk]
      · rw [if_neg hk, if_neg hk]
        rw [rdL0, rdS, if_neg hk, if_neg hk, List.append_nil] at hw
        have hl := congrArg List.length hw
        rw [wordsL_len, wordsR_len] at hl
        have e : ((b.drop 5).length + 8) / 9 = (b.drop 5).length / 9 := by omega
        rw [e]
        refine ⟨rfl, ?_⟩
        rw [Bool.or_eq_true, decide_eq_true_eq, decide_eq_true_eq]
        right; omega
    refine ⟨?_, fun _ => hl.1⟩
    rw [rdOk, decide_eq_true (⟨h, h2⟩ : 5 ≤ b.length ∧ b.length ≤ 8192), hl.1, hl.2]
    have hE : wrE (rdK b) (rdT b) (rdL0 b) (rdS b) = if mayO (rdK b) (rdT b) (rdL0 b) (rdS b) = false then 1 else 0 := by
      rw [wrE]
      split
      · rfl
      · first | rfl | rw [if_neg hsmall]
    cases hm : mayO (rdK b) (rdT b) (rdL0 b) (rdS b) with
    | false => rw [hm] at hE; simp [hE]
    | true =>
      rw [hm] at hE
      have hE0 : wrE (rdK b) (rdT b) (rdL0 b) (rdS b) = 0 := by rw [hE]; rfl
      rw [wrQ, if_pos hE0, hE0, writeL, List.append_assoc, hw]
      have : (headL (rdK b) (rdT b) ((rdL0 b).length + (rdS b).length) ++ List.drop 5 b = b) ↔ getN b 3 2 = (rdL0 b).length + (rdS b).length := by
        constructor
        · intro he
          conv at he => rhs; rw [hb]
          exact (headL_inj (by rw [List.length_append, wordsL_len] at hlen0; omega) hN (List.append_cancel_right he)).symm
        · intro he
          rw [← he]; exact hb.symm
      simp [this]
  · have hno : rdOk b = false := by
      by_cases hk : rdK b = 5
      · rw [rdL0, rdS, if_pos hk, if_pos hk] at hw
        exact absurd rfl hw
      · have h9 : ¬ (b.drop 5).length % 9 = 0 := by
          intro h9
          apply hw
          rw [rdL0, rdS, if_neg hk, if_neg hk, List.append_nil, words_back _ _ (by omega), List.take_of_length_le (by omega)]
        rw [rdOk, decide_eq_false hk, decide_eq_false h9]; simp
    refine ⟨?_, fun h => by rw [hno] at h; cases h⟩
    rw [hno]
    symm
    rw [Bool.and_eq_false_iff]
    by_cases hE0 : wrE (rdK b) (rdT b) (rdL0 b) (rdS b) = 0
    · right
      rw [decide_eq_false_iff_not, wrQ, if_pos hE0, writeL, List.append_assoc]
      intro he
      apply hw
      have h5 := congrArg (List.drop 5) he
      rw [List.drop_append_of_le_length (by rw [headL_len]; exact Nat.le_refl _), List.drop_of_length_le (by rw [headL_len]; exact Nat.le_refl _), List.nil_append] at h5
      exact h5
    · left; exact decide_eq_false hE0
/-- what is read is written so -/
theorem rd_write (b : List UInt8) (hok : rdOk b = true) : wrE (rdK b) (rdT b) (rdL b) (rdS b) = 0 ∧ wrQ (rdK b) (rdT b) (rdL b) (rdS b) = b := by
  have h : 5 ≤ b.length ∧ b.length ≤ 8192 := by
    rw [rdOk, Bool.and_eq_true, decide_eq_true_eq] at hok
    exact hok.1
  obtain ⟨h1, h2⟩ := rd_law b h.1 h.2
  rw [h2 hok]
  rw [hok] at h1
  have h1 := h1.symm
  rw [Bool.and_eq_true, decide_eq_true_eq, decide_eq_true_eq] at h1
  exact h1
/-- how long it is, by its head -/
theorem rd_size (b : List UInt8) (hok : rdOk b = true) : b.length = if rdK b = 5 then 5 + getN b 3 2 else 5 + 9 * getN b 3 2 := by
  obtain ⟨h1, h2⟩ := rd_write b hok
  have h3 := congrArg List.length h2
  rw [wrQ, if_pos h1, writeL_len] at h3
  have h4 : getN b 3 2 = (rdL b).length + (rdS b).length := by
    rw [rdOk] at hok
    simp only [Bool.and_eq_true, decide_eq_true_eq] at hok
    exact hok.2.1.1
  by_cases hk : rdK b = 5
  · rw [if_pos hk, h4]
    have : (rdL b).length = 0 := by rw [rdL, if_pos hk]; rfl
    omega
  · rw [if_neg hk, h4]
    have : (rdS b).length = 0 := by rw [rdS, if_neg hk]; rfl
    omega
theorem may_parts {K : UInt8} {t : Int} {l : List (UInt8 × Int)} {S : List UInt8} (h : mayO K t l S = true) : (0 ≤ t ∧ t < 65536) ∧ (∀ x ∈ l, -9223372036854775808 ≤ x.2 ∧ x.2 < 9223372036854775808) ∧ (K = 5 → l = []) ∧ (K ≠ 5 → S = []) := by
  rw [mayO, mayN_cnt] at h
  simp only [Bool.and_eq_true, Bool.not_eq_true', Bool.or_eq_true, decide_eq_true_eq] at h
  obtain ⟨⟨⟨hc, hw⟩, hs⟩, ht⟩ := h
  refine ⟨?_, fun x hx => ?_, fun hk => ?_, fun hk => ?_⟩
  · split at ht
    · simpa using ht
    · have : t = 0 := by simpa using ht
      omega
  · have : wrongB x = false := by
      rw [List.any_eq_false] at hw
      simpa using hw x hx
    unfold wrongB wrongN at this
    split at this
    · simp at this; omega
    · split at this
      · simp at this; omega
      · cases this
  · subst hk
    simp [cntOk] at hc
    exact hc
  · rcases hs with hs | hs
    · exact absurd (by rw [← UInt8.toNat_inj, hs]; rfl) hk
    · exact hs
/-- what was written is read -/
theorem wr_read (K : UInt8) (t : Int) (l : List (UInt8 × Int)) (S : List UInt8) (hE : wrE K t l S = 0) : rdOk (writeL K t l S) = true ∧ rdK (writeL K t l S) = K ∧ rdT (writeL K t l S) = t ∧ rdL (writeL K t l S) = l ∧ rdS (writeL K t l S) = S := by
  have hm : mayO K t l S = true := by
    cases h : mayO K t l S with
    | true => rfl
    | false => rw [wrE, if_pos h] at hE; cases hE
  have hs : ¬ 8192 < 5 + 9 * l.length + S.length := by
    intro h
    rw [wrE, if_neg (by rw [hm]; decide), if_pos h] at hE
    cases hE
  obtain ⟨m1, m2, m3, m4⟩ := may_parts hm
  have hK : rdK (writeL K t l S) = K := rfl
  have hlen := writeL_len K t l S
  have hd5 : (writeL K t l S).drop 5 = wordsL l ++ S := by
    rw [writeL, List.append_assoc, List.drop_append_of_le_length (by rw [headL_len]; exact Nat.le_refl _), List.drop_of_length_le (by rw [headL_len]; exact Nat.le_refl _), List.nil_append]
  have hb := head_say (writeL K t l S) (by omega)
  have hT : rdT (writeL K t l S) = t := by
    have h1 := getN_at (writeL K t l S) 1 2 rfl (by omega)
    have e : ((writeL K t l S).drop 1).take 2 = digs (u64N t) 2 := by
      rw [writeL, headL]
      simp only [List.cons_append, List.drop_succ_cons, List.drop_zero, List.append_assoc]
      rw [List.take_append_of_le_length (by rw [digs_length]; exact Nat.le_refl _), List.take_of_length_le (by rw [digs_length]; exact Nat.le_refl _)]
    rw [e, leNd] at h1
    rw [rdT, show (1 : Int) = ((1 : Nat) : Int) from rfl, show (2 : Int) = ((2 : Nat) : Int) from rfl, h1]
    unfold u64N
    omega
  have hN : getN (writeL K t l S) 3 2 = l.length + S.length := by
    have h1 := getN_at (writeL K t l S) 3 2 rfl (by omega)
    have e : ((writeL K t l S).drop 3).take 2 = digs (l.length + S.length) 2 := by
      have e3 : writeL K t l S = (K :: digs (u64N t) 2) ++ (digs (l.length + S.length) 2 ++ (wordsL l ++ S)) := by rw [writeL, headL]; simp
      rw [e3, List.drop_append_of_le_length (by simp [digs_length]), List.drop_of_length_le (by simp [digs_length]), List.nil_append, List.take_append_of_le_length (by rw [digs_length]; exact Nat.le_refl _), List.take_of_length_le (by rw [digs_length]; exact Nat.le_refl _)]
    rw [e, leNd, Nat.mod_eq_of_lt (by omega)] at h1
    exact h1
  have hLS : rdL (writeL K t l S) = l ∧ rdS (writeL K t l S) = S ∧ (decide (rdK (writeL K t l S) = 5) || decide (((writeL K t l S).drop 5).length % 9 = 0)) = true := by
    rw [rdL, rdS, hd5, hK]
    by_cases hk : K = 5
    · rw [if_pos hk, if_pos hk, m3 hk]; simp [wordsL, hk]
    · rw [if_neg hk, if_neg hk, m4 hk]
      have hl := words_fwd l [] m2
      rw [List.append_nil] at hl ⊢
      rw [wordsL_len, show (9 * l.length + 8) / 9 = l.length by omega, hl]
      simp
  refine ⟨?_, hK, hT, hLS.1, hLS.2.1⟩
  rw [rdOk, hLS.2.2, hLS.1, hLS.2.1, hK, hT, hN, hm, decide_eq_true (by omega : 5 ≤ (writeL K t l S).length ∧ (writeL K t l S).length ≤ 8192)]
  simp
/-- cut, or longer: none -/
theorem wr_other (K : UInt8) (t : Int) (l : List (UInt8 × Int)) (S : List UInt8) (hE : wrE K t l S = 0) (b : List UInt8) (hb : b.take 5 = (writeL K t l S).take 5) (hn : b.length ≠ (writeL K t l S).length) : rdOk b = false := by
  cases h : rdOk b with
  | false => rfl
  | true =>
    exfalso
    apply hn
    have h5 : 5 ≤ b.length := by
      rw [rdOk, Bool.and_eq_true, decide_eq_true_eq] at h
      exact h.1.1
    have hw := (wr_read K t l S hE).1
    have hw5 : 5 ≤ (writeL K t l S).length := by rw [writeL_len]; omega
    rw [rd_size b h, rd_size _ hw]
    have e : ∀ c : List UInt8, 5 ≤ c.length → rdK c = rdK (c.take 5) ∧ getN c 3 2 = getN (c.take 5) 3 2 := by
      intro c hc
      have h1 := getN_at c 3 2 rfl (by omega)
      have h2 := getN_at (c.take 5) 3 2 rfl (by rw [List.length_take]; omega)
      refine ⟨?_, ?_⟩
      · cases c with
        | nil => simp at hc
        | cons x r => rfl
      · rw [List.drop_take, List.take_take] at h2
        exact h1.trans h2.symm
    rw [(e b h5).1, (e b h5).2, (e _ hw5).1, (e _ hw5).2, hb]
end Go.Proofs.Ytgcohalmfigjpaa
