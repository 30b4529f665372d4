/-
  Plain laws: the sum is the rest of the long division; what two turned bits, blank texts and one turned byte do. No program. Conditions: lengths below 65,536 bits where the period is used.
-/
import Derived.Test.YtobagfndagjajaaDoorCrcP2
import Derived.Test.YtobagfndagjajaaDoorCrcP3
namespace Go.Proofs.YtobagfndagjajaaDoor.Crc

/-! ### bit by bit -/
def b2n (b : Bool) : Nat := if b then 1 else 0
def feed (r : Nat) (bs : List Bool) : Nat := bs.foldl (fun r b => sh (r ^^^ b2n b)) r
def vbits : List Bool → Nat
  | [] => 0
  | b :: bs => b2n b ^^^ 2 * vbits bs
theorem feed_eq (bs : List Bool) : ∀ r, feed r bs = shN bs.length (r ^^^ vbits bs) := by
  induction bs with
  | nil => intro r; simp [feed, vbits, shN]
  | cons b bs ih =>
    intro r
    show feed (sh (r ^^^ b2n b)) bs = _
    rw [ih, List.length_cons, shN_add _ 1]
    congr 1
    show _ = sh (r ^^^ (b2n b ^^^ 2 * vbits bs))
    rw [← Nat.xor_assoc, sh_xor (r ^^^ b2n b), sh_two]
theorem b2n_lt (b : Bool) : b2n b < 2 := by cases b <;> decide
theorem tb_b2n (b : Bool) (i : Nat) : (b2n b).testBit i = (b && decide (i = 0)) := by
  cases b
  · simp [b2n]
  · simp only [b2n, if_true, Bool.true_and]
    cases i with
    | zero => rfl
    | succ i => rw [← tb_half]; simp
theorem tb_vbits (bs : List Bool) : ∀ i, (vbits bs).testBit i = bs.getD i false := by
  induction bs with
  | nil => intro i; simp [vbits]
  | cons b bs ih =>
    intro i
    rw [vbits, Nat.testBit_xor, tb_b2n]
    cases i with
    | zero => simp [Nat.testBit_zero]
    | succ i => rw [← tb_half (2 * vbits bs), show 2 * vbits bs / 2 = vbits bs by omega, ih]; simp
theorem vbits_byte (c : UInt8) : vbits (bitsB 8 c) = c.toNat := by
  apply Nat.eq_of_testBit_eq
  intro i
  rw [tb_vbits]
  by_cases h : i < 8
  · simp only [bitsB, List.getD_eq_getElem?_getD, List.getElem?_map, List.getElem?_range h, Option.map_some, Option.getD_some]
    rw [Nat.testBit_eq_decide_div_mod_eq]
    rw [Bool.eq_iff_iff]; simp
  · have hc := c.toNat_lt
    have : c.toNat.testBit i = false := Nat.testBit_lt_two_pow (Nat.lt_of_lt_of_le hc (Nat.pow_le_pow_right (n := 2) (by decide) (by omega : 8 ≤ i)))
    rw [this]
    simp [bitsB, h]
theorem feed_append (r : Nat) (a b : List Bool) : feed r (a ++ b) = feed (feed r a) b := by simp [feed]
theorem regs_feed (l : List UInt8) : ∀ r, regs r l = feed r (bitsOf l) := by
  induction l with
  | nil => intro r; rfl
  | cons c l ih =>
    intro r
    show regs (stepB r c) l = _
    rw [ih, show bitsOf (c :: l) = bitsB 8 c ++ bitsOf l from rfl, feed_append, feed_eq (bitsB 8 c), vbits_byte, bitsB_len, stepB_eq]
theorem feed_snoc (r : Nat) (bs : List Bool) (b : Bool) : feed r (bs ++ [b]) = sh (feed r bs ^^^ b2n b) := by simp [feed]
theorem feed_lt (r : Nat) (bs : List Bool) (h : r < 4294967296) : feed r bs < 4294967296 := by
  induction bs generalizing r with
  | nil => exact h
  | cons b bs ih => exact ih _ (sh_lt _ (Nat.xor_lt_two_pow (n := 32) h (by have := b2n_lt b; omega)))

/-! ### the long division -/
theorem getD_set (l : List Bool) (i j : Nat) (x : Bool) : (l.set i x).getD j false = if i = j ∧ i < l.length then x else l.getD j false := by
  rw [List.getD_eq_getElem?_getD, List.getElem?_set, List.getD_eq_getElem?_getD]
  by_cases h : i = j
  · subst h
    by_cases h2 : i < l.length
    · simp [h2]
    · simp [h2]
  · simp [h]
theorem subAt_get (d : List Bool) (t : Nat) (l : List Bool) (m : Nat) (hl : t + m ≤ l.length) (j : Nat) : (subAt d t m l).getD j false = (l.getD j false ^^ (decide (t ≤ j ∧ j < t + m) && d.getD (j - t) false)) := by
  induction m with
  | zero =>
    have : ¬ (t ≤ j ∧ j < t + 0) := by omega
    simp only [this, decide_false, Bool.false_and, Bool.xor_false]; rfl
  | succ m ih =>
    rw [subAt_succ, getD_set, subAt_len]
    have ih' := ih (by omega)
    by_cases h : t + m = j
    · subst h
      rw [if_pos ⟨rfl, by omega⟩, ih']
      have h1 : ¬ (t ≤ t + m ∧ t + m < t + m) := by omega
      have h2 : t ≤ t + m ∧ t + m < t + (m + 1) := by omega
      rw [decide_eq_false h1, decide_eq_true h2, show t + m - t = m by omega]
      cases l.getD (t + m) false <;> cases d.getD m false <;> rfl
    · rw [if_neg (by omega), ih']
      have : (t ≤ j ∧ j < t + m) ↔ (t ≤ j ∧ j < t + (m + 1)) := by omega
      rw [decide_eq_decide.2 this]
theorem flip32_get (s : Nat) (l : List Bool) (k : Nat) (hl : k ≤ l.length) (j : Nat) : (flip32 s k l).getD j false = (l.getD j false ^^ (decide (j < k) && !s.testBit j)) := by
  induction k with
  | zero => simp [flip32]
  | succ k ih =>
    have ih' := ih (by omega)
    rw [flip32_succ]
    have hb : s.testBit k = decide (s / 2 ^ k % 2 = 1) := Nat.testBit_eq_decide_div_mod_eq
    split
    · rename_i h0
      rw [getD_set, flip32_len]
      by_cases h : k = j
      · subst h
        rw [if_pos ⟨rfl, by omega⟩, ih', hb]
        have : ¬ (s / 2 ^ k % 2 = 1) := by omega
        simp [this]
      · rw [if_neg (by omega), ih']
        have : (j < k) ↔ (j < k + 1) := by omega
        rw [decide_eq_decide.2 this]
    · rename_i h0
      rw [ih']
      by_cases h : k = j
      · subst h
        have : s / 2 ^ k % 2 = 1 := by omega
        rw [hb]
        simp [this]
      · have : (j < k) ↔ (j < k + 1) := by omega
        rw [decide_eq_decide.2 this]
theorem dvs_zero : (dvs 15).getD 0 false = true := by decide
theorem dvs_get : ∀ i, i < 32 → (dvs 15).getD (i + 1) false = P.testBit i := by decide
/-- what the list holds when k bits are gone: the register, laid over what is to come -/
theorem div_inv (r0 : Nat) (h0 : r0 < 4294967296) (M l : List Bool) (n : Nat) (hM : M.length = n) (hl : l.length = n + 32)
    (hinit : ∀ j, l.getD j false = ((M ++ List.replicate 32 false).getD j false ^^ (decide (j < 32) && r0.testBit j))) :
    ∀ k, k ≤ n → ∀ j, k ≤ j → (divTo (dvs 15) k l).getD j false = ((M ++ List.replicate 32 false).getD j false ^^ (decide (j < k + 32) && (feed r0 (M.take k)).testBit (j - k))) := by
  intro k
  induction k with
  | zero => intro _ j _; rw [show divTo (dvs 15) 0 l = l from rfl, hinit]; simp [feed]
  | succ k ih =>
    intro hk j hj
    have ih := ih (by omega)
    have hr := feed_lt r0 (M.take k) h0
    have ht : M.take (k + 1) = M.take k ++ [M.getD k false] := by
      rw [List.take_succ_eq_append_getElem (by omega)]; simp [show k < M.length by omega]
    rw [ht, feed_snoc]
    generalize feed r0 (M.take k) = r at *
    have hMk : (M ++ List.replicate 32 false).getD k false = M.getD k false := by
      simp [List.getElem?_append, show k < M.length by omega]
    have hk0 := ih k (Nat.le_refl _)
    have hd : decide (k < k + 32) = true := decide_eq_true (by omega)
    rw [hMk, hd, Nat.sub_self, Bool.true_and] at hk0
    rw [divTo_succ]
    have hjk := ih j (by omega)
    have hbit : (sh (r ^^^ b2n (M.getD k false))).testBit (j - (k + 1)) = (r.testBit (j - k) ^^ ((r.testBit 0 ^^ M.getD k false) && P.testBit (j - (k + 1)))) := by
      rw [tb_sh, Nat.testBit_xor, Nat.testBit_xor, tb_b2n, tb_b2n, show j - (k + 1) + 1 = j - k by omega]
      have : decide (j - k = 0) = false := decide_eq_false (by omega)
      rw [this]; simp
    rw [hbit]
    have hhi : ¬ (j < k + 32) → r.testBit (j - k) = false := fun h => Nat.testBit_lt_two_pow (Nat.lt_of_lt_of_le hr (Nat.pow_le_pow_right (n := 2) (by decide) (by omega : 32 ≤ j - k)))
    split
    · rename_i hf
      rw [hk0] at hf
      rw [hjk, Bool.xor_comm (r.testBit 0), hf, Bool.false_and, Bool.xor_false]
      by_cases h1 : j < k + 32
      · have h2 : j < k + 1 + 32 := by omega
        simp [h1, h2]
      · by_cases h2 : j < k + 1 + 32
        · simp [h1, h2, hhi h1]
        · simp [h1, h2]
    · rename_i hf
      rw [hk0] at hf
      have hf' : (r.testBit 0 ^^ M.getD k false) = true := by rw [Bool.xor_comm]; simpa using hf
      rw [subAt_get _ _ _ _ (by rw [divTo_len]; omega), hjk, hf', Bool.true_and]
      by_cases h2 : j < k + 1 + 32
      · have h3 : k ≤ j ∧ j < k + 33 := by omega
        rw [decide_eq_true h3, decide_eq_true h2, show j - k = (j - (k + 1)) + 1 by omega, dvs_get _ (by omega), show j - (k + 1) + 1 = j - k by omega]
        by_cases h1 : j < k + 32
        · simp [h1]
        · simp [h1, hhi h1]
      · have h3 : ¬ (k ≤ j ∧ j < k + 33) := by omega
        have h1 : ¬ (j < k + 32) := by omega
        simp [h1, h2]
theorem outTo_inv (X : List Bool) (n r : Nat) (hr : r < 4294967296) (hX : X.length = n + 32) (h : ∀ i, i < 32 → X.getD (n + i) false = r.testBit i) : outTo X 32 = inv r := by
  have key : ∀ k, k ≤ 32 → outTo X k = inv r % 2 ^ k := by
    intro k
    induction k with
    | zero => intro _; rw [Nat.pow_zero, Nat.mod_one]; rfl
    | succ k ih =>
      intro hk
      rw [outTo_succ, hX, show n + 32 - 32 + k = n + k by omega, h k (by omega), ih (by omega)]
      have hb : (inv r).testBit k = !r.testBit k := by
        rw [inv_xor r hr, Nat.testBit_xor, show (4294967295 : Nat) = 2 ^ 32 - 1 from rfl, Nat.testBit_two_pow_sub_one]
        simp [show k < 32 by omega]
      rw [Nat.testBit_eq_decide_div_mod_eq] at hb
      have hm : inv r % 2 ^ (k + 1) = inv r % 2 ^ k + 2 ^ k * (inv r / 2 ^ k % 2) := by
        rw [Nat.pow_succ, Nat.mod_mul]
      rw [hm]
      split
      · rename_i hz
        rw [hz] at hb
        have : inv r / 2 ^ k % 2 = 1 := by simpa using hb
        rw [this, Nat.mul_one]
      · rename_i hz
        have hz' : r.testBit k = true := by simpa using hz
        rw [hz'] at hb
        have : inv r / 2 ^ k % 2 = 0 := by
          have : ¬ (inv r / 2 ^ k % 2 = 1) := by simpa using hb
          omega
        rw [this, Nat.mul_zero, Nat.add_zero]
  rw [key 32 (Nat.le_refl _)]
  exact Nat.mod_eq_of_lt (show inv r < 2 ^ 32 by have := inv_lt r; omega)
/-- THE SUM IS THE REST OF THE LONG DIVISION -/
theorem extend_ref (s : Nat) (b : List UInt8) (hs : s < 4294967296) : extend s b = refExtend s b := by
  unfold refExtend extend
  have hlen : (bitsOf b).length = 8 * b.length := bitsOf_len b
  have hL : (flip32 s 32 (bitsOf b ++ List.replicate 32 false)).length = 8 * b.length + 32 := by rw [flip32_len]; simp [hlen]
  have hinit : ∀ j, (flip32 s 32 (bitsOf b ++ List.replicate 32 false)).getD j false = ((bitsOf b ++ List.replicate 32 false).getD j false ^^ (decide (j < 32) && (inv s).testBit j)) := by
    intro j
    rw [flip32_get _ _ _ (by simp)]
    by_cases h : j < 32
    · rw [inv_xor s hs, Nat.testBit_xor, show (4294967295 : Nat) = 2 ^ 32 - 1 from rfl, Nat.testBit_two_pow_sub_one]
      simp [h]
    · simp [h]
  have hd := div_inv (inv s) (inv_lt s) (bitsOf b) _ (8 * b.length) hlen hL hinit (8 * b.length) (Nat.le_refl _)
  rw [List.take_of_length_le (by omega), ← regs_feed] at hd
  have hX : (divTo (dvs 15) (8 * b.length) (flip32 s 32 (bitsOf b ++ List.replicate 32 false))).length = 8 * b.length + 32 := by rw [divTo_len, hL]
  show inv (regs (inv s) b) = outTo (divTo (dvs 15) ((flip32 s 32 (bitsOf b ++ List.replicate 32 false)).length - 32) (flip32 s 32 (bitsOf b ++ List.replicate 32 false))) 32
  rw [hL, Nat.add_sub_cancel]
  refine (outTo_inv _ (8 * b.length) (regs (inv s) b) (regs_lt _ _ (inv_lt s)) hX ?_).symm
  intro i hi
  rw [hd _ (by omega), show 8 * b.length + i - 8 * b.length = i by omega]
  have : (bitsOf b ++ List.replicate 32 false).getD (8 * b.length + i) false = false := by
    rw [List.getD_eq_getElem?_getD, List.getElem?_append_right (by omega), hlen, show 8 * b.length + i - 8 * b.length = i by omega, List.getElem?_replicate, if_pos hi]
    rfl
  rw [this]
  simp [hi]

/-! ### what follows -/
theorem xor_self_iff {a b : Nat} : a ^^^ b = a ↔ b = 0 := by
  constructor
  · intro h
    have := congrArg (fun z => a ^^^ z) h
    simpa [← Nat.xor_assoc] using this
  · rintro rfl; exact Nat.xor_zero a
theorem one_turned (l : List UInt8) (x : Nat) (h : x < 8 * (sealL l).length) : extend 0 (turnL (sealL l) x) ≠ 558161692 := by
  rw [← seal_sum l]
  unfold extend
  rw [regs_turn _ _ _ h]
  have hr := regs_lt (inv 0) (sealL l) (inv_lt 0)
  have hs := shN_lt (8 * (sealL l).length - x) 1 (by decide)
  intro e
  have := inv_inj (Nat.xor_lt_two_pow (n := 32) hr hs) hr e
  have := shN_inj0 _ _ (by decide) (xor_self_iff.1 this)
  omega
theorem two_turned (l : List UInt8) (x y : Nat) (hl : l.length ≤ 4096) (h : x < 8 * (sealL l).length) (h2 : y < 8 * (sealL l).length) : (extend 0 (turnL (turnL (sealL l) x) y) = 558161692) ↔ x = y := by
  rw [← seal_sum l]
  have hlen := sealL_len l
  unfold extend
  rw [regs_turn _ _ _ (by rw [turnL_len]; exact h2), turnL_len, regs_turn _ _ _ h]
  have hr := regs_lt (inv 0) (sealL l) (inv_lt 0)
  have hs := shN_lt (8 * (sealL l).length - x) 1 (by decide)
  have hs2 := shN_lt (8 * (sealL l).length - y) 1 (by decide)
  rw [Nat.xor_assoc]
  constructor
  · intro e
    have := inv_inj (Nat.xor_lt_two_pow (n := 32) hr (Nat.xor_lt_two_pow (n := 32) hs hs2)) hr e
    have := xor_eq_zero (xor_self_iff.1 this)
    have := period2 1 _ _ (by decide) (by omega) (by omega) this (by decide)
    omega
  · rintro rfl
    rw [Nat.xor_self, Nat.xor_zero]
theorem blank_iff (x n m : Nat) (hx : x < 4294967296) (hn : n < 4096) (hm : m < 4096) : (extend x (List.replicate n 0) = extend x (List.replicate m 0)) ↔ (n = m ∨ x = 4294967295) := by
  unfold extend
  rw [regs_zeros, regs_zeros]
  constructor
  · intro e
    have e := inv_inj (shN_lt _ _ (inv_lt x)) (shN_lt _ _ (inv_lt x)) e
    by_cases h0 : inv x = 0
    · right; unfold inv at h0; omega
    · left
      have := period2 (inv x) _ _ (inv_lt x) (by omega) (by omega) e h0
      omega
  · rintro (rfl | rfl)
    · rfl
    · rw [show inv 4294967295 = 0 from rfl, shN_zero, shN_zero]
theorem blank0_iff (n m : Nat) (hn : n < 4096) (hm : m < 4096) : (extend 0 (List.replicate n 0) = extend 0 (List.replicate m 0)) ↔ n = m := by
  rw [blank_iff 0 n m (by decide) hn hm]; simp
/-- what a turned byte does -/
theorem place_xor (l : List UInt8) (k : Nat) (t : UInt8) (hk : k < l.length) : extend 0 (l.set k (l.getD k 0 ^^^ t)) ^^^ extend 0 l = shN (8 * (l.length - k)) t.toNat := by
  have ht := t.toNat_lt
  have h1 := regs_lt (inv 0) l (inv_lt 0)
  have h2 := shN_lt (8 * (l.length - k)) t.toNat (by omega)
  unfold extend
  rw [regs_set _ _ _ _ hk, inv_xor _ (Nat.xor_lt_two_pow (n := 32) h1 h2), inv_xor _ h1]
  generalize regs (inv 0) l = A
  generalize shN (8 * (l.length - k)) t.toNat = B
  rw [show 4294967295 ^^^ (A ^^^ B) ^^^ (4294967295 ^^^ A) = (4294967295 ^^^ 4294967295) ^^^ ((A ^^^ A) ^^^ B) by ac_rfl]
  simp
theorem place_iff (l : List UInt8) (k : Nat) (t : UInt8) (hk : k < l.length) : (extend 0 (l.set k (l.getD k 0 ^^^ t)) = extend 0 l) ↔ t = 0 := by
  have ht := t.toNat_lt
  have h := place_xor l k t hk
  constructor
  · intro e
    rw [e, Nat.xor_self] at h
    have := shN_inj0 _ _ (by omega) h.symm
    exact UInt8.toNat_inj.1 this
  · rintro rfl
    have : shN (8 * (l.length - k)) (0 : UInt8).toNat = 0 := shN_zero _
    rw [this] at h
    exact xor_eq_zero h
end Go.Proofs.YtobagfndagjajaaDoor.Crc
