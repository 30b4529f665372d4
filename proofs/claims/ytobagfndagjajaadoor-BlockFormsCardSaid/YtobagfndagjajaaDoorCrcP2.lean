/-
  Plain laws: the sum of a sealed text; of one in which bits were turned; no turn of the register comes back within 65,536 steps. No program. Conditions: lengths below 65,536 bits.
-/
import Derived.Test.YtobagfndagjajaaDoorCrcP1
namespace Go.Proofs.YtobagfndagjajaaDoor.Crc

theorem stepB4 (r : Nat) (a b c d : UInt8) : regs r [a, b, c, d] = shN 32 (r ^^^ (a.toNat ^^^ 256 * b.toNat ^^^ 65536 * c.toNat ^^^ 16777216 * d.toNat)) := by
  show stepB (stepB (stepB (stepB r a) b) c) d = _
  simp only [stepB_eq, shN_xor]
  have hb : shN 32 (256 * b.toNat) = shN 24 b.toNat := by
    rw [show (32 : Nat) = 24 + 8 from rfl, shN_add]; rw [show 256 * b.toNat = 2 ^ 8 * b.toNat from rfl, shN_pow]
  have hc : shN 32 (65536 * c.toNat) = shN 16 c.toNat := by
    rw [show (32 : Nat) = 16 + 16 from rfl, shN_add]; rw [show 65536 * c.toNat = 2 ^ 16 * c.toNat from rfl, shN_pow]
  have hd : shN 32 (16777216 * d.toNat) = shN 8 d.toNat := by
    rw [show (32 : Nat) = 8 + 24 from rfl, shN_add]; rw [show 16777216 * d.toNat = 2 ^ 24 * d.toNat from rfl, shN_pow]
  rw [hb, hc, hd]
  simp only [← shN_add]
  show (((shN 32 r ^^^ shN 32 a.toNat) ^^^ shN 24 b.toNat) ^^^ shN 16 c.toNat) ^^^ shN 8 d.toNat = _
  generalize shN 32 r = A
  generalize shN 32 a.toNat = B
  generalize shN 24 b.toNat = C
  generalize shN 16 c.toNat = D
  generalize shN 8 d.toNat = E
  ac_rfl
theorem join4' (s : Nat) (h : s < 4294967296) : (s % 2 ^ 8) ^^^ 2 ^ 8 * (s / 2 ^ 8 % 2 ^ 8) ^^^ 2 ^ 16 * (s / 2 ^ 16 % 2 ^ 8) ^^^ 2 ^ 24 * (s / 2 ^ 24 % 2 ^ 8) = s := by
  apply Nat.eq_of_testBit_eq
  intro i
  rw [Nat.testBit_xor, Nat.testBit_xor, Nat.testBit_xor]
  rw [Nat.testBit_two_pow_mul, Nat.testBit_two_pow_mul, Nat.testBit_two_pow_mul, Nat.testBit_mod_two_pow, Nat.testBit_mod_two_pow, Nat.testBit_mod_two_pow, Nat.testBit_mod_two_pow, Nat.testBit_div_two_pow, Nat.testBit_div_two_pow, Nat.testBit_div_two_pow]
  by_cases h1 : i < 8
  · have a : ¬ i ≥ 8 := by omega
    have b : ¬ i ≥ 16 := by omega
    have c : ¬ i ≥ 24 := by omega
    simp [h1, a, b, c]
  by_cases h2 : i < 16
  · have a : i ≥ 8 := by omega
    have b : ¬ i ≥ 16 := by omega
    have c : ¬ i ≥ 24 := by omega
    have d : i - 8 < 8 := by omega
    simp [h1, a, b, c, d]
  by_cases h3 : i < 24
  · have a : i ≥ 8 := by omega
    have b : i ≥ 16 := by omega
    have c : ¬ i ≥ 24 := by omega
    have d : ¬ i - 8 < 8 := by omega
    have e : i - 16 < 8 := by omega
    simp [h1, a, b, c, d, e]
  have a : i ≥ 8 := by omega
  have b : i ≥ 16 := by omega
  have c : i ≥ 24 := by omega
  have d : ¬ i - 8 < 8 := by omega
  have e : ¬ i - 16 < 8 := by omega
  by_cases h4 : i < 32
  · have f : i - 24 < 8 := by omega
    simp [h1, a, b, c, d, e, f]
  · have f : ¬ i - 24 < 8 := by omega
    have : s.testBit i = false := Nat.testBit_lt_two_pow (Nat.lt_of_lt_of_le h (Nat.pow_le_pow_right (n := 2) (by decide) (by omega : 32 ≤ i)))
    simp [h1, d, e, f, this]
theorem join4 (s : Nat) (h : s < 4294967296) : (s % 256) ^^^ 256 * (s / 256 % 256) ^^^ 65536 * (s / 65536 % 256) ^^^ 16777216 * (s / 16777216 % 256) = s := by
  have := join4' s h
  rwa [show (2 : Nat) ^ 8 = 256 from rfl, show (2 : Nat) ^ 16 = 65536 from rfl, show (2 : Nat) ^ 24 = 16777216 from rfl] at this
/-- a text and its sum -/
theorem seal_sum (l : List UInt8) : extend 0 (sealL l) = 558161692 := by
  unfold extend sealL
  rw [regs_append]
  have hr := regs_lt (inv 0) l (inv_lt 0)
  have e : extend 0 l = inv (regs (inv 0) l) := rfl
  rw [e]
  generalize regs (inv 0) l = r at *
  have hi := inv_lt r
  unfold le4
  rw [stepB4]
  simp only [UInt8.toNat_ofNat']
  rw [show (2 : Nat) ^ 8 = 256 from rfl, join4 _ hi, inv_xor r hr]
  have : r ^^^ (4294967295 ^^^ r) = 4294967295 := by rw [Nat.xor_comm 4294967295, ← Nat.xor_assoc, Nat.xor_self, Nat.zero_xor]
  rw [this]
  decide +kernel
theorem sealL_len (l : List UInt8) : (sealL l).length = l.length + 4 := by simp [sealL, le4]

/-- one bit that is turned -/
theorem regs_turn (r : Nat) (l : List UInt8) (bit : Nat) (h : bit < 8 * l.length) : regs r (turnL l bit) = regs r l ^^^ shN (8 * l.length - bit) 1 := by
  unfold turnL
  rw [regs_set _ _ _ _ (by omega)]
  congr 1
  have hb : (2 : Nat) ^ (bit % 8) < 256 := by
    have : (2 : Nat) ^ (bit % 8) ≤ 2 ^ 7 := Nat.pow_le_pow_right (by decide) (by omega)
    omega
  rw [UInt8.toNat_ofNat', Nat.mod_eq_of_lt hb]
  rw [show 8 * (l.length - bit / 8) = (8 * l.length - bit) + bit % 8 by omega, shN_add]
  have := shN_pow (bit % 8) 1
  rw [Nat.mul_one] at this
  rw [this]

theorem burst_regs (r : Nat) (l : List UInt8) (at_ mask : Nat) (h : at_ + 32 ≤ 8 * l.length) : ∀ k, k ≤ 32 → regs r (burstTo l at_ mask k) = regs r l ^^^ shN (8 * l.length - at_) (mask % 2 ^ k) := by
  intro k
  induction k with
  | zero => intro _; rw [Nat.pow_zero, Nat.mod_one, shN_zero, Nat.xor_zero]; rfl
  | succ k ih =>
    intro hk
    have ih := ih (by omega)
    have hm : mask % 2 ^ (k + 1) = mask % 2 ^ k ^^^ 2 ^ k * (mask / 2 ^ k % 2) := by
      apply Nat.eq_of_testBit_eq
      intro i
      rw [Nat.testBit_xor, Nat.testBit_mod_two_pow, Nat.testBit_mod_two_pow, Nat.testBit_two_pow_mul]
      by_cases h1 : i < k
      · have a : i < k + 1 := by omega
        have b : ¬ i ≥ k := by omega
        simp [h1, a, b]
      · by_cases h2 : i = k
        · subst h2
          simp only [Nat.lt_irrefl, decide_false, Bool.false_and, Bool.false_xor, Nat.lt_succ_self, decide_true, Bool.true_and, ge_iff_le, Nat.le_refl, Nat.sub_self]
          rw [Nat.testBit_zero, Nat.testBit_eq_decide_div_mod_eq]
          simp
        · have a : ¬ i < k + 1 := by omega
          have b : i ≥ k := by omega
          have c : mask / 2 ^ k % 2 < 2 ^ (i - k) := by
            have : (2 : Nat) ^ 1 ≤ 2 ^ (i - k) := Nat.pow_le_pow_right (by decide) (by omega)
            omega
          simp [h1, a, b, Nat.testBit_lt_two_pow c]
    rw [hm, shN_xor, ← Nat.xor_assoc, ← ih, burstTo]
    split
    · rename_i hb
      rw [regs_turn _ _ _ (by rw [burstTo_len]; omega), burstTo_len, hb, Nat.mul_one]
      congr 1
      have := shN_pow k 1
      rw [Nat.mul_one] at this
      rw [show 8 * l.length - at_ = (8 * l.length - (at_ + k)) + k by omega, shN_add, this]
    · rename_i hb
      rw [show mask / 2 ^ k % 2 = 0 by omega, Nat.mul_zero, shN_zero, Nat.xor_zero]
theorem burst_sealed (l : List UInt8) (at_ mask : Nat) (hm : mask < 4294967296) (h : at_ + 32 ≤ 8 * (sealL l).length) : (extend 0 (burstTo (sealL l) at_ mask 32) = 558161692) ↔ mask = 0 := by
  rw [← seal_sum l]
  unfold extend
  rw [burst_regs _ _ _ _ h 32 (by omega), Nat.mod_eq_of_lt (show mask < 2 ^ 32 by omega)]
  have hr := regs_lt (inv 0) (sealL l) (inv_lt 0)
  have hsh := shN_lt (8 * (sealL l).length - at_) mask hm
  constructor
  · intro e
    have := inv_inj (Nat.xor_lt_two_pow (n := 32) hr hsh) hr e
    have h0 : shN (8 * (sealL l).length - at_) mask = 0 := by
      have := congrArg (fun z => regs (inv 0) (sealL l) ^^^ z) this
      simpa [← Nat.xor_assoc] using this
    exact shN_inj0 _ _ hm h0
  · intro e; rw [e, shN_zero, Nat.xor_zero]
end Go.Proofs.YtobagfndagjajaaDoor.Crc
