/-
  Plain laws of the register: 'sh' is linear and injective; bytes as bits; the sum of a sealed text, of a turned bit, of a burst. No program. No condition but that registers fit 32 bits.
-/
import Derived.Test.YtobagfndagjajaaDoorCrcFn
namespace Go.Proofs.YtobagfndagjajaaDoor.Crc

def P : Nat := 3988292384
theorem tb_half (x i : Nat) : (x / 2).testBit i = x.testBit (i + 1) := (Nat.testBit_succ x i).symm
theorem tb_sh (x i : Nat) : (sh x).testBit i = (x.testBit (i + 1) ^^ (x.testBit 0 && P.testBit i)) := by
  unfold sh
  split
  · rename_i h
    rw [Nat.testBit_xor, tb_half, Nat.testBit_zero]
    simp [h, P]
  · rename_i h
    rw [tb_half, Nat.testBit_zero]
    simp [h]
theorem sh_xor (a b : Nat) : sh (a ^^^ b) = sh a ^^^ sh b := by
  apply Nat.eq_of_testBit_eq
  intro i
  simp only [tb_sh, Nat.testBit_xor]
  cases a.testBit (i + 1) <;> cases b.testBit (i + 1) <;> cases a.testBit 0 <;> cases b.testBit 0 <;> cases P.testBit i <;> rfl
theorem shN_xor (k a b : Nat) : shN k (a ^^^ b) = shN k a ^^^ shN k b := by
  induction k with
  | zero => rfl
  | succ k ih => simp only [shN, ih, sh_xor]
theorem sh_zero : sh 0 = 0 := rfl
theorem shN_zero (k : Nat) : shN k 0 = 0 := by
  induction k with
  | zero => rfl
  | succ k ih => rw [shN, ih]; rfl
theorem shN_add (a b x : Nat) : shN (a + b) x = shN a (shN b x) := by
  induction a with
  | zero => rw [Nat.zero_add]; rfl
  | succ a ih => rw [show a + 1 + b = (a + b) + 1 by omega, shN, ih, shN]
theorem sh_two (v : Nat) : sh (2 * v) = v := by unfold sh; rw [if_neg (by omega)]; omega
theorem shN_pow (k v : Nat) : shN k (2 ^ k * v) = v := by
  induction k generalizing v with
  | zero => simp [shN]
  | succ k ih => rw [shN, Nat.pow_succ, Nat.mul_assoc, ih, sh_two]
theorem sh_inj0 (x : Nat) (h : x < 4294967296) (e : sh x = 0) : x = 0 := by
  have h31 := tb_sh x 31
  rw [e] at h31
  have hx : x.testBit 32 = false := Nat.testBit_lt_two_pow (by omega)
  have hp : P.testBit 31 = true := by decide
  rw [Nat.zero_testBit, hx, hp] at h31
  have h0 : x % 2 = 0 := by
    rw [Nat.testBit_zero] at h31
    simp at h31; omega
  unfold sh at e
  rw [if_neg (by omega)] at e
  omega
theorem shN_inj0 (k x : Nat) (h : x < 4294967296) (e : shN k x = 0) : x = 0 := by
  induction k with
  | zero => exact e
  | succ k ih => exact ih (sh_inj0 _ (shN_lt k x h) e)
theorem xor_eq_zero {a b : Nat} (h : a ^^^ b = 0) : a = b := by
  apply Nat.eq_of_testBit_eq
  intro i
  have := congrArg (fun z => z.testBit i) h
  simp only [Nat.testBit_xor, Nat.zero_testBit] at this
  revert this
  cases a.testBit i <;> cases b.testBit i <;> simp
theorem shN_inj (k a b : Nat) (ha : a < 4294967296) (hb : b < 4294967296) (e : shN k a = shN k b) : a = b := by
  apply xor_eq_zero
  apply shN_inj0 k _ (Nat.xor_lt_two_pow (n := 32) ha hb)
  rw [shN_xor, e, Nat.xor_self]

/-- four bits at once are four bits -/
theorem nibble (r : Nat) : r / 16 ^^^ tab (r % 16) = shN 4 r := by
  have e : r = (2 ^ 4 * (r / 16)) ^^^ (r % 16) := by
    apply Nat.eq_of_testBit_eq
    intro i
    rw [Nat.testBit_xor, Nat.testBit_two_pow_mul, show r % 16 = r % 2 ^ 4 from rfl, Nat.testBit_mod_two_pow, show r / 16 = r / 2 ^ 4 from rfl, Nat.testBit_div_two_pow]
    by_cases h : i < 4
    · have : ¬ (i ≥ 4) := by omega
      simp [h, this]
    · have : i ≥ 4 := by omega
      simp [h, this]
  conv => rhs; rw [e, shN_xor, shN_pow]
  rfl
theorem stepB_eq (r : Nat) (c : UInt8) : stepB r c = shN 8 (r ^^^ c.toNat) := by
  show _ = shN (4 + 4) _
  rw [shN_add, ← nibble (r ^^^ c.toNat), ← nibble]
  rfl

/-- the register over an error pattern -/
theorem stepB_xor (a b : Nat) (c d : UInt8) : stepB (a ^^^ b) (c ^^^ d) = stepB a c ^^^ stepB b d := by
  rw [stepB_eq, stepB_eq, stepB_eq, ← shN_xor, UInt8.toNat_xor]
  congr 1
  ac_rfl
theorem stepB_zero (r : Nat) : stepB r 0 = shN 8 r := by rw [stepB_eq]; simp
theorem regs_zeros (r n : Nat) : regs r (List.replicate n 0) = shN (8 * n) r := by
  induction n generalizing r with
  | zero => rfl
  | succ n ih =>
    rw [List.replicate_succ]
    show regs (stepB r 0) _ = _
    rw [ih, stepB_zero, ← shN_add]; rfl
theorem regs_append (r : Nat) (l m : List UInt8) : regs r (l ++ m) = regs (regs r l) m := by simp [regs]
/-- the registers of two texts of which one byte is another -/
theorem regs_diff (a b : Nat) (l : List UInt8) : regs (a ^^^ b) l = regs a l ^^^ shN (8 * l.length) b := by
  induction l generalizing a b with
  | nil => rfl
  | cons c l ih =>
    show regs (stepB (a ^^^ b) c) l = regs (stepB a c) l ^^^ _
    have : stepB (a ^^^ b) c = stepB a c ^^^ shN 8 b := by
      have := stepB_xor a b c 0
      rwa [UInt8.xor_zero, stepB_zero] at this
    rw [this, ih, ← shN_add, List.length_cons]; rfl
theorem regs_set (r : Nat) (l : List UInt8) (k : Nat) (t : UInt8) (hk : k < l.length) :
    regs r (l.set k (l.getD k 0 ^^^ t)) = regs r l ^^^ shN (8 * (l.length - k)) t.toNat := by
  induction l generalizing r k with
  | nil => simp at hk
  | cons c l ih =>
    cases k with
    | zero =>
      show regs (stepB r (c ^^^ t)) l = regs (stepB r c) l ^^^ _
      have : stepB r (c ^^^ t) = stepB r c ^^^ shN 8 t.toNat := by
        have := stepB_xor r 0 c t
        rwa [Nat.xor_zero, stepB_eq 0 t, Nat.zero_xor] at this
      rw [this, regs_diff, ← shN_add]; rfl
    | succ k =>
      show regs (stepB r c) (l.set k (l.getD k 0 ^^^ t)) = _
      rw [ih _ _ (by simpa using hk)]
      simp only [List.length_cons, Nat.add_sub_add_right]; rfl

theorem inv_inv (x : Nat) (h : x < 4294967296) : inv (inv x) = x := by unfold inv; omega
theorem inv_lt (x : Nat) : inv x < 4294967296 := by unfold inv; omega
theorem inv_xor (x : Nat) (h : x < 4294967296) : inv x = 4294967295 ^^^ x := by
  unfold inv
  have e1 : 4294967295 - x = 2 ^ 32 - (x + 1) := by omega
  have e2 : (4294967295 : Nat) = 2 ^ 32 - 1 := by decide
  rw [e1, e2]
  apply Nat.eq_of_testBit_eq
  intro i
  rw [Nat.testBit_two_pow_sub_succ (by omega), Nat.testBit_xor, Nat.testBit_two_pow_sub_one]
  by_cases hi : i < 32
  · simp [hi]
  · have : x.testBit i = false := Nat.testBit_lt_two_pow (Nat.lt_of_lt_of_le h (Nat.pow_le_pow_right (n := 2) (by decide) (by omega : 32 ≤ i)))
    simp [hi, this]
theorem inv_inj {a b : Nat} (ha : a < 4294967296) (hb : b < 4294967296) (h : inv a = inv b) : a = b := by unfold inv at h; omega
theorem extend_append (s : Nat) (l m : List UInt8) : extend s (l ++ m) = extend (extend s l) m := by
  unfold extend
  rw [inv_inv _ (regs_lt _ _ (inv_lt _)), regs_append]
end Go.Proofs.YtobagfndagjajaaDoor.Crc
