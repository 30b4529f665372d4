/-
  Plain law: no register but nought comes back to itself within 65,536 steps ('period'). No program. Condition: it fits 32 bits.
-/
import Derived.Test.YtobagfndagjajaaDoorCrcP1
namespace Go.Proofs.YtobagfndagjajaaDoor.Crc

/-- a sum of turns of r: which, the bits of a say -/
def ap : Nat → Nat → Nat → Nat
  | 0, _, _ => 0
  | n + 1, a, r => (if a % 2 = 1 then r else 0) ^^^ ap n (a / 2) (sh r)
theorem ap_xor (n a x y : Nat) : ap n a (x ^^^ y) = ap n a x ^^^ ap n a y := by
  induction n generalizing a x y with
  | zero => simp [ap]
  | succ n ih =>
    rw [ap, ap, ap, sh_xor, ih]
    split
    · ac_rfl
    · rw [Nat.zero_xor, Nat.zero_xor, Nat.zero_xor]
theorem ap_lt (n a r : Nat) (h : r < 4294967296) : ap n a r < 4294967296 := by
  induction n generalizing a r with
  | zero => exact Nat.zero_lt_of_lt h
  | succ n ih =>
    rw [ap]
    refine Nat.xor_lt_two_pow (n := 32) ?_ (ih _ _ (sh_lt _ h))
    split
    · exact h
    · omega
def Add (f : Nat → Nat) : Prop := ∀ x y, f (x ^^^ y) = f x ^^^ f y
theorem Add.zero {f : Nat → Nat} (h : Add f) : f 0 = 0 := by
  have := h 0 0
  rw [Nat.xor_self] at this
  have e := congrArg (fun z => f 0 ^^^ z) this
  simpa using e.symm
def chk (f g : Nat → Nat) : Bool := (List.range 32).all fun j => f (2 ^ j) == g (2 ^ j)
theorem split_top (x n : Nat) (h : x < 2 ^ (n + 1)) : x = x % 2 ^ n ^^^ (if x.testBit n then 2 ^ n else 0) := by
  apply Nat.eq_of_testBit_eq
  intro i
  rw [Nat.testBit_xor, Nat.testBit_mod_two_pow]
  by_cases h1 : i < n
  · have : (if x.testBit n = true then 2 ^ n else 0).testBit i = false := by
      split
      · rw [Nat.testBit_two_pow]; simp; omega
      · simp
    simp [h1, this]
  · by_cases h2 : i = n
    · subst h2
      cases hx : x.testBit i <;> simp
    · have hz : x.testBit i = false := Nat.testBit_lt_two_pow (Nat.lt_of_lt_of_le h (Nat.pow_le_pow_right (n := 2) (by decide) (by omega)))
      have : (if x.testBit n = true then 2 ^ n else 0).testBit i = false := by
        split
        · rw [Nat.testBit_two_pow]; simp; omega
        · simp
      simp [h1, hz, this]
theorem eq_of_chk {f g : Nat → Nat} (hf : Add f) (hg : Add g) (h : chk f g = true) : ∀ x, x < 4294967296 → f x = g x := by
  have hb : ∀ j, j < 32 → f (2 ^ j) = g (2 ^ j) := by
    intro j hj
    have := (List.all_eq_true.1 h) j (List.mem_range.2 hj)
    simpa using this
  have all : ∀ n, n ≤ 32 → ∀ x, x < 2 ^ n → f x = g x := by
    intro n
    induction n with
    | zero => intro _ x hx; obtain rfl : x = 0 := by simpa using hx
              rw [hf.zero, hg.zero]
    | succ n ih =>
      intro hn x hx
      rw [split_top x n hx, hf, hg, ih (by omega) _ (Nat.mod_lt _ (Nat.two_pow_pos n))]
      congr 1
      split
      · exact hb n (by omega)
      · rw [hf.zero, hg.zero]
  exact fun x hx => all 32 (Nat.le_refl _) x hx
theorem add_ap (a : Nat) : Add (ap 32 a) := fun x y => ap_xor 32 a x y
theorem add_comp {f g : Nat → Nat} (hf : Add f) (hg : Add g) : Add (fun x => f (g x)) := fun x y => by
  show f (g (x ^^^ y)) = f (g x) ^^^ f (g y)
  rw [hg, hf]
theorem double {k c d : Nat} (h : ∀ r, r < 4294967296 → shN k r = ap 32 c r) (hc : chk (fun x => ap 32 c (ap 32 c x)) (ap 32 d) = true) : ∀ r, r < 4294967296 → shN (2 * k) r = ap 32 d r := by
  intro r hr
  rw [show 2 * k = k + k by omega, shN_add, h _ (shN_lt _ _ hr), h _ hr]
  exact eq_of_chk (add_comp (add_ap c) (add_ap c)) (add_ap d) hc r hr
theorem pw0 : ∀ r, r < 4294967296 → shN 1 r = ap 32 2 r := by
  intro r hr
  exact eq_of_chk (f := shN 1) (fun x y => shN_xor 1 x y) (add_ap 2) (by decide +kernel) r hr
theorem pw1 : ∀ r, r < 4294967296 → shN 2 r = ap 32 4 r := double (k := 1) pw0 (by decide +kernel)
theorem pw2 : ∀ r, r < 4294967296 → shN 4 r = ap 32 16 r := double (k := 2) pw1 (by decide +kernel)
theorem pw3 : ∀ r, r < 4294967296 → shN 8 r = ap 32 256 r := double (k := 4) pw2 (by decide +kernel)
theorem pw4 : ∀ r, r < 4294967296 → shN 16 r = ap 32 65536 r := double (k := 8) pw3 (by decide +kernel)
theorem pw5 : ∀ r, r < 4294967296 → shN 32 r = ap 32 79764919 r := double (k := 16) pw4 (by decide +kernel)
theorem pw6 : ∀ r, r < 4294967296 → shN 64 r = ap 32 1225615245 r := double (k := 32) pw5 (by decide +kernel)
theorem pw7 : ∀ r, r < 4294967296 → shN 128 r = ap 32 3903084037 r := double (k := 64) pw6 (by decide +kernel)
theorem pw8 : ∀ r, r < 4294967296 → shN 256 r = ap 32 1975404215 r := double (k := 128) pw7 (by decide +kernel)
theorem pw9 : ∀ r, r < 4294967296 → shN 512 r = ap 32 3861023505 r := double (k := 256) pw8 (by decide +kernel)
theorem pw10 : ∀ r, r < 4294967296 → shN 1024 r = ap 32 1451220459 r := double (k := 512) pw9 (by decide +kernel)
theorem pw11 : ∀ r, r < 4294967296 → shN 2048 r = ap 32 2298356279 r := double (k := 1024) pw10 (by decide +kernel)
theorem pw12 : ∀ r, r < 4294967296 → shN 4096 r = ap 32 243629681 r := double (k := 2048) pw11 (by decide +kernel)
theorem pw13 : ∀ r, r < 4294967296 → shN 8192 r = ap 32 1879172134 r := double (k := 4096) pw12 (by decide +kernel)
theorem pw14 : ∀ r, r < 4294967296 → shN 16384 r = ap 32 123593394 r := double (k := 8192) pw13 (by decide +kernel)
theorem pw15 : ∀ r, r < 4294967296 → shN 32768 r = ap 32 4046094224 r := double (k := 16384) pw14 (by decide +kernel)
theorem pw16 : ∀ r, r < 4294967296 → shN 65536 r = ap 32 4038369729 r := double (k := 32768) pw15 (by decide +kernel)
theorem pw17 : ∀ r, r < 4294967296 → shN 131072 r = ap 32 1492413452 r := double (k := 65536) pw16 (by decide +kernel)
theorem pw18 : ∀ r, r < 4294967296 → shN 262144 r = ap 32 3275315934 r := double (k := 131072) pw17 (by decide +kernel)
theorem pw19 : ∀ r, r < 4294967296 → shN 524288 r = ap 32 2525200268 r := double (k := 262144) pw18 (by decide +kernel)
theorem pw20 : ∀ r, r < 4294967296 → shN 1048576 r = ap 32 1413494777 r := double (k := 524288) pw19 (by decide +kernel)
theorem pw21 : ∀ r, r < 4294967296 → shN 2097152 r = ap 32 599241014 r := double (k := 1048576) pw20 (by decide +kernel)
theorem pw22 : ∀ r, r < 4294967296 → shN 4194304 r = ap 32 3001117608 r := double (k := 2097152) pw21 (by decide +kernel)
theorem pw23 : ∀ r, r < 4294967296 → shN 8388608 r = ap 32 1918794746 r := double (k := 4194304) pw22 (by decide +kernel)
theorem pw24 : ∀ r, r < 4294967296 → shN 16777216 r = ap 32 3966802781 r := double (k := 8388608) pw23 (by decide +kernel)
theorem pw25 : ∀ r, r < 4294967296 → shN 33554432 r = ap 32 4151997044 r := double (k := 16777216) pw24 (by decide +kernel)
theorem pw26 : ∀ r, r < 4294967296 → shN 67108864 r = ap 32 675665266 r := double (k := 33554432) pw25 (by decide +kernel)
theorem pw27 : ∀ r, r < 4294967296 → shN 134217728 r = ap 32 55452949 r := double (k := 67108864) pw26 (by decide +kernel)
theorem pw28 : ∀ r, r < 4294967296 → shN 268435456 r = ap 32 2036947266 r := double (k := 134217728) pw27 (by decide +kernel)
theorem pw29 : ∀ r, r < 4294967296 → shN 536870912 r = ap 32 1410117928 r := double (k := 268435456) pw28 (by decide +kernel)
theorem pw30 : ∀ r, r < 4294967296 → shN 1073741824 r = ap 32 191221795 r := double (k := 536870912) pw29 (by decide +kernel)
theorem pw31 : ∀ r, r < 4294967296 → shN 2147483648 r = ap 32 1010059043 r := double (k := 1073741824) pw30 (by decide +kernel)
theorem pw32 : ∀ r, r < 4294967296 → shN 4294967296 r = ap 32 2 r := double (k := 2147483648) pw31 (by decide +kernel)

theorem around (r : Nat) (h : r < 4294967296) : shN 4294967295 r = r := by
  have h1 := pw32 r h
  rw [← pw0 r h, show (4294967296 : Nat) = 1 + 4294967295 from rfl, shN_add] at h1
  exact shN_inj 1 _ _ (shN_lt _ _ h) h h1
theorem no65535 (r : Nat) (h : r < 4294967296) (e : shN 65535 r = r) : r = 0 := by
  have h1 := pw16 r h
  rw [show (65536 : Nat) = 1 + 65535 from rfl, shN_add, e] at h1
  have h2 : ap 32 2884189518 (ap 32 4038369729 r ^^^ shN 1 r) = r := by
    have hf : Add (fun x => ap 32 2884189518 (ap 32 4038369729 x ^^^ shN 1 x)) := by
      intro x y
      show ap 32 2884189518 (ap 32 4038369729 (x ^^^ y) ^^^ shN 1 (x ^^^ y)) = _
      rw [add_ap 4038369729 x y, shN_xor]
      rw [show (ap 32 4038369729 x ^^^ ap 32 4038369729 y) ^^^ (shN 1 x ^^^ shN 1 y) = (ap 32 4038369729 x ^^^ shN 1 x) ^^^ (ap 32 4038369729 y ^^^ shN 1 y) by
        generalize ap 32 4038369729 x = A
        generalize ap 32 4038369729 y = B
        generalize shN 1 x = C
        generalize shN 1 y = D
        ac_rfl]
      exact add_ap _ _ _
    exact eq_of_chk hf (g := fun x => x) (fun _ _ => rfl) (by decide +kernel) r h
  rw [← h1, Nat.xor_self] at h2
  rw [← h2, (add_ap 2884189518).zero]

/-! ### which numbers of steps come back -/
theorem back_mul {r k : Nat} (h : shN k r = r) (q : Nat) : shN (k * q) r = r := by
  induction q with
  | zero => rfl
  | succ q ih => rw [Nat.mul_succ, shN_add, h, ih]
theorem back_gcd {r : Nat} (m n : Nat) : shN m r = r → shN n r = r → shN (Nat.gcd m n) r = r := by
  induction m, n using Nat.gcd.induction with
  | H0 n => intro _ h; rw [Nat.gcd_zero_left]; exact h
  | H1 m n hm ih =>
    intro h1 h2
    rw [Nat.gcd_rec]
    refine ih ?_ h1
    have e : n = n % m + m * (n / m) := (Nat.mod_add_div n m).symm
    rw [e, shN_add, back_mul h1] at h2
    exact h2
def cop : Nat → Nat → Bool
  | 0, lo => Nat.gcd lo 65537 == 1
  | m + 1, lo => cop m lo && cop m (lo + 2 ^ m)
theorem cop_spec (m : Nat) : ∀ lo, cop m lo = true → ∀ i, i < 2 ^ m → Nat.gcd (lo + i) 65537 = 1 := by
  induction m with
  | zero => intro lo h i hi; obtain rfl : i = 0 := by simpa using hi
            simpa [cop] using h
  | succ m ih =>
    intro lo h i hi
    simp only [cop, Bool.and_eq_true] at h
    by_cases h1 : i < 2 ^ m
    · exact ih lo h.1 i h1
    · have := ih (lo + 2 ^ m) h.2 (i - 2 ^ m) (by rw [Nat.pow_succ] at hi; omega)
      rwa [show lo + 2 ^ m + (i - 2 ^ m) = lo + i by omega] at this
theorem cop_all : cop 16 1 = true := by decide +kernel
/-- no register but nought comes back within 65,536 steps -/
theorem period (r k : Nat) (hr : r < 4294967296) (h0 : 0 < k) (hk : k < 65537) (e : shN k r = r) : r = 0 := by
  have hg := back_gcd k 4294967295 e (around r hr)
  have g1 : Nat.gcd k 4294967295 ∣ k := Nat.gcd_dvd_left _ _
  have g2 : Nat.gcd k 4294967295 ∣ 4294967295 := Nat.gcd_dvd_right _ _
  have g3 : 0 < Nat.gcd k 4294967295 := Nat.gcd_pos_of_pos_left _ h0
  have g4 := Nat.le_of_dvd h0 g1
  generalize Nat.gcd k 4294967295 = g at *
  have hc := cop_spec 16 1 cop_all (g - 1) (by omega)
  rw [show 1 + (g - 1) = g by omega] at hc
  have hd : g ∣ 65535 := by
    rw [show (4294967295 : Nat) = 65535 * 65537 from rfl] at g2
    exact Nat.Coprime.dvd_of_dvd_mul_right hc g2
  obtain ⟨q, hq⟩ := hd
  refine no65535 r hr ?_
  rw [hq]
  exact back_mul hg q
theorem period2 (r a b : Nat) (hr : r < 4294967296) (ha : a < 65537) (hb : b < 65537) (e : shN a r = shN b r) (h : r ≠ 0) : a = b := by
  rcases Nat.lt_trichotomy a b with hl | hl | hl
  · exfalso
    rw [show b = a + (b - a) by omega, shN_add] at e
    have := shN_inj a _ _ hr (shN_lt _ _ hr) e
    exact h (period r (b - a) hr (by omega) (by omega) this.symm)
  · exact hl
  · exfalso
    rw [show a = b + (a - b) by omega, shN_add] at e
    have := shN_inj b _ _ (shN_lt _ _ hr) hr e
    exact h (period r (a - b) hr (by omega) (by omega) this)
end Go.Proofs.YtobagfndagjajaaDoor.Crc
