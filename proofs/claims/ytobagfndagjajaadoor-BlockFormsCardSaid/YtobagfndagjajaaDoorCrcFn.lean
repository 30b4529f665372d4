/-
  What the functions of crc compute, as plain functions on numbers. No condition: definitions and small laws.
-/
namespace Go.Proofs.YtobagfndagjajaaDoor.Crc

/-- one bit goes -/
def sh (x : Nat) : Nat := if x % 2 = 1 then x / 2 ^^^ 3988292384 else x / 2
def shN : Nat → Nat → Nat
  | 0, x => x
  | k + 1, x => sh (shN k x)
def tab (k : Nat) : Nat := shN 4 k
/-- one byte -/
def stepB (r : Nat) (c : UInt8) : Nat :=
  let r1 := r ^^^ c.toNat
  let r2 := r1 / 16 ^^^ tab (r1 % 16)
  r2 / 16 ^^^ tab (r2 % 16)
def regs (r : Nat) (l : List UInt8) : Nat := l.foldl stepB r
def inv (x : Nat) : Nat := 4294967295 - x
def extend (s : Nat) (l : List UInt8) : Nat := inv (regs (inv s) l)

theorem sh_lt (x : Nat) (h : x < 4294967296) : sh x < 4294967296 := by
  unfold sh
  split
  · exact Nat.xor_lt_two_pow (n := 32) (by omega) (by decide)
  · omega
theorem shN_lt (k x : Nat) (h : x < 4294967296) : shN k x < 4294967296 := by
  induction k with
  | zero => exact h
  | succ k ih => exact sh_lt _ ih
theorem tab_lt (k : Nat) (h : k < 4294967296) : tab k < 4294967296 := shN_lt 4 k h
theorem stepB_lt (r : Nat) (c : UInt8) (h : r < 4294967296) : stepB r c < 4294967296 := by
  unfold stepB
  have hc := c.toNat_lt
  have h1 : r ^^^ c.toNat < 4294967296 := Nat.xor_lt_two_pow (n := 32) h (by omega)
  have h2 : (r ^^^ c.toNat) / 16 ^^^ tab ((r ^^^ c.toNat) % 16) < 4294967296 := Nat.xor_lt_two_pow (n := 32) (by omega) (tab_lt _ (by omega))
  exact Nat.xor_lt_two_pow (n := 32) (by omega) (tab_lt _ (by omega))
theorem regs_lt (r : Nat) (l : List UInt8) (h : r < 4294967296) : regs r l < 4294967296 := by
  induction l generalizing r with
  | nil => exact h
  | cons c l ih => exact ih _ (stepB_lt r c h)
theorem regs_snoc (r : Nat) (l : List UInt8) (c : UInt8) : regs r (l ++ [c]) = stepB (regs r l) c := by simp [regs]
theorem extend_lt (s : Nat) (l : List UInt8) : extend s l < 4294967296 := by unfold extend inv; omega
theorem take_snoc (l : List UInt8) (k : Nat) (h : k < l.length) : l.take (k + 1) = l.take k ++ [l.getD k 0] := by
  rw [List.take_succ_eq_append_getElem h]; simp [h]

/-- the bits of a byte, the lowest first -/
def bitsB (k : Nat) (c : UInt8) : List Bool := (List.range k).map fun i => c.toNat / 2 ^ i % 2 == 1
def bitsOf (l : List UInt8) : List Bool := l.flatMap (bitsB 8)
theorem bitsB_len (k : Nat) (c : UInt8) : (bitsB k c).length = k := by simp [bitsB]
theorem bitsOf_snoc (l : List UInt8) (c : UInt8) : bitsOf (l ++ [c]) = bitsOf l ++ bitsB 8 c := by simp [bitsOf]
theorem bitsOf_len (l : List UInt8) : (bitsOf l).length = 8 * l.length := by
  induction l with
  | nil => rfl
  | cons c l ih => simp only [bitsOf, List.flatMap_cons, List.length_append, bitsB_len, List.length_cons] at *; omega
theorem bitsB_succ (k : Nat) (c : UInt8) : bitsB (k + 1) c = bitsB k c ++ [c.toNat / 2 ^ k % 2 == 1] := by simp [bitsB, List.range_succ]
def le4 (s : Nat) : List UInt8 := [UInt8.ofNat s, UInt8.ofNat (s / 256), UInt8.ofNat (s / 65536), UInt8.ofNat (s / 16777216)]
def sealL (l : List UInt8) : List UInt8 := l ++ le4 (extend 0 l)

def turnL (l : List UInt8) (bit : Nat) : List UInt8 := l.set (bit / 8) (l.getD (bit / 8) 0 ^^^ UInt8.ofNat (2 ^ (bit % 8)))
theorem turnL_len (l : List UInt8) (bit : Nat) : (turnL l bit).length = l.length := by simp [turnL]
def burstTo (l : List UInt8) (at_ mask : Nat) : Nat → List UInt8
  | 0 => l
  | k + 1 => if mask / 2 ^ k % 2 = 1 then turnL (burstTo l at_ mask k) (at_ + k) else burstTo l at_ mask k
theorem burstTo_len (l : List UInt8) (at_ mask k : Nat) : (burstTo l at_ mask k).length = l.length := by
  induction k with
  | zero => rfl
  | succ k ih => rw [burstTo]; split <;> simp [ih, turnL_len]

def powersL : List Int := [32, 26, 23, 22, 16, 12, 11, 10, 8, 7, 5, 4, 2, 1, 0]
def dvs : Nat → List Bool
  | 0 => List.replicate 33 false
  | k + 1 => (dvs k).set (32 - powersL.getD k 0).toNat true
theorem dvs_len (k : Nat) : (dvs k).length = 33 := by
  induction k with
  | zero => rfl
  | succ k ih => rw [dvs, List.length_set, ih]

/-- what the first 32 bits become -/
def flip32 (s : Nat) (k : Nat) (l : List Bool) : List Bool := (List.range k).foldl (fun l i => if s / 2 ^ i % 2 = 0 then l.set i (!l.getD i false) else l) l
/-- one subtraction -/
def subAt (d : List Bool) (at_ : Nat) (m : Nat) (l : List Bool) : List Bool := (List.range m).foldl (fun l i => l.set (at_ + i) (l.getD (at_ + i) false != d.getD i false)) l
def divTo (d : List Bool) (k : Nat) (l : List Bool) : List Bool := (List.range k).foldl (fun l i => if l.getD i false = false then l else subAt d i 33 l) l
def outTo (l : List Bool) (k : Nat) : Nat := (List.range k).foldl (fun o i => if l.getD (l.length - 32 + i) false = false then (o + 2 ^ i) else o) 0
def refExtend (s : Nat) (b : List UInt8) : Nat :=
  let l := flip32 s 32 (bitsOf b ++ List.replicate 32 false)
  outTo (divTo (dvs 15) (l.length - 32) l) 32
theorem flip32_succ (s k : Nat) (l : List Bool) : flip32 s (k + 1) l = if s / 2 ^ k % 2 = 0 then (flip32 s k l).set k (!(flip32 s k l).getD k false) else flip32 s k l := by
  simp [flip32, List.range_succ]
theorem flip32_len (s k : Nat) (l : List Bool) : (flip32 s k l).length = l.length := by
  induction k with
  | zero => rfl
  | succ k ih => rw [flip32_succ]; split <;> simp [ih]
theorem subAt_succ (d : List Bool) (t m : Nat) (l : List Bool) : subAt d t (m + 1) l = (subAt d t m l).set (t + m) ((subAt d t m l).getD (t + m) false != d.getD m false) := by simp [subAt, List.range_succ]
theorem subAt_len (d : List Bool) (t m : Nat) (l : List Bool) : (subAt d t m l).length = l.length := by
  induction m with
  | zero => rfl
  | succ k ih => rw [subAt_succ]; simp [ih]
theorem divTo_succ (d : List Bool) (k : Nat) (l : List Bool) : divTo d (k + 1) l = if (divTo d k l).getD k false = false then divTo d k l else subAt d k 33 (divTo d k l) := by simp [divTo, List.range_succ]
theorem divTo_len (d : List Bool) (k : Nat) (l : List Bool) : (divTo d k l).length = l.length := by
  induction k with
  | zero => rfl
  | succ k ih => rw [divTo_succ]; split <;> simp [ih, subAt_len]
theorem outTo_succ (l : List Bool) (k : Nat) : outTo l (k + 1) = if l.getD (l.length - 32 + k) false = false then outTo l k + 2 ^ k else outTo l k := by simp [outTo, List.range_succ]
theorem outTo_lt (l : List Bool) (k : Nat) : outTo l k < 2 ^ k := by
  induction k with
  | zero => exact Nat.one_pos
  | succ k ih => rw [outTo_succ, Nat.pow_succ]; split <;> omega

end Go.Proofs.YtobagfndagjajaaDoor.Crc
