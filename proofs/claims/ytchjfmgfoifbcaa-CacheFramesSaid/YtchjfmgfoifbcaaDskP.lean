/-
  What a disk is, and what each call makes of it: plain functions. No condition.
-/
import Derived.Test.YtchjfmgfoifbcaaSep
namespace Go.Proofs.Ytchjfmgfoifbcaa
open Go.RowKit
set_option linter.unusedVariables false
set_option linter.unusedSimpArgs false

structure Dk where
  S : List (List UInt8)
  P : List (Nat × List UInt8)
  dead : Bool
  armed : Int
  steps : Int
abbrev Pend := List (Nat × List UInt8)
def penAt (P : Pend) (i : Nat) : Nat × List UInt8 := P.getD i (0, [])
/-- what a sector has, behind so many of the pending writes -/
def pickN (S : List (List UInt8)) (P : Pend) (s : Nat) : Nat → List UInt8
  | 0 => S.getD s []
  | i + 1 => if (penAt P i).1 = s then (penAt P i).2 else pickN S P s i
def pickD (D : Dk) (s : Nat) : List UInt8 := pickN D.S D.P s D.P.length
def inD (D : Dk) (s : Int) : Bool := decide (0 ≤ s) && decide (s < (D.S.length : Int))
def readE (D : Dk) (s : Int) : Int := if D.dead = true then 4 else if inD D s = false then 1 else if pickD D s.toNat = [] then 5 else 0
def readB (D : Dk) (s : Int) : List UInt8 := if D.dead = true then [] else if inD D s = false then [] else pickD D s.toNat
def stepD (D : Dk) : Dk := if 0 < D.armed then { D with steps := D.steps + 1, armed := D.armed - 1, dead := D.armed == 1 } else { D with steps := D.steps + 1 }
def fullB (b : List UInt8) : List UInt8 := b ++ List.replicate (256 - b.length) 0
def writeIs (D : Dk) (s : Int) (b : List UInt8) : Bool := inD D s && decide (b.length ≤ 256)
def writeM (D : Dk) (s : Int) (b : List UInt8) : Dk := { D with P := D.P ++ [(s.toNat, fullB b)] }
def powE (D : Dk) : Int := if D.dead = true then 4 else 0
def writeE (D : Dk) (s : Int) (b : List UInt8) : Int := if D.dead = true then 4 else if writeIs D s b = false then 1 else powE (stepD D)
def writeD (D : Dk) (s : Int) (b : List UInt8) : Dk := if D.dead = true then D else if writeIs D s b = false then D else stepD (writeM D s b)
/-- what lasts, behind so many of the pending writes -/
def settleN (f : Nat → Nat × List UInt8 → Option (List UInt8)) (S : List (List UInt8)) (P : Pend) : Nat → List (List UInt8)
  | 0 => S
  | i + 1 => match f i (penAt P i) with
    | some b => (settleN f S P i).set (penAt P i).1 b
    | none => settleN f S P i
def allF : Nat → Nat × List UInt8 → Option (List UInt8) := fun _ p => some p.2
def keepF (keep : List Int) (torn : Int) : Nat → Nat × List UInt8 → Option (List UInt8) := fun i p => if (i : Int) = torn then some [] else if (i : Int) ∈ keep then some p.2 else none
def settleD (f : Nat → Nat × List UInt8 → Option (List UInt8)) (D : Dk) : Dk := { D with S := settleN f D.S D.P D.P.length, P := [] }
def barrierE (D : Dk) : Int := if D.dead = true then 4 else powE (stepD D)
def barrierD (D : Dk) : Dk := if D.dead = true then D else if (stepD D).dead = true then stepD D else settleD allF (stepD D)
def armE (D : Dk) (n : Int) : Int := if D.dead = true then 4 else if n < 0 then 1 else 0
def armD (D : Dk) (n : Int) : Dk := if D.dead = true then D else if n < 0 then D else { D with armed := n }
def offD (D : Dk) : Dk := { D with dead := true }
def onE (D : Dk) : Int := if D.dead = true then 0 else 3
def onD (D : Dk) (keep : List Int) (torn : Int) : Dk := if D.dead = true then { settleD (keepF keep torn) D with dead := false, armed := 0 } else D
def blankD (n : Nat) : List (List UInt8) := List.replicate n (List.replicate 256 0)
def newD (n : Nat) : Dk := ⟨blankD n, [], false, 0, 0⟩
def loadD (S : List (List UInt8)) : Dk := ⟨S, [], false, 0, 0⟩

/-- the form of a disk: writes go to its sectors, and have all bytes -/
structure Dk.Fit (D : Dk) : Prop where
  at_ : ∀ p ∈ D.P, p.1 < D.S.length
  sl : ∀ l ∈ D.S, l.length ≤ 256
  pl : ∀ p ∈ D.P, p.2.length = 256
theorem settleN_len (f : Nat → Nat × List UInt8 → Option (List UInt8)) (S : List (List UInt8)) (P : Pend) : ∀ n, (settleN f S P n).length = S.length := by
  intro n
  induction n with
  | zero => rfl
  | succ n ih =>
    rw [settleN]
    split
    · rw [List.length_set, ih]
    · exact ih
theorem penAt_mem {P : Pend} {i : Nat} (hi : i < P.length) : penAt P i ∈ P := by
  unfold penAt
  rw [List.getD_eq_getElem?_getD, List.getElem?_eq_getElem hi]
  exact List.getElem_mem hi
theorem penAt_lt {D : Dk} (h : D.Fit) {i : Nat} (hi : i < D.P.length) : (penAt D.P i).1 < D.S.length := h.at_ _ (penAt_mem hi)
theorem getD_le {S : List (List UInt8)} (h : ∀ l ∈ S, l.length ≤ 256) (i : Nat) : (S.getD i []).length ≤ 256 := by
  rw [List.getD_eq_getElem?_getD]
  cases hq : S[i]? with
  | none => simp
  | some l => exact h l (List.mem_of_getElem? hq)
theorem pickN_le {D : Dk} (h : D.Fit) (s : Nat) : ∀ n, n ≤ D.P.length → (pickN D.S D.P s n).length ≤ 256 := by
  intro n
  induction n with
  | zero => intro _; exact getD_le h.sl s
  | succ n ih =>
    intro hn
    rw [pickN]
    split
    · rw [h.pl _ (penAt_mem (by omega))]; omega
    · exact ih (by omega)
theorem readB_le {D : Dk} (h : D.Fit) (s : Int) : (readB D s).length ≤ 256 := by
  unfold readB; split
  · simp
  · split
    · simp
    · exact pickN_le h _ _ (Nat.le_refl _)
theorem inD_nat {D : Dk} {s : Int} (h : inD D s = true) : ∃ k : Nat, s = k ∧ k < D.S.length := by
  simp [inD] at h
  exact ⟨s.toNat, by omega, by omega⟩
theorem stepD_fields (D : Dk) : (stepD D).S = D.S ∧ (stepD D).P = D.P ∧ (stepD D).steps = D.steps + 1 := by
  unfold stepD; split <;> exact ⟨rfl, rfl, rfl⟩
theorem stepD_fit {D : Dk} (h : D.Fit) : (stepD D).Fit := by
  obtain ⟨h1, h2, _⟩ := stepD_fields D
  exact ⟨by rw [h1, h2]; exact h.at_, by rw [h1]; exact h.sl, by rw [h2]; exact h.pl⟩
theorem fullB_len {b : List UInt8} (h : b.length ≤ 256) : (fullB b).length = 256 := by simp [fullB]; omega
theorem writeM_fit {D : Dk} (h : D.Fit) {s : Nat} (hs : s < D.S.length) {b : List UInt8} (hb : b.length ≤ 256) : (writeM D s b).Fit := by
  refine ⟨fun p hp => ?_, h.sl, fun p hp => ?_⟩
  · rcases List.mem_append.1 hp with h1 | h1
    · exact h.at_ p h1
    · rw [List.mem_singleton.1 h1]; exact hs
  · rcases List.mem_append.1 hp with h1 | h1
    · exact h.pl p h1
    · rw [List.mem_singleton.1 h1]; exact fullB_len hb
/-- what lasts of a write is it, or nothing -/
def Sane (f : Nat → Nat × List UInt8 → Option (List UInt8)) : Prop := ∀ i p b, f i p = some b → b = [] ∨ b = p.2
theorem allF_sane : Sane allF := fun i p b h => by cases h; exact .inr rfl
theorem keepF_sane (keep : List Int) (torn : Int) : Sane (keepF keep torn) := fun i p b h => by
  unfold keepF at h
  split at h
  · cases h; exact .inl rfl
  · split at h
    · cases h; exact .inr rfl
    · cases h
theorem settleN_le {D : Dk} (h : D.Fit) {f : Nat → Nat × List UInt8 → Option (List UInt8)} (hf : Sane f) : ∀ n, n ≤ D.P.length → ∀ l ∈ settleN f D.S D.P n, l.length ≤ 256 := by
  intro n
  induction n with
  | zero => intro _; exact h.sl
  | succ n ih =>
    intro hn l hl
    rw [settleN] at hl
    split at hl
    · rename_i b hb
      rcases List.mem_or_eq_of_mem_set hl with h1 | h1
      · exact ih (by omega) l h1
      · subst h1
        rcases hf _ _ _ hb with h2 | h2
        · subst h2; simp
        · subst h2; rw [h.pl _ (penAt_mem (by omega))]; omega
    · exact ih (by omega) l hl
theorem settleD_fit {D : Dk} (h : D.Fit) {f : Nat → Nat × List UInt8 → Option (List UInt8)} (hf : Sane f) : (settleD f D).Fit :=
  ⟨fun p hp => (List.not_mem_nil hp).elim, settleN_le h hf _ (Nat.le_refl _), fun p hp => (List.not_mem_nil hp).elim⟩
theorem stepD_writeM (D : Dk) (s : Int) (b : List UInt8) : (stepD (writeM D s b)).dead = (stepD D).dead := by
  unfold stepD writeM; simp only; split <;> rfl
end Go.Proofs.Ytchjfmgfoifbcaa
