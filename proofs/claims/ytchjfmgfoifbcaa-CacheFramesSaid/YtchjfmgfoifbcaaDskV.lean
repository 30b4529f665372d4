/-
  A disk whose power stays: what it answers, and what it has. No condition: plain laws.
-/
import Derived.Test.YtchjfmgfoifbcaaDskF
namespace Go.Proofs.Ytchjfmgfoifbcaa
open Go.RowKit
set_option linter.unusedVariables false
set_option linter.unusedSimpArgs false
set_option maxRecDepth 100000

theorem getSet_eq {S : List (List UInt8)} {k : Nat} {l : List UInt8} (h : k < S.length) : (S.set k l).getD k [] = l := by
  rw [List.getD_eq_getElem?_getD, List.getElem?_set_self h]; rfl
theorem getSet_ne {S : List (List UInt8)} {k i : Nat} {l : List UInt8} (h : k ≠ i) : (S.set k l).getD i [] = S.getD i [] := by
  rw [List.getD_eq_getElem?_getD, List.getElem?_set_ne h, List.getD_eq_getElem?_getD]
theorem penApp {P : Pend} {p : Nat × List UInt8} {i : Nat} (h : i < P.length) : penAt (P ++ [p]) i = penAt P i := by
  unfold penAt
  rw [List.getD_eq_getElem?_getD, List.getElem?_append_left h, List.getD_eq_getElem?_getD]
theorem penLast (P : Pend) (p : Nat × List UInt8) : penAt (P ++ [p]) P.length = p := by
  unfold penAt
  rw [List.getD_eq_getElem?_getD, List.getElem?_append_right (Nat.le_refl _), Nat.sub_self]; rfl
theorem pickApp {S : List (List UInt8)} {P : Pend} {p : Nat × List UInt8} {s : Nat} : ∀ n, n ≤ P.length → pickN S (P ++ [p]) s n = pickN S P s n := by
  intro n
  induction n with
  | zero => intro _; rfl
  | succ n ih =>
    intro hn
    rw [pickN, pickN, penApp (by omega), ih (by omega)]
theorem pickPush {S : List (List UInt8)} {P : Pend} {q k : Nat} {l : List UInt8} : pickN S (P ++ [(q, l)]) k (P ++ [(q, l)]).length = if q = k then l else pickN S P k P.length := by
  rw [List.length_append, List.length_singleton, pickN, penLast, pickApp _ (Nat.le_refl _)]
theorem settlePick {D : Dk} (h : D.Fit) (k : Nat) : ∀ n, n ≤ D.P.length → (settleN allF D.S D.P n).getD k [] = pickN D.S D.P k n := by
  intro n
  induction n with
  | zero => intro _; rfl
  | succ n ih =>
    intro hn
    have e : settleN allF D.S D.P (n + 1) = (settleN allF D.S D.P n).set (penAt D.P n).1 (penAt D.P n).2 := rfl
    rw [e, pickN]
    have hlt := penAt_lt h (i := n) (by omega)
    by_cases hk : (penAt D.P n).1 = k
    · rw [if_pos hk, ← hk, getSet_eq (by rw [settleN_len]; exact hlt)]
    · rw [if_neg hk, getSet_ne hk, ih (by omega)]
theorem pickFull {S : List (List UInt8)} {P : Pend} {s : Nat} (hs : (S.getD s []).length = 256) (hp : ∀ p ∈ P, p.2.length = 256) : ∀ n, n ≤ P.length → (pickN S P s n).length = 256 := by
  intro n
  induction n with
  | zero => intro _; exact hs
  | succ n ih =>
    intro hn
    rw [pickN]
    split
    · exact hp _ (penAt_mem (by omega))
    · exact ih (by omega)
structure LiveD (D : Dk) (n N : Nat) : Prop where
  dead : D.dead = false
  arm : D.armed = 0
  len : D.S.length = n
  fits : D.Fits N
  full : ∀ s, s < n → (D.S.getD s []).length = 256
theorem LiveD.le {D : Dk} {n N N' : Nat} (h : LiveD D n N) (hN : N ≤ N') : LiveD D n N' := ⟨h.dead, h.arm, h.len, h.fits.le hN, h.full⟩
theorem LiveD.pick {D : Dk} {n N : Nat} (h : LiveD D n N) {s : Nat} (hs : s < n) : (pickD D s).length = 256 := pickFull (h.full s hs) h.fits.fit.pl _ (Nat.le_refl _)
theorem LiveD.read {D : Dk} {n N : Nat} (h : LiveD D n N) {s : Nat} (hs : s < n) : 0 = readE D s ∧ readB D s = pickD D s := by
  have hi : inD D s = true := by simp [inD, h.len]; omega
  have hp := h.pick hs
  constructor
  · unfold readE
    rw [if_neg (by rw [h.dead]; simp), if_neg (by rw [hi]; simp), Int.toNat_natCast, if_neg (fun e => by rw [e] at hp; cases hp)]
  · unfold readB
    rw [if_neg (by rw [h.dead]; simp), if_neg (by rw [hi]; simp), Int.toNat_natCast]
theorem LiveD.step {D : Dk} {n N : Nat} (h : LiveD D n N) : stepD D = ⟨D.S, D.P, false, 0, D.steps + 1⟩ := by
  obtain ⟨S, P, d, a, k⟩ := D
  have h1 := h.dead
  have h2 := h.arm
  simp only at h1 h2
  subst h1 h2
  unfold stepD
  rw [if_neg (Int.lt_irrefl 0)]
theorem LiveD.write {D : Dk} {n N : Nat} (h : LiveD D n N) {q : Nat} {l : List UInt8} (hq : q < n) (hl : l.length ≤ 256) :
    0 = writeE D q l ∧ LiveD (writeD D q l) n (N + 2) ∧ ∀ s, s < n → pickD (writeD D q l) s = if q = s then fullB l else pickD D s := by
  have hw : writeIs D q l = true := by simp [writeIs, inD, h.len]; omega
  have hM : LiveD (writeM D q l) n (N + 1) := ⟨h.dead, h.arm, h.len, (h.fits.write (s := q) (by rw [h.len]; exact hq) hl).le (by omega), h.full⟩
  have e : writeD D q l = ⟨D.S, D.P ++ [(q, fullB l)], false, 0, D.steps + 1⟩ := by
    unfold writeD
    rw [if_neg (by rw [h.dead]; simp), if_neg (by rw [hw]; simp), hM.step]
    rfl
  refine ⟨?_, ?_, fun s hs => ?_⟩
  · unfold writeE
    rw [if_neg (by rw [h.dead]; simp), if_neg (by rw [hw]; simp), h.step]; rfl
  · have hF : (writeD D q l).Fits (N + 2) := by
      unfold writeD
      rw [if_neg (by rw [h.dead]; simp), if_neg (by rw [hw]; simp)]
      exact hM.fits.step
    exact ⟨by rw [e], by rw [e], by rw [e]; exact h.len, hF, by rw [e]; exact h.full⟩
  · rw [e]
    exact pickPush
theorem LiveD.bar {D : Dk} {n N : Nat} (h : LiveD D n N) : 0 = barrierE D ∧ LiveD (barrierD D) n (N + 2) ∧ (∀ s, s < n → pickD (barrierD D) s = pickD D s) ∧ ∀ s, s < n → (barrierD D).S.getD s [] = pickD D s := by
  have e : barrierD D = ⟨settleN allF D.S D.P D.P.length, [], false, 0, D.steps + 1⟩ := by
    unfold barrierD
    rw [if_neg (by rw [h.dead]; simp), h.step, if_neg (by simp)]; rfl
  have hg : ∀ s, s < n → (barrierD D).S.getD s [] = pickD D s := fun s hs => by rw [e]; exact settlePick h.fits.fit s _ (Nat.le_refl _)
  refine ⟨?_, ⟨by rw [e], by rw [e], ?_, ?_, fun s hs => ?_⟩, fun s hs => ?_, hg⟩
  · unfold barrierE
    rw [if_neg (by rw [h.dead]; simp), h.step]; rfl
  · rw [e]; show (settleN allF D.S D.P D.P.length).length = n; rw [settleN_len]; exact h.len
  · unfold barrierD
    rw [if_neg (by rw [h.dead]; simp), if_neg (by rw [h.step]; simp)]
    exact (h.fits.step.settle allF_sane).le (by omega)
  · rw [hg s hs]; exact h.pick hs
  · rw [← hg s hs, e]; rfl
theorem blankLen (n : Nat) : (blankD n).length = n := List.length_replicate
theorem blankGet {n i : Nat} (h : i < n) : (blankD n).getD i [] = List.replicate 256 0 := by
  rw [blankD, List.getD_eq_getElem?_getD, List.getElem?_replicate, if_pos h]; rfl
theorem LiveD.start {n : Nat} (hn : n ≤ 4096) : LiveD (newD n) n 0 ∧ ∀ s, s < n → pickD (newD n) s = List.replicate 256 0 := by
  refine ⟨⟨rfl, rfl, blankLen n, ⟨⟨fun p hp => (List.not_mem_nil hp).elim, fun l hl => ?_, fun p hp => (List.not_mem_nil hp).elim⟩, by simp [newD], Nat.zero_le _, Int.le_refl 0, Int.le_refl 0, ?_⟩, fun s hs => ?_⟩, fun s hs => blankGet hs⟩
  · rw [List.eq_of_mem_replicate hl, List.length_replicate]
    exact Nat.le_refl _
  · show (List.replicate n (List.replicate 256 0)).length ≤ _
    rw [List.length_replicate]; omega
  · show ((blankD n).getD s []).length = 256
    rw [blankGet hs]; exact List.length_replicate
end Go.Proofs.Ytchjfmgfoifbcaa
