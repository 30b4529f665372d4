/-
  A heap as a list of things: its plain law. No condition: plain laws.
-/
import Derived.Test.YtekmgffjdheifaaSep
namespace Go.Proofs.Ytekmgffjdheifaa
open Go Go.RowKit
set_option linter.unusedVariables false
set_option linter.unusedSimpArgs false

structure Ob where
  k : UInt8
  t : Int
  l : List (UInt8 × Int)
  s : List UInt8
structure Th where
  o : Ob
  is : Bool
  oid : Int
  dirty : Bool
def noOb : Ob := ⟨0, 0, [], []⟩
def noTh : Th := ⟨noOb, false, 0, false⟩
def thAt (H : List Th) (k : Int) : Th := if 0 ≤ k then H.getD k.toNat noTh else noTh
def sizeO (o : Ob) : Nat := if o.k = 8 then 1 else 1 + o.l.length + (o.s.length + 7) / 8
def wordyB (x : UInt8 × Int) : Bool := decide (x.1 = 1) || decide (x.1 = 2)
def lstN (k : Nat) : Int := if k = 1 then 2 else if k = 3 then 1 else if k = 2 ∨ k = 4 ∨ k = 5 ∨ k = 6 ∨ k = 7 ∨ k = 8 then 0 else 1
def mstN (k : Nat) : Int := if k = 1 ∨ k = 4 ∨ k = 7 then 1099511627776 else if k = 2 ∨ k = 3 ∨ k = 6 then 1 else 0
def fstN (k : Nat) : Int := if k = 8 then 1 else 0
def lasN (k : Nat) : Int := if k = 2 ∨ k = 6 ∨ k = 7 then 65535 else if k = 8 then 16384 else 0
def mayN (k : Nat) (t : Int) (n : Nat) (odd e : Bool) : Bool := decide (lstN k ≤ n) && decide ((n : Int) ≤ mstN k) && decide (fstN k ≤ t) && decide (t ≤ lasN k) && !odd && (e || decide (k = 5))
def oddL (l : List (UInt8 × Int)) : Bool := l.any (fun x => !wordyB x)
def mayO (o : Ob) : Bool := mayN o.k.toNat o.t o.l.length (oddL o.l) (decide (o.s = []))

def ofP (x : Int) (h : Th) : Bool := h.is && decide (h.oid = x) && decide (0 < x)
def ofH (H : List Th) (x : Int) : Int := if H.any (ofP x) then (H.findIdx (ofP x) : Int) else 0
def usedH (H : List Th) : Nat := (H.map fun h => if h.is then sizeO h.o else 0).sum
def countH (H : List Th) : Nat := H.countP (·.is)
def dirtyL (H : List Th) : List Int := ((List.range H.length).filter fun i => (H.getD i noTh).is && (H.getD i noTh).dirty).map Int.ofNat

theorem thAt_neg {H : List Th} {k : Int} (h : k < 0) : thAt H k = noTh := if_neg (by omega)
theorem thAt_nat (H : List Th) (i : Nat) : thAt H i = H.getD i noTh := by rw [thAt, if_pos (by omega)]; rfl
theorem thAt_ge {H : List Th} {k : Int} (h : (H.length : Int) ≤ k) : thAt H k = noTh := by
  rw [thAt, if_pos (by omega), List.getD_eq_getElem?_getD, List.getElem?_eq_none (by omega)]
  rfl
theorem getD_lt {α : Type} {l : List α} {i : Nat} (h : i < l.length) (d : α) : l.getD i d = l[i] := by
  rw [List.getD_eq_getElem?_getD, List.getElem?_eq_getElem h]; rfl
theorem thAt_is {H : List Th} {k : Int} (h : (thAt H k).is = true) : ∃ i : Nat, k = i ∧ i < H.length ∧ thAt H k = H.getD i noTh := by
  rcases Int.lt_or_le k 0 with hk | hk
  · rw [thAt_neg hk] at h; cases h
  rcases Int.lt_or_le k H.length with hl | hl
  · exact ⟨k.toNat, by omega, by omega, by rw [thAt, if_pos hk]⟩
  · rw [thAt_ge hl] at h; cases h
/-- one thing is another one -/
def putTh (H : List Th) (k : Int) (h : Th) : List Th := H.set k.toNat h
theorem putTh_len (H : List Th) (k : Int) (h : Th) : (putTh H k h).length = H.length := List.length_set ..
theorem thAt_put {H : List Th} {k : Int} {h : Th} (hk : 0 ≤ k) (hl : k < H.length) (j : Int) : thAt (putTh H k h) j = if j = k then h else thAt H j := by
  rcases Int.lt_or_le j 0 with hj | hj
  · rw [thAt_neg hj, thAt_neg hj, if_neg (by omega)]
  rw [thAt, if_pos hj, thAt, if_pos hj, putTh, List.getD_eq_getElem?_getD, List.getElem?_set]
  by_cases e : j = k
  · subst e
    rw [if_pos rfl, if_pos rfl, if_pos (by omega)]
    rfl
  · rw [if_neg (by omega), if_neg e, List.getD_eq_getElem?_getD]
theorem thAt_snoc (H : List Th) (h : Th) (j : Int) : thAt (H ++ [h]) j = if j = H.length then h else thAt H j := by
  rcases Int.lt_or_le j 0 with hj | hj
  · rw [thAt_neg hj, thAt_neg hj, if_neg (by omega)]
  rw [thAt, if_pos hj, thAt, if_pos hj, List.getD_eq_getElem?_getD, List.getD_eq_getElem?_getD]
  by_cases e : j = H.length
  · subst e
    rw [if_pos rfl, List.getElem?_append_right (by omega)]
    simp
  · rw [if_neg e]
    rcases Int.lt_or_le j H.length with hl | hl
    · rw [List.getElem?_append_left (by omega)]
    · rw [List.getElem?_append_right (by omega), List.getElem?_eq_none (l := H) (by omega), List.getElem?_eq_none (by simp; omega)]

structure Good (H : List Th) (m : Nat) : Prop where
  len : 1 ≤ H.length
  zero : thAt H 0 = noTh
  non : ∀ k, (thAt H k).is = false → thAt H k = noTh
  may : ∀ k, (thAt H k).is = true → mayO (thAt H k).o = true
  oid : ∀ k, 0 ≤ (thAt H k).oid ∧ (thAt H k).oid ≤ 16384
  dirt : ∀ k, (thAt H k).dirty = true → 0 < (thAt H k).oid
  stub : ∀ k, (thAt H k).is = true → (thAt H k).o.k = 8 → (thAt H k).oid = (thAt H k).o.t
  one : ∀ i j, 0 < (thAt H i).oid → (thAt H i).oid = (thAt H j).oid → i = j
  room : usedH H ≤ m
theorem Good.pos {H : List Th} {m : Nat} (h : Good H m) {k : Int} (hk : (thAt H k).is = true) : 1 ≤ k := by
  obtain ⟨i, rfl, _, _⟩ := thAt_is hk
  by_cases hi : i = 0
  · subst hi
    rw [show ((0 : Nat) : Int) = 0 from rfl, h.zero] at hk
    cases hk
  · omega
theorem Good.isOf {H : List Th} {m : Nat} (h : Good H m) {k : Int} (hk : 0 < (thAt H k).oid) : (thAt H k).is = true := by
  cases e : (thAt H k).is with
  | true => rfl
  | false => rw [h.non k e] at hk; exact absurd hk (by decide)
/-! ### what an oid leads to -/
theorem ofH_some {H : List Th} {x : Int} (h : H.any (ofP x) = true) : ∃ i : Nat, ofH H x = i ∧ i < H.length ∧ ofP x (H.getD i noTh) = true := by
  refine ⟨H.findIdx (ofP x), by rw [ofH, if_pos h], ?_⟩
  obtain ⟨y, hy, hp⟩ := List.any_eq_true.1 h
  have hl : H.findIdx (ofP x) < H.length := List.findIdx_lt_length_of_exists ⟨y, hy, hp⟩
  refine ⟨hl, ?_⟩
  rw [getD_lt hl]
  exact List.findIdx_getElem
theorem Good.ofIs {H : List Th} {m : Nat} (h : Good H m) {x k : Int} (hx : 0 < x) : ofH H x = k ∧ 0 < k ↔ (thAt H k).oid = x := by
  constructor
  · rintro ⟨h1, h2⟩
    cases ha : H.any (ofP x) with
    | false => rw [ofH, ha] at h1; simp at h1; omega
    | true =>
      obtain ⟨i, e, hl, hp⟩ := ofH_some ha
      obtain rfl : k = i := by omega
      rw [thAt_nat]
      simp [ofP] at hp
      exact hp.1.2
  · intro e
    have his := h.isOf (k := k) (by omega)
    obtain ⟨i, rfl, hl, hi⟩ := thAt_is his
    have hpos := h.pos his
    have ha : H.any (ofP x) = true := by
      refine List.any_eq_true.2 ⟨H[i], List.getElem_mem hl, ?_⟩
      rw [hi, getD_lt hl] at e his
      simp [ofP, e, his, hx]
    obtain ⟨j, e2, hl2, hp⟩ := ofH_some ha
    simp [ofP] at hp
    have : (i : Int) = j := h.one _ _ (by rw [e]; exact hx) (by rw [e, thAt_nat H j, List.getD_eq_getElem?_getD, hp.1.2])
    exact ⟨by omega, by omega⟩
theorem ofH_zero {H : List Th} {x : Int} (h : ∀ k, (thAt H k).oid ≠ x) : ofH H x = 0 := by
  cases ha : H.any (ofP x) with
  | false => rw [ofH, ha]; rfl
  | true =>
    obtain ⟨i, e, hl, hp⟩ := ofH_some ha
    simp [ofP] at hp
    exact absurd (by rw [thAt_nat]; exact hp.1.2) (h i)
theorem ofH_neg {H : List Th} {x : Int} (h : ¬ 0 < x) : ofH H x = 0 := by
  cases ha : H.any (ofP x) with
  | false => rw [ofH, ha]; rfl
  | true =>
    obtain ⟨i, e, hl, hp⟩ := ofH_some ha
    simp [ofP] at hp
    exact absurd hp.2 h
theorem ofH_nn (H : List Th) (x : Int) : 0 ≤ ofH H x := by unfold ofH; split <;> omega
theorem Good.ofNone {H : List Th} {m : Nat} (h : Good H m) {x : Int} (h0 : ofH H x = 0) (hx : 0 < x) (k : Int) : (thAt H k).oid ≠ x := fun e => by
  have := ((h.ofIs hx).2 e)
  omega
/-- what an oid leads to, when it is known who has it -/
theorem Good.ofEq {H : List Th} {m : Nat} (h : Good H m) {x k : Int} (hx : 0 < x) (hk : (thAt H k).oid = x) : ofH H x = k ∧ 0 < k := (h.ofIs hx).2 hk
theorem Good.ofPos {H : List Th} {m : Nat} (h : Good H m) {x : Int} (h0 : 0 < ofH H x) : 0 < x ∧ (thAt H (ofH H x)).oid = x := by
  have hx : 0 < x := by
    by_cases hx : 0 < x
    · exact hx
    · rw [ofH_neg hx] at h0; omega
  exact ⟨hx, (h.ofIs hx).1 ⟨rfl, h0⟩⟩
/-! ### how much there is -/
theorem sum_set (f : Th → Nat) : ∀ (H : List Th) (i : Nat) (x : Th), i < H.length → ((H.set i x).map f).sum + f (H.getD i noTh) = (H.map f).sum + f x
  | [], i, x, h => by simp at h
  | y :: H, 0, x, h => by simp; omega
  | y :: H, i + 1, x, h => by
    have := sum_set f H i x (by simpa using h)
    simp at this ⊢
    omega
def sz (h : Th) : Nat := if h.is then sizeO h.o else 0
theorem usedH_put {H : List Th} {k : Int} {h : Th} (hk : 0 ≤ k) (hl : k < H.length) : usedH (putTh H k h) + sz (thAt H k) = usedH H + sz h := by
  rw [thAt, if_pos hk]
  exact sum_set sz H k.toNat h (by omega)
theorem usedH_snoc (H : List Th) (h : Th) : usedH (H ++ [h]) = usedH H + sz h := by simp [usedH, sz]
theorem countH_snoc (H : List Th) (h : Th) : countH (H ++ [h]) = countH H + if h.is then 1 else 0 := by simp [countH, List.countP_append, List.countP_cons]
theorem sz_le {H : List Th} (k : Int) : sz (thAt H k) ≤ usedH H := by
  cases h : (thAt H k).is with
  | false => simp [sz, h]
  | true =>
    obtain ⟨i, rfl, hl, e⟩ := thAt_is h
    have := usedH_put (H := H) (k := i) (h := noTh) (by omega) (by omega)
    have h2 : sz noTh = 0 := rfl
    omega
theorem sizeO_pos (o : Ob) : 1 ≤ sizeO o := by unfold sizeO; split <;> omega
theorem may_stub {o : Ob} (h : mayO o = true) (h8 : o.k = 8) : 1 ≤ o.t ∧ o.t ≤ 16384 ∧ o.l = [] ∧ o.s = [] := by
  simp [mayO, mayN, h8, lstN, mstN, fstN, lasN] at h
  obtain ⟨⟨⟨⟨h1, h2⟩, h3⟩, h4⟩, h5⟩ := h
  exact ⟨h2, h3, h1, h5⟩
theorem sizeO_words {o : Ob} (h : mayO o = true) : o.l.length ≤ sizeO o := by
  unfold sizeO
  split
  · rename_i h8
    rw [(may_stub h h8).2.2.1]
    exact Nat.zero_le _
  · omega
theorem sizeO_text {o : Ob} (h : mayO o = true) : o.s.length ≤ 8 * sizeO o := by
  unfold sizeO
  split
  · rename_i h8
    rw [(may_stub h h8).2.2.2]
    exact Nat.zero_le _
  · omega
/-! ### the steps -/
section
variable {H : List Th} {m : Nat}
def newH : List Th := [noTh]
theorem newH_at (k : Int) : thAt newH k = noTh := by
  rcases Int.lt_or_le k 0 with hj | hj
  · exact thAt_neg hj
  · rw [thAt, if_pos hj]
    cases h : k.toNat with
    | zero => rfl
    | succ n => rfl
theorem newH_good (m : Nat) : Good newH m :=
  ⟨by decide, newH_at 0, fun k _ => newH_at k, fun k h => (by rw [newH_at] at h; cases h), fun k => (by rw [newH_at]; decide), fun k h => (by rw [newH_at] at h; cases h), fun k h => (by rw [newH_at] at h; cases h), fun i j h => (by rw [newH_at] at h; exact absurd h (by decide)), Nat.zero_le _⟩
def allocE (H : List Th) (m : Nat) (o : Ob) : Int := if mayO o = false then 1 else if o.k = 8 ∧ 0 < ofH H o.t then 3 else if m < usedH H + sizeO o then 6 else 0
def newTh (o : Ob) : Th := ⟨o, true, if o.k = 8 then o.t else 0, false⟩
def allocH (H : List Th) (m : Nat) (o : Ob) : List Th := if allocE H m o = 0 then H ++ [newTh o] else H
def allocN (H : List Th) (m : Nat) (o : Ob) : Int := if allocE H m o = 0 then H.length else 0
theorem alloc_good (h : Good H m) {o : Ob} (hE : allocE H m o = 0) : Good (H ++ [newTh o]) m := by
  unfold allocE at hE
  split at hE
  · cases hE
  rename_i hm
  split at hE
  · cases hE
  rename_i ht
  split at hE
  · cases hE
  rename_i hu
  have hmay : mayO o = true := by cases e : mayO o with | true => rfl | false => exact absurd e hm
  have hlen := h.len
  have hoid : ∀ k, 0 < (newTh o).oid → (newTh o).oid = (thAt H k).oid → False := fun k h1 h2 => by
    by_cases h8 : o.k = 8
    · have e : (newTh o).oid = o.t := if_pos h8
      rw [e] at h1 h2
      exact h.ofNone (by have := ofH_nn H o.t; by_cases hz : 0 < ofH H o.t; exact absurd ⟨h8, hz⟩ ht; omega) h1 k h2.symm
    · rw [show (newTh o).oid = 0 from if_neg h8] at h1
      omega
  refine ⟨by simp, by rw [thAt_snoc, if_neg (by omega)]; exact h.zero, fun k => ?_, fun k => ?_, fun k => ?_, fun k => ?_, fun k => ?_, fun i j => ?_, by rw [usedH_snoc]; simp [sz, newTh]; omega⟩
  · rw [thAt_snoc]; split
    · intro e; cases e
    · exact h.non k
  · rw [thAt_snoc]; split
    · intro _; exact hmay
    · exact h.may k
  · rw [thAt_snoc]; split
    · by_cases h8 : o.k = 8
      · have := may_stub hmay h8
        rw [show (newTh o).oid = o.t from if_pos h8]
        omega
      · rw [show (newTh o).oid = 0 from if_neg h8]
        decide
    · exact h.oid k
  · rw [thAt_snoc]; split
    · intro e; cases e
    · exact h.dirt k
  · rw [thAt_snoc]; split
    · intro _ h8; exact if_pos h8
    · exact h.stub k
  · rw [thAt_snoc, thAt_snoc]
    split
    · split
      · omega
      · intro h1 h2; exact (hoid j h1 h2).elim
    · split
      · intro h1 h2; exact (hoid i (h2 ▸ h1) h2.symm).elim
      · exact h.one i j
theorem alloc_keep (h : Good H m) (o : Ob) : Good (allocH H m o) m := by
  unfold allocH
  split
  · rename_i e; exact alloc_good h e
  · exact h
/-- a thing put anew -/
theorem put_good (h : Good H m) {k : Int} {x : Th} (hk : (thAt H k).is = true) (hx : x.is = true) (hmay : mayO x.o = true) (hoid : 0 ≤ x.oid ∧ x.oid ≤ 16384) (hd : x.dirty = true → 0 < x.oid) (hs : x.o.k = 8 → x.oid = x.o.t)
    (hone : 0 < x.oid → ∀ j, j ≠ k → (thAt H j).oid ≠ x.oid) (hroom : usedH H + sizeO x.o ≤ m + sizeO (thAt H k).o) : Good (putTh H k x) m := by
  obtain ⟨i, hi, hl, _⟩ := thAt_is hk
  have hp := h.pos hk
  have hlk : k < H.length := by omega
  have hu := usedH_put (H := H) (k := k) (h := x) (by omega) hlk
  have e : ∀ j, thAt (putTh H k x) j = if j = k then x else thAt H j := thAt_put (by omega) hlk
  refine ⟨by rw [putTh_len]; exact h.len, by rw [e, if_neg (by omega)]; exact h.zero, fun j => ?_, fun j => ?_, fun j => ?_, fun j => ?_, fun j => ?_, fun a b => ?_, by simp [sz, hk, hx] at hu; omega⟩
  · rw [e]; split
    · intro e; rw [hx] at e; cases e
    · exact h.non j
  · rw [e]; split
    · intro _; exact hmay
    · exact h.may j
  · rw [e]; split
    · exact hoid
    · exact h.oid j
  · rw [e]; split
    · exact hd
    · exact h.dirt j
  · rw [e]; split
    · intro _; exact hs
    · exact h.stub j
  · rw [e, e]
    split
    · split
      · omega
      · rename_i hb; intro h1 h2; exact absurd h2.symm (hone h1 b hb)
    · rename_i ha
      split
      · intro h1 h2; exact absurd h2 (hone (h2 ▸ h1) a ha)
      · exact h.one a b
def setIs (H : List Th) (k i : Int) (x : UInt8 × Int) : Bool := (thAt H k).is && decide (0 ≤ i ∧ i < (thAt H k).o.l.length) && wordyB x && (decide ((thAt H k).o.k = 3) || decide ((thAt H k).o.k = 4))
def setTh (h : Th) (i : Int) (x : UInt8 × Int) : Th := { h with o := { h.o with l := h.o.l.set i.toNat x }, dirty := decide (0 < h.oid) }
def setH (H : List Th) (k i : Int) (x : UInt8 × Int) : List Th := if setIs H k i x then putTh H k (setTh (thAt H k) i x) else H
theorem any_set {α : Type} {p : α → Bool} {x : α} (hx : p x = false) : ∀ (l : List α) (i : Nat), l.any p = false → (l.set i x).any p = false
  | [], i, h => by simp
  | y :: l, 0, h => by
    simp at h
    simp [hx]
    exact h.2
  | y :: l, i + 1, h => by
    rw [List.any_cons] at h
    simp only [List.set_cons_succ, List.any_cons]
    cases hy : p y with
    | true => rw [hy] at h; simp at h
    | false => rw [hy] at h; simp at h; simp [any_set hx l i (by simpa using h)]
theorem set_keep (h : Good H m) (k i : Int) (x : UInt8 × Int) : Good (setH H k i x) m := by
  unfold setH
  split
  rotate_left
  · exact h
  rename_i hs
  simp only [setIs, Bool.and_eq_true, decide_eq_true_eq] at hs
  obtain ⟨⟨⟨h1, h2⟩, h3⟩, h4⟩ := hs
  have hm := h.may k h1
  have h8 : (thAt H k).o.k ≠ 8 := by
    rcases Bool.or_eq_true_iff.1 h4 with e | e <;> rw [of_decide_eq_true e] <;> decide
  refine put_good h h1 h1 ?_ (h.oid k) (fun e => of_decide_eq_true e) (fun e => absurd e h8) (fun hp j hj e => hj (h.one j k (e ▸ hp) e)) ?_
  · unfold mayO mayN at hm ⊢
    simp only [setTh, List.length_set, Bool.and_eq_true] at hm ⊢
    refine ⟨⟨hm.1.1, ?_⟩, hm.2⟩
    have ho : oddL (thAt H k).o.l = false := by simpa using hm.1.2
    rw [oddL, any_set (by simp [h3]) _ _ ho]
    rfl
  · have : sizeO (setTh (thAt H k) i x).o = sizeO (thAt H k).o := by simp [sizeO, setTh]
    have := h.room
    omega
def tieE (H : List Th) (k x : Int) : Int := if (thAt H k).is = false then 7 else if x < 1 ∨ 16384 < x then 1 else if 0 < ofH H x ∨ 0 < (thAt H k).oid then 3 else 0
def tieTh (h : Th) (x : Int) : Th := { h with oid := x, dirty := false }
def tieH (H : List Th) (k x : Int) : List Th := if tieE H k x = 0 then putTh H k (tieTh (thAt H k) x) else H
theorem tieE_zero (h : Good H m) {k x : Int} (hE : tieE H k x = 0) : (thAt H k).is = true ∧ (1 ≤ x ∧ x ≤ 16384) ∧ ofH H x = 0 ∧ (thAt H k).oid = 0 := by
  unfold tieE at hE
  split at hE
  · cases hE
  rename_i h1
  split at hE
  · cases hE
  rename_i h2
  split at hE
  · cases hE
  rename_i h3
  have := ofH_nn H x
  have := h.oid k
  refine ⟨by cases e : (thAt H k).is with | true => rfl | false => exact absurd e h1, by omega, by omega, by omega⟩
theorem tie_keep (h : Good H m) (k x : Int) : Good (tieH H k x) m := by
  unfold tieH
  split
  rotate_left
  · exact h
  rename_i hE
  obtain ⟨h1, h2, h3, h4⟩ := tieE_zero h hE
  refine put_good h h1 h1 (h.may k h1) (by show 0 ≤ x ∧ x ≤ 16384; omega) (fun e => by cases e) (fun e => ?_) (fun hp j hj => h.ofNone h3 (by omega) j) (by have := h.room; show _ + sizeO (thAt H k).o ≤ _; omega)
  have := h.stub k h1 e
  have := may_stub (h.may k h1) e
  omega
def untieIs (H : List Th) (k : Int) : Bool := (thAt H k).is && decide (0 < (thAt H k).oid) && decide ((thAt H k).o.k ≠ 8)
def untieH (H : List Th) (k : Int) : List Th := if untieIs H k then putTh H k (tieTh (thAt H k) 0) else H
theorem untie_keep (h : Good H m) (k : Int) : Good (untieH H k) m := by
  unfold untieH
  split
  rotate_left
  · exact h
  rename_i hs
  simp only [untieIs, Bool.and_eq_true, decide_eq_true_eq] at hs
  obtain ⟨⟨h1, h2⟩, h3⟩ := hs
  exact put_good h h1 h1 (h.may k h1) (by show (0 : Int) ≤ 0 ∧ (0 : Int) ≤ 16384; omega) (fun e => by cases e) (fun e => absurd e h3) (fun hp => absurd hp (by show ¬ (0 : Int) < 0; omega)) (by have := h.room; show _ + sizeO (thAt H k).o ≤ _; omega)
def fillE (H : List Th) (m : Nat) (k : Int) (o : Ob) : Int := if (thAt H k).is = false then 7 else if (thAt H k).o.k ≠ 8 then 3 else if mayO o = false ∨ o.k = 6 ∨ o.k = 7 ∨ o.k = 8 then 1 else if m + 1 < usedH H + sizeO o then 6 else 0
def fillH (H : List Th) (m : Nat) (k : Int) (o : Ob) : List Th := if fillE H m k o = 0 then putTh H k { thAt H k with o := o } else H
theorem fillE_zero {k : Int} {o : Ob} (hE : fillE H m k o = 0) : (thAt H k).is = true ∧ (thAt H k).o.k = 8 ∧ mayO o = true ∧ o.k ≠ 6 ∧ o.k ≠ 7 ∧ o.k ≠ 8 ∧ usedH H + sizeO o ≤ m + 1 := by
  unfold fillE at hE
  split at hE
  · cases hE
  rename_i h1
  split at hE
  · cases hE
  rename_i h2
  split at hE
  · cases hE
  rename_i h3
  split at hE
  · cases hE
  rename_i h4
  refine ⟨by cases e : (thAt H k).is with | true => rfl | false => exact absurd e h1, Decidable.not_not.1 h2, by cases e : mayO o with | true => rfl | false => exact absurd (.inl e) h3, fun e => h3 (.inr (.inl e)), fun e => h3 (.inr (.inr (.inl e))), fun e => h3 (.inr (.inr (.inr e))), by omega⟩
theorem fill_keep (h : Good H m) (k : Int) (o : Ob) : Good (fillH H m k o) m := by
  unfold fillH
  split
  rotate_left
  · exact h
  rename_i hE
  obtain ⟨h1, h2, h3, h4, h5, h6, h7⟩ := fillE_zero hE
  refine put_good h h1 h1 h3 (h.oid k) (h.dirt k) (fun e => absurd e h6) (fun hp j hj e => hj (h.one j k (e ▸ hp) e)) ?_
  have : sizeO (thAt H k).o = 1 := if_pos h2
  show usedH H + sizeO o ≤ m + _
  omega
def cleanH (H : List Th) (k : Int) : List Th := if (thAt H k).dirty then putTh H k { thAt H k with dirty := false } else H
theorem clean_keep (h : Good H m) (k : Int) : Good (cleanH H k) m := by
  unfold cleanH
  split
  rotate_left
  · exact h
  rename_i hd
  have h1 := h.isOf (h.dirt k hd)
  exact put_good h h1 h1 (h.may k h1) (h.oid k) (fun e => by cases e) (h.stub k h1) (fun hp j hj e => hj (h.one j k (e ▸ hp) e)) (by have := h.room; show _ + sizeO (thAt H k).o ≤ _; omega)
/-- a thing that goes -/
theorem drop_good (h : Good H m) {k : Int} (hk : (thAt H k).is = true) : Good (putTh H k noTh) m := by
  obtain ⟨i, hi, hl, _⟩ := thAt_is hk
  have hp := h.pos hk
  have hlk : k < H.length := by omega
  have hu := usedH_put (H := H) (k := k) (h := noTh) (by omega) hlk
  have e : ∀ j, thAt (putTh H k noTh) j = if j = k then noTh else thAt H j := thAt_put (by omega) hlk
  have h0 : sz noTh = 0 := rfl
  have hr := h.room
  refine ⟨by rw [putTh_len]; exact h.len, by rw [e, if_neg (by omega)]; exact h.zero, fun j => ?_, fun j => ?_, fun j => ?_, fun j => ?_, fun j => ?_, fun a b => ?_, by omega⟩
  · rw [e]; split
    · intro _; rfl
    · exact h.non j
  · rw [e]; split
    · intro e; cases e
    · exact h.may j
  · rw [e]; split
    · decide
    · exact h.oid j
  · rw [e]; split
    · intro e; cases e
    · exact h.dirt j
  · rw [e]; split
    · intro e; cases e
    · exact h.stub j
  · rw [e, e]
    split
    · intro h1; exact absurd h1 (by decide)
    · split
      · intro h1 h2; rw [h2] at h1; exact absurd h1 (by decide)
      · exact h.one a b
end
end Go.Proofs.Ytekmgffjdheifaa
