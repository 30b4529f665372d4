/-
  Small laws on memory, for all walks of this seat: a slice that reads as a list of cells ('Sl'), a slice of the call's own ('Own'), a block known whole ('Row'); append, make, conversions. No condition: plain lemmas.
-/
import Derived.Test.YtoddklfblcfoiaaDoorRows
import Derived.WalkKit
import Derived.WalkSpells
import Derived.WalkLawsBesides
import Derived.Lib.Hide
import Derived.Laws.CopyOwn
import Derived.OneCell
import Derived.Laws.Tables
import Derived.Deep.AppendSrc
import Derived.Lib.AppendZerosOnto
import Derived.Lib.ConvBytes
import Derived.Lib.SlBytesConst
set_option linter.unusedVariables false
namespace Go.Proofs.YtoddklfblcfoiaaDoor
open Go.RowKit

structure ET (P : Program) (t e : TypeId) (z : Value) (size bytes : Nat) : Prop where
  und : P.underlying t = some (.slice e)
  info : (P.info? e).map (fun i => (i.zero, i.size, i.bytes)) = some (some z, size, bytes)
  cells : z.cells.size = size
  pos : 0 < size

theorem add_eq (b off j : Nat) : (⟨b, off, none⟩ : Addr).add j = ⟨b, off + j, none⟩ := by unfold Addr.add; split <;> simp_all

/-! ### blocks below -/
theorem below_grown {B b : Nat} {w0 w w' : World} (hb : Below B w0 w) (hg : w.grownBy w' (some b)) (h1 : B ≤ b) (h2 : B ≤ w.heap.size) : Below B w0 w' :=
  hb.grown hg h2 (fun k e => by cases e; exact h1)
theorem below_grown0 {B : Nat} {w0 w w' : World} (hb : Below B w0 w) (hg : w.grownBy w' none) (h2 : B ≤ w.heap.size) : Below B w0 w' :=
  hb.grown hg h2 (fun k e => by cases e)
theorem lt_of_cell {w : World} {b o : Nat} {v : Value} (h : w.cell? ⟨b, o, none⟩ = some v) : b < w.heap.size := World.block_lt_of_cell? w ⟨b, o, none⟩ h
theorem grown_below {w w' : World} (h : Below w.heap.size w w') (row : Option Nat) : w.grownBy w' row := ⟨h.os, h.tape, h.output, h.size, fun k hk _ => h.block k hk⟩
theorem below_of_grown0 {w w' : World} (h : w.grownBy w' none) : Below w.heap.size w w' := ⟨h.os, h.tape, h.output, h.size, fun k hk => h.block k hk (by simp)⟩

/-! ### a slice that is read -/
/-- the slice value v, of m elements (of 'size' cells each), reads as the cells xs -/
def Sl (w : World) (size : Nat) (v : Value) (m : Nat) (xs : List Value) : Prop :=
  xs.length = m * size ∧ ∃ a c, v = .slice a m c ∧ m ≤ c ∧ c ≤ maxLen ∧ (a = none → c = 0) ∧
    ∀ j u, xs[j]? = some u → ∃ b off, a = some ⟨b, off, none⟩ ∧ w.cell? ⟨b, off + j, none⟩ = some u
theorem Sl.below {w w' : World} {size m : Nat} {v : Value} {xs : List Value} (h : Sl w size v m xs) (hb : Below w.heap.size w w') : Sl w' size v m xs := by
  obtain ⟨hl, a, c, rfl, h1, h2, h3, h4⟩ := h
  refine ⟨hl, a, c, rfl, h1, h2, h3, fun j u hu => ?_⟩
  obtain ⟨b, off, ha, hc⟩ := h4 j u hu
  exact ⟨b, off, ha, (hb.cell (p := ⟨b, off + j, none⟩) (World.block_lt_of_cell? w _ hc)).trans hc⟩
theorem Sl.drew {w : World} {size m : Nat} {v : Value} {xs : List Value} (h : Sl w size v m xs) : Sl w.drew size v m xs := h.below (Below.refl _ _).drew
theorem Sl.nil (w : World) (size : Nat) : Sl w size (.slice none 0 0) 0 [] := ⟨by simp, none, 0, rfl, Nat.le_refl _, by decide, fun _ => rfl, fun j u hu => by simp at hu⟩
theorem Sl.form {w : World} {size m : Nat} {v : Value} {xs : List Value} (h : Sl w size v m xs) : ∃ a c, v = .slice a m c := by
  obtain ⟨_, a, c, rfl, _⟩ := h; exact ⟨a, c, rfl⟩
theorem Sl.cap {w : World} {a : Option Addr} {n m c s : Nat} {xs : List Value} (h : Sl w s (.slice a n c) m xs) : n ≤ c ∧ c ≤ 9223372036854775807 ∧ n = m ∧ xs.length = n * s := by
  obtain ⟨hl, a', c', he, h1, h2, h3, h4⟩ := h
  cases he
  exact ⟨h1, by simp [maxLen] at h2; omega, rfl, hl⟩
theorem Sl.at {w : World} {a : Option Addr} {n c s k : Nat} {xs : List Value} (h : Sl w s (.slice a n c) n xs) (hk : k < n * s) :
    ∃ b off u, a = some ⟨b, off, none⟩ ∧ xs[k]? = some u ∧ w.cell? ⟨b, off + k, none⟩ = some u := by
  obtain ⟨hl, a', c', he, h1, h2, h3, h4⟩ := h
  cases he
  obtain ⟨u, hu⟩ : ∃ u, xs[k]? = some u := ⟨xs[k]'(by omega), by simp [show k < xs.length by omega]⟩
  obtain ⟨b, off, ha, hc⟩ := h4 k u hu
  exact ⟨b, off, u, ha, hu, hc⟩
/-- a slice that is not empty: where it lies -/
theorem Sl.addr {w : World} {a : Option Addr} {n c s : Nat} {xs : List Value} (h : Sl w s (.slice a n c) n xs) (hn : 0 < n * s) : ∃ b off, a = some ⟨b, off, none⟩ ∧ b < w.heap.size ∧ ∀ j u, xs[j]? = some u → w.cell? ⟨b, off + j, none⟩ = some u := by
  obtain ⟨b, off, u, ha, hu, hc⟩ := h.at hn
  refine ⟨b, off, ha, lt_of_cell hc, fun j u hu => ?_⟩
  obtain ⟨hl, a', c', he, h1, h2, h3, h4⟩ := h
  cases he
  obtain ⟨b', off', ha', hc'⟩ := h4 j u hu
  rw [ha] at ha'; cases ha'
  exact hc'
/-- the front of a slice -/
theorem Sl.front {w : World} {a : Option Addr} {n c m s : Nat} {xs : List Value} (h : Sl w s (.slice a n c) n xs) (hm : m ≤ n) : Sl w s (.slice a m c) m (xs.take (m * s)) := by
  obtain ⟨hl, a', c', he, h1, h2, h3, h4⟩ := h
  cases he
  have : m * s ≤ n * s := Nat.mul_le_mul_right _ hm
  refine ⟨by simp; omega, a, c, rfl, by omega, h2, h3, fun j u hu => h4 j u ?_⟩
  rw [List.getElem?_take] at hu
  split at hu
  · exact hu
  · cases hu
/-- the rest of a slice, of one cell an element -/
theorem Sl.rest {w : World} {b off n c m : Nat} {xs : List Value} (h : Sl w 1 (.slice (some ⟨b, off, none⟩) n c) n xs) (hm : m ≤ n) (hc : m < c) : Sl w 1 (.slice (some ⟨b, off + m, none⟩) (n - m) (c - m)) (n - m) (xs.drop m) := by
  obtain ⟨hl, a', c', he, h1, h2, h3, h4⟩ := h
  cases he
  refine ⟨by simp; omega, _, _, rfl, by omega, by omega, by simp, fun j u hu => ?_⟩
  rw [List.getElem?_drop] at hu
  obtain ⟨b', off', ha', hc'⟩ := h4 _ u hu
  cases ha'
  exact ⟨b, off + m, rfl, by rw [Nat.add_assoc]; exact hc'⟩

/-! ### a slice of the call's own -/
structure OwnB (w : World) (base size : Nat) (g off n cap : Nat) (xs : List Value) : Prop where
  base : base ≤ g
  lt : g < w.heap.size
  nc : n ≤ cap
  max : cap ≤ maxLen
  there : ∀ j, j < cap * size → (w.cell? ⟨g, off + j, none⟩).isSome = true ∧ w.frozen? ⟨g, off + j, none⟩ = false
  vals : ∀ j u, xs[j]? = some u → w.cell? ⟨g, off + j, none⟩ = some u
/-- v, of n elements, is nil or lies in a block from 'base' on; its cells xs may be written, and so may its room -/
def Own (w : World) (base size : Nat) (v : Value) (n : Nat) (xs : List Value) : Prop :=
  xs.length = n * size ∧ ((v = .slice none 0 0 ∧ n = 0) ∨ ∃ g off cap, v = .slice (some ⟨g, off, none⟩) n cap ∧ OwnB w base size g off n cap xs)
theorem OwnB.kept {w w' : World} {base size g off n cap : Nat} {xs : List Value} (h : OwnB w base size g off n cap xs) {row : Option Nat} (hg : w.grownBy w' row) (hne : some g ≠ row) : OwnB w' base size g off n cap xs := by
  have hc : ∀ j, (w.cell? ⟨g, off + j, none⟩).isSome = true → w'.cell? ⟨g, off + j, none⟩ = w.cell? ⟨g, off + j, none⟩ ∧ w'.frozen? ⟨g, off + j, none⟩ = w.frozen? ⟨g, off + j, none⟩ := by
    intro j hj
    obtain ⟨u, hu⟩ := Option.isSome_iff_exists.1 hj
    have hb := hg.block g (lt_of_cell hu) hne
    exact ⟨World.cell?_of_block (a := ⟨g, off + j, none⟩) hb, World.frozen?_of_block (a := ⟨g, off + j, none⟩) hb⟩
  refine ⟨h.base, Nat.lt_of_lt_of_le h.lt hg.size, h.nc, h.max, fun j hj => ?_, fun j u hu => ?_⟩
  · have ht := h.there j hj
    obtain ⟨h1, h2⟩ := hc j ht.1
    rw [h1, h2]; exact ht
  · have hv := h.vals j u hu
    rw [(hc j (by rw [hv]; rfl)).1]; exact hv
theorem Own.nil (w : World) (base size : Nat) : Own w base size (.slice none 0 0) 0 [] := ⟨by simp, .inl ⟨rfl, rfl⟩⟩
theorem Own.lt {w : World} {base size n : Nat} {v : Value} {xs : List Value} (h : Own w base size v n xs) : ∀ k, v.ownBlock = some k → base ≤ k := by
  intro k hk
  rcases h.2 with ⟨rfl, _⟩ | ⟨g, off, cap, rfl, hb⟩
  · simp [Value.ownBlock] at hk
  · simp [Value.ownBlock] at hk
    subst hk
    exact hb.base
theorem Own.lives {w : World} {base size n : Nat} {v : Value} {xs : List Value} (h : Own w base size v n xs) : ∀ k, v.ownBlock = some k → k < w.heap.size := by
  intro k hk
  rcases h.2 with ⟨rfl, _⟩ | ⟨g, off, cap, rfl, hb⟩
  · simp [Value.ownBlock] at hk
  · simp [Value.ownBlock] at hk
    subst hk
    exact hb.lt
theorem Own.kept {w w' : World} {base size n : Nat} {v : Value} {xs : List Value} (h : Own w base size v n xs) {row : Option Nat} (hg : w.grownBy w' row) (hne : v.ownBlock = none ∨ v.ownBlock ≠ row) : Own w' base size v n xs := by
  refine ⟨h.1, ?_⟩
  rcases h.2 with hn | ⟨g, off, cap, rfl, hb⟩
  · exact .inl hn
  · exact .inr ⟨g, off, cap, rfl, hb.kept hg (by simpa [Value.ownBlock] using hne)⟩
theorem Own.below {w w' : World} {base size n : Nat} {v : Value} {xs : List Value} (h : Own w base size v n xs) (hb : Below w.heap.size w w') : Own w' base size v n xs :=
  h.kept (grown_below hb none) (by cases hv : v.ownBlock <;> simp)
theorem Own.alloc {w : World} {base size n : Nat} {v : Value} {xs : List Value} (h : Own w base size v n xs) (o : Obj) : Own (w.alloc o) base size v n xs :=
  h.below ((Below.refl _ _).alloc (Nat.le_refl _) o)
theorem Own.drew {w : World} {base size n : Nat} {v : Value} {xs : List Value} (h : Own w base size v n xs) : Own w.drew base size v n xs := h.below (Below.refl _ _).drew
theorem Own.mono {w : World} {base base' size n : Nat} {v : Value} {xs : List Value} (h : Own w base size v n xs) (hb : base' ≤ base) : Own w base' size v n xs := by
  refine ⟨h.1, ?_⟩
  rcases h.2 with hn | ⟨g, off, cap, rfl, h1, h1', h2, h3, h4, h5⟩
  · exact .inl hn
  · exact .inr ⟨g, off, cap, rfl, by omega, h1', h2, h3, h4, h5⟩
theorem Own.sl {w : World} {base size n : Nat} {v : Value} {xs : List Value} (h : Own w base size v n xs) : Sl w size v n xs := by
  refine ⟨h.1, ?_⟩
  rcases h.2 with ⟨rfl, rfl⟩ | ⟨g, off, cap, rfl, hb⟩
  · exact ⟨none, 0, rfl, Nat.le_refl _, by decide, fun _ => rfl, fun j u hu => by have := h.1; simp at this; subst this; simp at hu⟩
  · exact ⟨_, cap, rfl, hb.nc, hb.max, by simp, fun j u hu => ⟨g, off, rfl, hb.vals j u hu⟩⟩
theorem Own.form {w : World} {base size n : Nat} {v : Value} {xs : List Value} (h : Own w base size v n xs) : ∃ a c, v = .slice a n c := h.sl.form
/-- an owned slice that holds something: where it lies -/
theorem Own.open {w : World} {base size n : Nat} {v : Value} {xs : List Value} (h : Own w base size v n xs) (hn : 0 < n) (hs : 0 < size) :
    ∃ g off cap, v = .slice (some ⟨g, off, none⟩) n cap ∧ base ≤ g ∧ g < w.heap.size ∧ n ≤ cap ∧ cap ≤ 9223372036854775807 ∧ xs.length = n * size := by
  rcases h.2 with ⟨_, rfl⟩ | ⟨g, off, cap, rfl, hb⟩
  · omega
  · exact ⟨g, off, cap, rfl, hb.base, hb.lt, hb.nc, by have := hb.max; simp [maxLen] at this; omega, h.1⟩
theorem Own.get {w : World} {base size n m g off cap : Nat} {xs : List Value} (h : Own w base size (.slice (some ⟨g, off, none⟩) n cap) m xs) (j : Nat) (hj : j < xs.length) : w.cell? ⟨g, off + j, none⟩ = xs[j]? := by
  rcases h.2 with ⟨he, _⟩ | ⟨g', off', cap', he, hb⟩
  · cases he
  · cases he
    rw [List.getElem?_eq_getElem hj]
    exact hb.vals j _ (List.getElem?_eq_getElem hj)
theorem Own.free {w : World} {base size n m g off cap : Nat} {xs : List Value} (h : Own w base size (.slice (some ⟨g, off, none⟩) n cap) m xs) (j : Nat) (hj : j < xs.length) : w.frozen? ⟨g, off + j, none⟩ = false := by
  have hl := h.1
  rcases h.2 with ⟨he, _⟩ | ⟨g', off', cap', he, hb⟩
  · cases he
  · cases he
    refine (hb.there j ?_).2
    have : n * size ≤ cap * size := Nat.mul_le_mul_right _ hb.nc
    omega
theorem cell_setCell_same {w : World} {b o : Nat} {u x : Value} (h : w.cell? ⟨b, o, none⟩ = some x) : (w.setCell ⟨b, o, none⟩ u).cell? ⟨b, o, none⟩ = some u := by
  simp only [World.cell?, World.setCell, Array.getElem?_modify] at h ⊢
  cases hh : w.heap[b]? with
  | none => rw [hh] at h; cases h
  | some ob =>
    rw [hh] at h
    cases ob <;> simp at h
    rename_i c e f
    have := (Array.getElem?_eq_some_iff.1 h).1
    simp [this]
theorem cell_setCell_ne {w : World} {b o : Nat} {a : Addr} {u : Value} (h : ¬ (a.block = b ∧ a.off = o)) : (w.setCell ⟨b, o, none⟩ u).cell? a = w.cell? a := by
  simp only [World.cell?, World.setCell, Array.getElem?_modify]
  by_cases hb : b = a.block
  · subst hb
    simp only [if_true]
    cases hh : w.heap[a.block]? with
    | none => rfl
    | some ob =>
      cases ob <;> simp
      rename_i c e f
      split
      · rfl
      · rw [Array.getElem?_setIfInBounds_ne]
        intro e; exact h ⟨rfl, e.symm⟩
  · rw [if_neg hb]
theorem frozen_setCell (w : World) (p a : Addr) (u : Value) : (w.setCell p u).frozen? a = w.frozen? a := by
  simp only [World.frozen?, World.setCell, Array.getElem?_modify]
  by_cases hb : p.block = a.block
  · rw [if_pos hb]
    cases hh : w.heap[a.block]? with
    | none => rfl
    | some ob => cases ob <;> simp
  · rw [if_neg hb]
theorem OwnB.set {w : World} {base size g off n cap : Nat} {xs : List Value} (h : OwnB w base size g off n cap xs) (j : Nat) (u : Value) : OwnB (w.setCell ⟨g, off + j, none⟩ u) base size g off n cap (xs.set j u) := by
  refine ⟨h.base, by simpa [World.setCell] using h.lt, h.nc, h.max, fun i hi => ?_, fun i x hx => ?_⟩
  · have ht := h.there i hi
    rw [frozen_setCell]
    refine ⟨?_, ht.2⟩
    by_cases e : i = j
    · subst e
      obtain ⟨y, hy⟩ := Option.isSome_iff_exists.1 ht.1
      rw [cell_setCell_same hy]; rfl
    · rw [cell_setCell_ne (by simp; omega)]; exact ht.1
  · rw [List.getElem?_set] at hx
    split at hx
    · rename_i e
      subst e
      split at hx
      · cases hx
        rename_i hl
        exact cell_setCell_same (h.vals j _ (List.getElem?_eq_getElem hl))
      · cases hx
    · rename_i e
      rw [cell_setCell_ne (by simp; omega)]
      exact h.vals i x hx
theorem Own.set {w : World} {base size n m g off cap : Nat} {xs : List Value} (h : Own w base size (.slice (some ⟨g, off, none⟩) n cap) m xs) (j : Nat) (u : Value) :
    Own (w.setCell ⟨g, off + j, none⟩ u) base size (.slice (some ⟨g, off, none⟩) n cap) m (xs.set j u) := by
  refine ⟨by rw [List.length_set]; exact h.1, ?_⟩
  rcases h.2 with ⟨he, _⟩ | ⟨g', off', cap', he, hb⟩
  · cases he
  · cases he
    exact .inr ⟨_, _, _, rfl, hb.set j u⟩
theorem grown_setCell (w : World) (b o : Nat) (u : Value) : w.grownBy (w.setCell ⟨b, o, none⟩ u) (some b) :=
  ⟨rfl, rfl, rfl, by simp [World.setCell], fun k _ hk => Below.heap_setCell _ _ _ _ (by intro e; exact hk (by simp [e]))⟩
theorem Own.other {w : World} {base size n m g off cap : Nat} {xs : List Value} (h : Own w base size (.slice (some ⟨g, off, none⟩) n cap) m xs) {b o : Nat} (ha : g ≠ b) (u : Value) : Own (w.setCell ⟨b, o, none⟩ u) base size (.slice (some ⟨g, off, none⟩) n cap) m xs :=
  h.kept (grown_setCell w b o u) (by simp [Value.ownBlock, ha])
/-- with less room -/
theorem Own.shrink {w : World} {base size n g off cap : Nat} {xs : List Value} (h : Own w base size (.slice (some ⟨g, off, none⟩) n cap) n xs) {c : Nat} (h1 : n ≤ c) (h2 : c ≤ cap) : Own w base size (.slice (some ⟨g, off, none⟩) n c) n xs := by
  refine ⟨h.1, ?_⟩
  rcases h.2 with ⟨he, _⟩ | ⟨g', off', cap', he, hb⟩
  · cases he
  · cases he
    exact .inr ⟨_, _, _, rfl, hb.base, hb.lt, h1, by have := hb.max; omega, fun j hj => hb.there j (Nat.lt_of_lt_of_le hj (Nat.mul_le_mul_right _ h2)), hb.vals⟩
theorem Own.far {w : World} {base size n : Nat} {v : Value} {xs : List Value} (h : Own w base size v n xs) {b o : Nat} (hb : b < base) (u : Value) : Own (w.setCell ⟨b, o, none⟩ u) base size v n xs :=
  h.kept (grown_setCell w b o u) (by
    cases hv : v.ownBlock with
    | none => exact .inl rfl
    | some g => exact .inr (by have := h.lt g hv; simp; omega))
/-- the front of an owned slice -/
theorem Own.front {w : World} {base size n m g off cap : Nat} {xs : List Value} (h : Own w base size (.slice (some ⟨g, off, none⟩) n cap) n xs) (hm : m ≤ n) : Own w base size (.slice (some ⟨g, off, none⟩) m cap) m (xs.take (m * size)) := by
  have hl := h.1
  have : m * size ≤ n * size := Nat.mul_le_mul_right _ hm
  refine ⟨by simp; omega, ?_⟩
  rcases h.2 with ⟨he, _⟩ | ⟨g', off', cap', he, hb⟩
  · cases he
  · cases he
    refine .inr ⟨_, _, _, rfl, hb.base, hb.lt, by have := hb.nc; omega, hb.max, hb.there, fun j u hu => hb.vals j u ?_⟩
    rw [List.getElem?_take] at hu
    split at hu
    · exact hu
    · cases hu
/-- an owned slice with less room -/
theorem Own.recap {w : World} {base size n g off cap c : Nat} {xs : List Value} (h : Own w base size (.slice (some ⟨g, off, none⟩) n cap) n xs) (h1 : n ≤ c) (h2 : c ≤ cap) : Own w base size (.slice (some ⟨g, off, none⟩) n c) n xs := by
  refine ⟨h.1, ?_⟩
  rcases h.2 with ⟨he, _⟩ | ⟨g', off', cap', he, hb⟩
  · cases he
  · cases he
    have : c * size ≤ cap * size := Nat.mul_le_mul_right _ h2
    exact .inr ⟨_, _, _, rfl, hb.base, hb.lt, h1, by have := hb.max; omega, fun j hj => hb.there j (by omega), hb.vals⟩
theorem Own.ofRow {w : World} {base e size n : Nat} {v : Value} {xs : List Value} (h : w.ownsRow base e size v n xs) : Own w base size v n xs := by
  refine ⟨h.1, ?_⟩
  rcases h.2 with hn | ⟨g, cap, cur, rfl, hb, hg, hnc, hcm, hcs, ht⟩
  · exact .inl hn
  · refine .inr ⟨g, 0, cap, rfl, hb, (Array.getElem?_eq_some_iff.1 hg).1, hnc, hcm, fun j hj => ?_, fun j u hu => ?_⟩
    · rw [Nat.zero_add, cell_of_row _ _ _ _ _ _ hg, frozen_of_row _ _ _ _ _ hg]
      simp [show j < cur.size by omega]
    · have := World.ownsRow.cells (g := g) h rfl j u hu
      rwa [add_eq] at this
/-- a block laid whole, with some of its cells marked behind its end: owned -/
theorem Own.block {w : World} {base e n cap : Nat} {cur : Array Value} {fr : Nat × Nat} {g : Nat} {xs : List Value} (size : Nat) (hg : w.heap[g]? = some (.cells cur e fr)) (hb : base ≤ g) (hl : xs.length = n * size) (hfr : ∀ j, j < cap * size → (decide (fr.1 ≤ j) && decide (j < fr.2)) = false)
    (hc : cap * size ≤ cur.size) (hn : n ≤ cap) (hm : cap ≤ maxLen) (hx : ∀ (j : Nat) (u : Value), xs[j]? = some u → cur[j]? = some u) : Own w base size (.slice (some ⟨g, 0, none⟩) n cap) n xs := by
  refine ⟨hl, .inr ⟨g, 0, cap, rfl, hb, (Array.getElem?_eq_some_iff.1 hg).1, hn, hm, fun j hj => ?_, fun j u hu => ?_⟩⟩
  · rw [Nat.zero_add, cell_of_row _ _ _ _ _ _ hg]
    refine ⟨by simp [show j < cur.size by omega], ?_⟩
    have := hfr j hj
    unfold World.frozen?
    simp only [hg]
    exact this
  · rw [Nat.zero_add, cell_of_row _ _ _ _ _ _ hg]; exact hx j u hu
theorem own_new (w : World) (l : List Value) (e : TypeId) (size n : Nat) {base : Nat} (hb : base ≤ w.heap.size) (hl : l.length = n * size) (hm : n ≤ maxLen) : Own (w.alloc (.cells l.toArray e)) base size (.slice (some ⟨w.heap.size, 0, none⟩) n n) n l :=
  Own.block size (heap_alloc_new w _) hb hl (fun j _ => by simp) (by simp; omega) (Nat.le_refl _) hm (fun j u hu => by simpa using hu)
theorem Sl.litF (w : World) (l : List Value) (e : TypeId) (fr : Nat × Nat) (n : Nat) (hn : l.length = n) (hm : n ≤ maxLen) : Sl (w.alloc (.cells l.toArray e fr)) 1 (.slice (some ⟨w.heap.size, 0, none⟩) n n) n l :=
  ⟨by omega, _, n, rfl, Nat.le_refl _, hm, by simp, fun j u hu => ⟨_, 0, rfl, by rw [cell_of_row _ _ _ _ _ _ (heap_alloc_new w _)]; simpa using hu⟩⟩
theorem Sl.lit (w : World) (l : List Value) (e : TypeId) (n : Nat) (hn : l.length = n) (hm : n ≤ maxLen) : Sl (w.alloc (.cells l.toArray e)) 1 (.slice (some ⟨w.heap.size, 0, none⟩) n n) n l := Sl.litF w l e (0, 0) n hn hm
theorem Sl.one (w : World) (v : Value) (e : TypeId) : Sl (w.alloc (.cells #[v] e)) 1 (.slice (some ⟨w.heap.size, 0, none⟩) 1 1) 1 [v] := Sl.lit w [v] e 1 rfl (show 1 ≤ maxLen by decide)
theorem Sl.litS (w : World) (l : List Value) (e : TypeId) (size n : Nat) (hn : l.length = n * size) (hm : n ≤ maxLen) : Sl (w.alloc (.cells l.toArray e)) size (.slice (some ⟨w.heap.size, 0, none⟩) n n) n l :=
  (own_new w l e size n (Nat.le_refl _) hn hm).sl
theorem below_own {B : Nat} {base size n : Nat} {v : Value} {xs : List Value} {w0 w w' : World} (hb : Below B w0 w) (ho : Own w base size v n xs) (hg : w.grownBy w' v.ownBlock) (h1 : B ≤ base) (h2 : B ≤ w.heap.size) : Below B w0 w' :=
  hb.grown hg h2 (fun k e => Nat.le_trans h1 (ho.lt k e))

/-! ### append -/
theorem setCells_own (g off : Nat) (base size n cap : Nat) : ∀ (news : List Value) (k : Nat) (w : World) (xs : List Value), OwnB w base size g off n cap xs → k + news.length ≤ cap * size → k = xs.length → (OwnB (w.setCells g (off + k) news) base size g off n cap (xs ++ news)) ∧ w.grownBy (w.setCells g (off + k) news) (some g)
  | [], k, w, xs, h, _, _ => ⟨by rw [List.append_nil]; exact h, ⟨rfl, rfl, rfl, Nat.le_refl _, fun _ _ _ => rfl⟩⟩
  | v :: r, k, w, xs, h, hk, hx => by
    simp only [List.length_cons] at hk
    have h1 : OwnB (w.setCell ⟨g, off + k, none⟩ v) base size g off n cap (xs ++ [v]) := by
      refine ⟨h.base, by simpa [World.setCell] using h.lt, h.nc, h.max, fun i hi => ?_, fun i x hxi => ?_⟩
      · have ht := h.there i hi
        rw [frozen_setCell]
        refine ⟨?_, ht.2⟩
        by_cases e : i = k
        · subst e
          obtain ⟨y, hy⟩ := Option.isSome_iff_exists.1 ht.1
          rw [cell_setCell_same hy]; rfl
        · rw [cell_setCell_ne (by simp; omega)]; exact ht.1
      · by_cases e : i = k
        · subst e
          obtain ⟨y, hy⟩ := Option.isSome_iff_exists.1 (h.there i (by omega)).1
          rw [cell_setCell_same hy]
          rw [hx] at hxi
          simpa using hxi
        · rw [cell_setCell_ne (by simp; omega)]
          refine h.vals i x ?_
          have hi : i < (xs ++ [v]).length := (List.getElem?_eq_some_iff.1 hxi).1
          simp at hi
          rwa [List.getElem?_append_left (by omega)] at hxi
    have h2 := setCells_own g off base size n cap r (k + 1) (w.setCell ⟨g, off + k, none⟩ v) (xs ++ [v]) h1 (by omega) (by simp; omega)
    rw [World.setCells]
    rw [show off + k + 1 = off + (k + 1) by omega]
    refine ⟨by simpa using h2.1, ?_⟩
    have h3 := h2.2
    have h4 := grown_setCell w g (off + k) v
    exact ⟨h3.os.trans h4.os, h3.tape.trans h4.tape, h3.output.trans h4.output, Nat.le_trans h4.size h3.size, fun i hi hne => (h3.block i (Nat.lt_of_lt_of_le hi h4.size) hne).trans (h4.block i hi hne)⟩
theorem OwnB.len {w : World} {base size g off n m cap : Nat} {xs : List Value} (h : OwnB w base size g off n cap xs) (hm : m ≤ cap) : OwnB w base size g off m cap xs := ⟨h.base, h.lt, hm, h.max, h.there, h.vals⟩
theorem Sl.src {P : Program} {w : World} {size m : Nat} {v : Value} {xs : List Value} {t e : TypeId} (h : Sl w size v m xs) (ht : P.underlying t = some (.slice e)) (h1 : ∀ u ∈ xs, u.oneCell' = true) : Src P size t v m xs w := by
  obtain ⟨hl, a, c, rfl, h2, h3, h4, h5⟩ := h
  cases a with
  | none =>
    obtain rfl := h4 rfl
    obtain rfl : m = 0 := by omega
    have : xs = [] := List.eq_nil_of_length_eq_zero (by simpa using hl)
    subst this
    exact Src.ofNil w ht 0
  | some a =>
    refine Src.ofSlice w ht a m c xs hl (fun j u hu => ?_) h1
    obtain ⟨b, off, ha, hc⟩ := h5 j u hu
    cases ha
    rw [add_eq]; exact hc
theorem run_append_OwnX {P : Program} (w : World) {t tx ty e : TypeId} {z : Value} {size bytes : Nat} (hT : ET P t e z size bytes) {base : Nat} {v : Value} {n : Nat} {xs : List Value} (hown : Own w base size v n xs)
    {vx : Value} {m : Nat} {news : List Value} (hs : Src P size tx vx m news w) (hbytes : (n + m) * bytes ≤ 140737488355328) (h63 : n + m ≤ maxLen) (hbase : base ≤ w.heap.size) :
    ∃ v' w', (Builtin.append_ #[t, tx] ty #[v, vx]).run P w = .ok v' w' ∧ Own w' base size v' (n + m) (xs ++ news) ∧ w.grownBy w' v.ownBlock ∧ (∀ g, v'.ownBlock = some g → v.ownBlock = some g ∨ w.heap.size ≤ g) := by
  obtain ⟨i, hi, hz0, hz1, hz2⟩ := info_parts hT.info
  subst hz1; subst hz2
  have h63' : n + m ≤ 9223372036854775807 := by simpa [maxLen] using h63
  have hlen : (xs ++ news).length = (n + m) * i.size := by rw [List.length_append, hown.1, hs.newsLen, Nat.add_mul]
  have grown : ∀ (old : Nat) (row : Option Nat),
      Own (w.drew.alloc (.cells ((xs ++ news).toArray ++ Builtin.zeroCells z.cells (grownCap w (n + m) old e - (n + m))) e)) base i.size (.slice (some ⟨w.heap.size, 0, none⟩) (n + m) (grownCap w (n + m) old e)) (n + m) (xs ++ news) ∧
      w.grownBy (w.drew.alloc (.cells ((xs ++ news).toArray ++ Builtin.zeroCells z.cells (grownCap w (n + m) old e - (n + m))) e)) row := by
    intro old row
    have hge := grownCap_ge w (n + m) old e
    have hcm : grownCap w (n + m) old e ≤ maxLen := grownCap_le_maxLen w (n + m) old e h63
    refine ⟨Own.block i.size (heap_alloc_new w.drew _) hbase hlen (fun j _ => by simp) ?_ hge hcm ?_, ⟨rfl, rfl, rfl, by simp, fun k hk _ => Below.heap_alloc w.drew _ k hk⟩⟩
    · rw [Array.size_append, List.size_toArray, hlen, size_zeroCells, hT.cells, ← Nat.add_mul]
      exact Nat.mul_le_mul_right _ (by omega)
    · intro j u hu
      have hj := (List.getElem?_eq_some_iff.1 hu).1
      rw [Array.getElem?_append_left (by simpa using hj)]
      simpa using hu
  rcases hown.2 with ⟨rfl, rfl⟩ | ⟨g, off, cap, rfl, hb⟩
  · have hx : xs = [] := List.eq_nil_of_length_eq_zero (by simpa using hown.1)
    subst hx
    by_cases hm : m = 0
    · subst hm
      have hn : news = [] := List.eq_nil_of_length_eq_zero (by simpa using hs.newsLen)
      subst hn
      refine ⟨.slice none 0 0, w, ?_, Own.nil w base i.size, ⟨rfl, rfl, rfl, Nat.le_refl _, fun _ _ _ => rfl⟩, fun g hg => by simp [Value.ownBlock] at hg⟩
      rcases hs.kind with ⟨e', hk⟩ | hk <;> simp [Builtin.append_, run_underlying hT.und, run_underlying hk, sizeOf, typeInfo, hi, hs.len, hs.cells]
    · have hr := run_append_grow_src (P := P) w t tx ty e i z hT.und hi hz0 none 0 0 [] (by simp [Builtin.firstCells]) vx m news hs (by omega) (by omega) (growslice_fits (by omega) hbytes)
      have hgr := grown 0 (Value.ownBlock (.slice none 0 0))
      simp only [Nat.zero_add, List.nil_append] at hr hgr ⊢
      exact ⟨_, _, hr, hgr.1, hgr.2, fun g hg => by simp [Value.ownBlock] at hg; exact .inr (by omega)⟩
  · by_cases hroom : n + m ≤ cap
    · have hle : (n + m) * i.size ≤ cap * i.size := Nat.mul_le_mul_right _ hroom
      have hnl := hs.newsLen
      rw [Nat.add_mul] at hle
      have hr := run_append_room_src (P := P) w t tx ty e i hT.und hi g off n cap vx m news hs hroom
        (fun j hj => by have := (hb.there (n * i.size + j) (by omega)).1; rwa [← Nat.add_assoc] at this)
        (fun j hj => by have := (hb.there (n * i.size + j) (by omega)).2; rwa [← Nat.add_assoc] at this)
      have hsc := setCells_own g off base i.size n cap news (n * i.size) w xs hb (by omega) hown.1.symm
      exact ⟨_, _, hr, ⟨hlen, .inr ⟨g, off, cap, rfl, hsc.1.len hroom⟩⟩, by simpa [Value.ownBlock] using hsc.2, fun g hg => .inl (by simpa [Value.ownBlock] using hg)⟩
    · have hold := run_firstCells_some (P := P) w.drew i.size n ⟨g, off, none⟩ n cap xs hown.1 (fun j u hu => by rw [add_eq]; exact hb.vals j u hu)
      have hr := run_append_grow_src (P := P) w t tx ty e i z hT.und hi hz0 (some ⟨g, off, none⟩) n cap xs hold vx m news hs (by omega) (by omega) (growslice_fits (by omega) hbytes)
      have hgr := grown cap (Value.ownBlock (.slice (some ⟨g, off, none⟩) n cap))
      exact ⟨_, _, hr, hgr.1, hgr.2, fun g hg => by simp [Value.ownBlock] at hg; exact .inr (by omega)⟩
theorem run_append_Own {P : Program} (w : World) {t tx ty e : TypeId} {z : Value} {size bytes : Nat} (hT : ET P t e z size bytes) {base : Nat} {v : Value} {n : Nat} {xs : List Value} (hown : Own w base size v n xs)
    {vx : Value} {m : Nat} {news : List Value} (hs : Src P size tx vx m news w) (hbytes : (n + m) * bytes ≤ 140737488355328) (h63 : n + m ≤ maxLen) (hbase : base ≤ w.heap.size) :
    ∃ v' w', (Builtin.append_ #[t, tx] ty #[v, vx]).run P w = .ok v' w' ∧ Own w' base size v' (n + m) (xs ++ news) ∧ w.grownBy w' v.ownBlock := by
  obtain ⟨v', w', h1, h2, h3, _⟩ := run_append_OwnX (P := P) w (ty := ty) hT hown hs hbytes h63 hbase
  exact ⟨v', w', h1, h2, h3⟩
/-- an operation whose guard is known to hold is walked like one without -/
theorem wpList_unguard {P : Program} {w : World} {ops : Array Oper} {rest : List Oper} {o : Oper} {a : Act} {Q : Exit → Act → World → Prop}
    (hw : Region.wanted o (yielded ops a.tmps) = true) (h : wpList P ops Q ({ o with guard := none } :: rest) a w) : wpList P ops Q (o :: rest) a w := by
  unfold wpList at h ⊢
  rw [if_pos (by simp [Region.wanted])] at h
  rw [if_pos hw]
  exact h
theorem wpL_appendS {P : Program} {w : World} {ops : Array Oper} {rest : List Oper} {o : Oper} {a : Act} {Q : Exit → Act → World → Prop} {t tx e : TypeId} {z : Value} {size bytes : Nat} (hT : ET P t e z size bytes)
    (hgd : o.guard = none) (s x : Operand) (ho : o.op = .call { callee := .builtin .append, args := #[s, x], argTypes := #[t, tx] })
    {base : Nat} {v : Value} {n : Nat} {xs : List Value} (hown : Own w base size v n xs) (hs : a.eval s = v)
    {vx : Value} {m : Nat} {news : List Value} (hsrc : Src P size tx vx m news w) (hx : a.eval x = vx)
    (hbytes : (n + m) * bytes ≤ 140737488355328) (h63 : n + m ≤ maxLen) (hbase : base ≤ w.heap.size)
    (h : ∀ v' w', Own w' base size v' (n + m) (xs ++ news) → w.grownBy w' v.ownBlock → wpList P ops Q rest (a.put o.dst v') w') : wpList P ops Q (o :: rest) a w := by
  obtain ⟨v', w', hr, h2, h3⟩ := run_append_Own (P := P) w (ty := o.type) hT hown hsrc hbytes h63 hbase
  exact Lib.wpList_append_run w hgd s x t tx ho _ _ hs hx _ _ hr (h v' w' h2 h3)
theorem wpL_append {P : Program} {w : World} {ops : Array Oper} {rest : List Oper} {o : Oper} {a : Act} {Q : Exit → Act → World → Prop} {t e : TypeId} {z : Value} {size bytes : Nat} (hT : ET P t e z size bytes)
    (hgd : o.guard = none) (s x : Operand) (ho : o.op = .call { callee := .builtin .append, args := #[s, x], argTypes := #[t, t] })
    {base : Nat} {v : Value} {n : Nat} {xs : List Value} (hown : Own w base size v n xs) (hs : a.eval s = v)
    {vx : Value} {m : Nat} {news : List Value} (hsrc : Sl w size vx m news) (hx : a.eval x = vx) (h1 : ∀ u ∈ news, u.oneCell' = true)
    (hbytes : (n + m) * bytes ≤ 140737488355328) (h63 : n + m ≤ maxLen) (hbase : base ≤ w.heap.size)
    (h : ∀ v' w', Own w' base size v' (n + m) (xs ++ news) → w.grownBy w' v.ownBlock → wpList P ops Q rest (a.put o.dst v') w') : wpList P ops Q (o :: rest) a w :=
  wpL_appendS hT hgd s x ho hown hs (hsrc.src hT.und h1) hx hbytes h63 hbase h
/-- 'append([]T{}, x...)': a copy of its own -/
theorem wpL_append0 {P : Program} {w : World} {ops : Array Oper} {rest : List Oper} {o : Oper} {a : Act} {Q : Exit → Act → World → Prop} {t e : TypeId} {z : Value} {size bytes : Nat} (hT : ET P t e z size bytes)
    (hgd : o.guard = none) (s x : Operand) (ho : o.op = .call { callee := .builtin .append, args := #[s, x], argTypes := #[t, t] })
    (base : Nat) (hs : a.eval s = .slice (some ⟨w.heap.size, 0, none⟩) 0 0)
    {vx : Value} {m : Nat} {news : List Value} (hsrc : Sl w size vx m news) (hx : a.eval x = vx) (h1 : ∀ u ∈ news, u.oneCell' = true)
    (hbytes : m * bytes ≤ 140737488355328) (h63 : m ≤ maxLen) (hbase : base ≤ w.heap.size)
    (h : ∀ v' w', Own w' base size v' m news → Below w.heap.size w w' → wpList P ops Q rest (a.put o.dst v') w') : wpList P ops Q (o :: rest) a (w.alloc (.cells #[] e)) := by
  refine wpL_append (n := 0) (xs := []) hT hgd s x ho (own_new w [] e size 0 hbase (by simp) (by decide)) hs (hsrc.below ((Below.refl _ _).alloc (Nat.le_refl _) _)) hx h1 (by rw [Nat.zero_add]; exact hbytes) (by omega) (by simp; omega) ?_
  intro v' w' h1 h2
  refine h v' w' (by simpa using h1) ?_
  exact ((Below.refl w.heap.size w).alloc (Nat.le_refl _) _).grown h2 (by simp) (fun k e => by simp [Value.ownBlock] at e; omega)
/-- 'append(nil, x...)' -/
theorem wpL_appendN {P : Program} {w : World} {ops : Array Oper} {rest : List Oper} {o : Oper} {a : Act} {Q : Exit → Act → World → Prop} {t e : TypeId} {z : Value} {size bytes : Nat} (hT : ET P t e z size bytes)
    (hgd : o.guard = none) (s x : Operand) (ho : o.op = .call { callee := .builtin .append, args := #[s, x], argTypes := #[t, t] })
    (base : Nat) (hs : a.eval s = .slice none 0 0)
    {vx : Value} {m : Nat} {news : List Value} (hsrc : Sl w size vx m news) (hx : a.eval x = vx) (h1 : ∀ u ∈ news, u.oneCell' = true)
    (hbytes : m * bytes ≤ 140737488355328) (h63 : m ≤ maxLen) (hbase : base ≤ w.heap.size)
    (h : ∀ v' w', Own w' base size v' m news → Below w.heap.size w w' → wpList P ops Q rest (a.put o.dst v') w') : wpList P ops Q (o :: rest) a w := by
  refine wpL_append (n := 0) (xs := []) hT hgd s x ho (Own.nil w base size) hs hsrc hx h1 (by rw [Nat.zero_add]; exact hbytes) (by omega) hbase ?_
  intro v' w' h1 h2
  exact h v' w' (by simpa using h1) (below_of_grown0 (by simpa [Value.ownBlock] using h2))

/-! ### make -/
theorem wpL_make {P : Program} {w : World} {ops : Array Oper} {rest : List Oper} {o : Oper} {a : Act} {Q : Exit → Act → World → Prop} {t e : TypeId} {z : Value} {bytes : Nat} (hT : ET P t e z 1 bytes) (hz : z.cells = #[z])
    (hgd : o.guard = none) (l c : Operand) (ho : o.op = .makeSlice t l c) (n : Nat) (base : Nat) {kl kc : IntKind} {L C : Int} (hl : a.eval l = .int kl L) (hc : a.eval c = .int kc C) (hL : L = (n : Int)) (hC : C = (n : Int))
    (b2 : bytes * n ≤ 281474976710656) (b3 : n ≤ maxLen) (b4 : base ≤ w.heap.size)
    (h : ∀ v' w', Own w' base 1 v' n (List.replicate n z) → Below w.heap.size w w' → (∃ g off, v' = .slice (some ⟨g, off, none⟩) n n ∧ w.heap.size ≤ g) → wpList P ops Q rest (a.put o.dst v') w') : wpList P ops Q (o :: rest) a w := by
  obtain ⟨i, hi, hz0, hz1, hz2⟩ := info_parts hT.info
  refine wpList_make_full w hgd l c t ho base e i z 1 hT.und hi hz0 hz1 kl kc L C n hl hc hL hC (by rw [hz2]; exact b2) b3 b4 ?_
  intro w' h1 h2
  refine h _ w' ?_ (below_of_grown0 h2) ⟨_, _, rfl, Nat.le_refl _⟩
  rw [hz, Nat.mul_one, toList_madeCells_one] at h1
  exact Own.ofRow h1

/-! ### a block that is known whole -/
def Row (w : World) (b : Nat) (e : TypeId) (l : List Value) : Prop := w.heap[b]? = some (.cells l.toArray e (0, 0))
theorem Row.cell {w : World} {b : Nat} {e : TypeId} {l : List Value} (h : Row w b e l) (j : Nat) : w.cell? ⟨b, j, none⟩ = l[j]? := by
  unfold Row at h; simp [World.cell?, h]
theorem Row.free {w : World} {b : Nat} {e : TypeId} {l : List Value} (h : Row w b e l) (j : Nat) : w.frozen? ⟨b, j, none⟩ = false := by
  unfold Row at h; simp [World.frozen?, h]
theorem Row.set {w : World} {b : Nat} {e : TypeId} {l : List Value} (h : Row w b e l) (j : Nat) (v : Value) : Row (w.setCell ⟨b, j, none⟩ v) b e (l.set j v) := by
  unfold Row at h ⊢
  simp only [World.setCell, Array.getElem?_modify, h]
  simp
theorem Row.lt {w : World} {b : Nat} {e : TypeId} {l : List Value} (h : Row w b e l) : b < w.heap.size := lt_of_block h
theorem Row.below {w w' : World} {B b : Nat} {e : TypeId} {l : List Value} (h : Row w b e l) (hb : Below B w w') (hlt : b < B) : Row w' b e l := (hb.block b hlt).trans h
theorem Row.after {w w' : World} {b : Nat} {e : TypeId} {l : List Value} (h : Row w b e l) (hb : Below w.heap.size w w') : Row w' b e l := h.below hb h.lt
theorem Row.other {w : World} {b : Nat} {e : TypeId} {l : List Value} (h : Row w b e l) {b' o : Nat} (hne : b ≠ b') (v : Value) : Row (w.setCell ⟨b', o, none⟩ v) b e l :=
  (heap_setCell_other w ⟨b', o, none⟩ b v hne).trans h
theorem Row.alloc {w : World} {b : Nat} {e : TypeId} {l : List Value} (h : Row w b e l) (o : Obj) : Row (w.alloc o) b e l := (Below.heap_alloc w o b h.lt).trans h
theorem Row.drew {w : World} {b : Nat} {e : TypeId} {l : List Value} (h : Row w b e l) : Row w.drew b e l := h
theorem Row.grown {w w' : World} {row : Option Nat} {b : Nat} {e : TypeId} {l : List Value} (h : Row w b e l) (hg : w.grownBy w' row) (hne : some b ≠ row) : Row w' b e l := (hg.block b h.lt hne).trans h
theorem Row.new (w : World) (l : List Value) (e : TypeId) : Row (w.alloc (.cells l.toArray e)) w.heap.size e l := heap_alloc_new _ _
theorem Row.setRow {w : World} {b : Nat} {e : TypeId} {l : List Value} (h : Row w b e l) (cs : List Value) : Row (w.setRow b cs.toArray) b e cs := setRow_heap w b _ cs.toArray e _ h
/-- an array or a struct, whole, into a block that is known whole -/
theorem wpL_storeRow {P : Program} {w : World} {ops : Array Oper} {rest : List Oper} {o : Oper} {a : Act} {Q : Exit → Act → World → Prop}
    (hgd : o.guard = none) (ty : TypeId) (x y : Operand) (ho : o.op = .store ty x y) {b : Nat} {e : TypeId} {old cs : List Value} (hx : a.eval x = .pointer (some ⟨b, 0, none⟩)) (hy : a.eval y = .agg cs.toArray)
    (hr : Row w b e old) (hi : (P.info? ty).map (·.size) = some cs.length) (hlen : old.length = cs.length) (h1 : cs.all (·.oneCell') = true)
    (h : ∀ w', w.grownBy w' (some b) → Row w' b e cs → wpList P ops Q rest (a.put o.dst undef) w') : wpList P ops Q (o :: rest) a w := by
  refine wpList_plain hgd fun _ hK => ?_
  unfold Oper.wp execOp
  have := run_storeVar_row (P := P) w b e ty old.toArray cs.toArray hr (by simpa using hi) (by simpa using hlen) (by simpa using h1)
  simp only [ho, hx, hy, Instr.storeAt, Instr.sureAddr, Sem.run_bind, Sem.run_pure, Result.andThen_ok, this]
  exact hK _ _ (h _ ⟨rfl, rfl, rfl, by simp, fun k _ hk => setRow_other w b k _ (fun e => hk (by simp [e]))⟩ (hr.setRow cs))
theorem wpL_loadRow {P : Program} {w : World} {ops : Array Oper} {rest : List Oper} {o : Oper} {a : Act} {Q : Exit → Act → World → Prop}
    (hgd : o.guard = none) (ty : TypeId) (x : Operand) (ho : o.op = .load ty x) {b : Nat} {e : TypeId} {cs : List Value} {d : TypeDesc} (hx : a.eval x = .pointer (some ⟨b, 0, none⟩))
    (hr : Row w b e cs) (hu : P.underlying ty = some d) (hd : (match d with | .struct _ | .array _ _ => true | _ => false) = true) (hi : (P.info? ty).map (·.size) = some cs.length)
    (h : wpList P ops Q rest (a.put o.dst (.agg cs.toArray)) w) : wpList P ops Q (o :: rest) a w :=
  wpList_load_row hgd ty x ho b hx e cs.toArray (0, 0) d hr hu hd (by simpa using hi) h

/-! ### bytes, bools, ints as cells -/
def bvs (l : List UInt8) : List Value := l.map fun x => .int .u8 (x.toNat : Int)
theorem bvs_length (l : List UInt8) : (bvs l).length = l.length := by simp [bvs]
theorem bvs_append (l r : List UInt8) : bvs (l ++ r) = bvs l ++ bvs r := by simp [bvs]
theorem bvs_one (l : List UInt8) : ∀ u ∈ bvs l, u.oneCell' = true := by
  intro u hu
  obtain ⟨_, _, rfl⟩ := List.mem_map.1 hu
  rfl
theorem bvs_get (l : List UInt8) (j : Nat) (h : j < l.length) : (bvs l)[j]? = some (.int .u8 ((l.getD j 0).toNat : Int)) := by
  simp [bvs, h]
theorem bvs_set (l : List UInt8) (j : Nat) (b : UInt8) : (bvs l).set j (.int .u8 (b.toNat : Int)) = bvs (l.set j b) := by simp [bvs]
theorem bvs_take (l : List UInt8) (m : Nat) : (bvs l).take m = bvs (l.take m) := by simp [bvs, List.map_take]
theorem bvs_drop (l : List UInt8) (m : Nat) : (bvs l).drop m = bvs (l.drop m) := by simp [bvs, List.map_drop]
theorem bvs_replicate (n : Nat) : List.replicate n (Value.int .u8 0) = bvs (List.replicate n 0) := by simp [bvs]
def bos (l : List Bool) : List Value := l.map .bool
theorem bos_length (l : List Bool) : (bos l).length = l.length := by simp [bos]
theorem bos_append (l r : List Bool) : bos (l ++ r) = bos l ++ bos r := by simp [bos]
theorem bos_one (l : List Bool) : ∀ u ∈ bos l, u.oneCell' = true := by
  intro u hu
  obtain ⟨_, _, rfl⟩ := List.mem_map.1 hu
  rfl
theorem bos_get (l : List Bool) (j : Nat) (h : j < l.length) : (bos l)[j]? = some (.bool (l.getD j false)) := by simp [bos, h]
theorem bos_set (l : List Bool) (j : Nat) (b : Bool) : (bos l).set j (.bool b) = bos (l.set j b) := by simp [bos]
theorem bos_replicate (n : Nat) (b : Bool) : List.replicate n (Value.bool b) = bos (List.replicate n b) := by simp [bos]
def ints (l : List Int) : List Value := l.map (Value.int .i64)
theorem ints_length (l : List Int) : (ints l).length = l.length := by simp [ints]
theorem ints_append (l r : List Int) : ints (l ++ r) = ints l ++ ints r := by simp [ints]
theorem ints_one (l : List Int) : ∀ u ∈ ints l, u.oneCell' = true := by
  intro u hu
  obtain ⟨_, _, rfl⟩ := List.mem_map.1 hu
  rfl
theorem ints_get (l : List Int) (j : Nat) (h : j < l.length) : (ints l)[j]? = some (.int .i64 (l.getD j 0)) := by simp [ints, h]
theorem ints_set (l : List Int) (j : Nat) (b : Int) : (ints l).set j (.int .i64 b) = ints (l.set j b) := by simp [ints]
theorem take_snoc (l : List UInt8) (k : Nat) (h : k < l.length) : l.take (k + 1) = l.take k ++ [l.getD k 0] := by
  rw [List.take_succ_eq_append_getElem h]; simp [h]
theorem Sl.byte {w : World} {a : Option Addr} {n c k : Nat} {l : List UInt8} (h : Sl w 1 (.slice a n c) n (bvs l)) (hk : k < n) :
    ∃ b off, a = some ⟨b, off, none⟩ ∧ w.cell? ⟨b, off + k, none⟩ = some (.int .u8 ((l.getD k 0).toNat : Int)) := by
  obtain ⟨hl, a', c', he, h1, h2, h3, h4⟩ := h
  cases he
  rw [bvs_length] at hl
  exact h4 k _ (bvs_get l k (by omega))
theorem Sl.len {w : World} {a : Option Addr} {n c : Nat} {l : List UInt8} (h : Sl w 1 (.slice a n c) n (bvs l)) : l.length = n ∧ n ≤ 9223372036854775807 ∧ n ≤ c ∧ c ≤ 9223372036854775807 := by
  have := h.cap
  rw [bvs_length] at this
  omega
theorem Own.len {w : World} {base n : Nat} {v : Value} {l : List UInt8} (h : Own w base 1 v n (bvs l)) : l.length = n ∧ n ≤ 9223372036854775807 := by
  obtain ⟨a, c, rfl⟩ := h.form
  have := h.sl.len
  omega

/-! ### bytes and strings -/
def str (l : List UInt8) : ByteArray := ⟨l.toArray⟩
theorem str_inj {l m : List UInt8} (h : str l = str m) : l = m := by
  have := congrArg (fun b : ByteArray => b.data.toList) h
  simpa [str] using this
theorem str_toList (l : List UInt8) : (str l).data.toList = l := rfl
theorem str_size (l : List UInt8) : (str l).size = l.length := by simp [str, ByteArray.size]
theorem str_data (s : ByteArray) : str s.data.toList = s := by simp [str]
theorem foldl_push (l : List UInt8) : ∀ s : ByteArray, (l.map fun x => (x.toNat : Int)).foldl (fun r n => r.push (UInt8.ofNat n.toNat)) s = ⟨s.data ++ l.toArray⟩ := by
  induction l with
  | nil => intro s; simp
  | cons x l ih => intro s; simp only [List.map_cons, List.foldl_cons]; rw [ih]; simp [ByteArray.push]
theorem run_toString {P : Program} (w : World) (v : Value) (n : Nat) (l : List UInt8) (h : Sl w 1 v n (bvs l)) : (Conv.bytesToString v).run P w = .ok (.string (str l)) w := by
  obtain ⟨hl, a, c, rfl, h1, h2, h3, h4⟩ := h
  rw [bvs_length] at hl
  cases l with
  | nil =>
    obtain rfl : n = 0 := by simpa using hl.symm
    cases a with
    | none => simp [Conv.bytesToString, str]; rfl
    | some a => 
      have := run_bytesToString (P := P) w a 0 c [] (by simp [loadCells, loadCellsFrom])
      rw [this]; rfl
  | cons x l =>
    obtain ⟨b, off, rfl, _⟩ := h4 0 _ rfl
    have hc := run_loadCells_list (P := P) w ⟨b, off, none⟩ (bvs (x :: l)) (fun j v hv => by
      obtain ⟨b', off', he, hc⟩ := h4 j v hv
      cases he; rw [add_eq]; exact hc)
    have e : ((x :: l).map fun x => (x.toNat : Int)).map (Value.int .u8) = bvs (x :: l) := by simp [bvs]
    rw [bvs_length] at hc
    have := run_bytesToString (P := P) w ⟨b, off, none⟩ n c ((x :: l).map fun x => (x.toNat : Int)) (by rw [e, show n = (x :: l).length by omega]; exact hc)
    rw [this, foldl_push]
    simp [str]
theorem wpL_toString {P : Program} {w : World} {ops : Array Oper} {rest : List Oper} {o : Oper} {a : Act} {Q : Exit → Act → World → Prop}
    (hgd : o.guard = none) (src dst : TypeId) (x : Operand) (ho : o.op = .convert src dst x) {e : TypeId} (hs : P.underlying src = some (.slice e)) (he : P.underlying e = some (.int .u8)) (hd : P.underlying dst = some .string)
    {v : Value} {n : Nat} {l : List UInt8} (h : Sl w 1 v n (bvs l)) (hx : a.eval x = v) (hk : wpList P ops Q rest (a.put o.dst (.string (str l))) w) : wpList P ops Q (o :: rest) a w := by
  refine wpList_plain hgd fun _ hK => ?_
  obtain ⟨av, c, hv⟩ := h.form
  have hr := run_toString (P := P) w v n l h
  subst hv
  have hc := run_convert_bytes_string (P := P) w src dst e av n c hs he hd
  unfold Oper.wp execOp
  simp only [ho, hx, Sem.run_bind, Sem.run_pure, Result.andThen_ok, hc, hr]
  exact hK _ _ hk
/-- the run of a conversion to a string, as a fact for regions -/
theorem run_conv_string {P : Program} (w : World) {src dst e : TypeId} (hs : P.underlying src = some (.slice e)) (he : P.underlying e = some (.int .u8)) (hd : P.underlying dst = some .string) {a : Option Addr} {n c : Nat} {l : List UInt8} (h : Sl w 1 (.slice a n c) n (bvs l)) :
    (convert src dst (.slice a n c)).run P w = .ok (.string (str l)) w := by
  rw [run_convert_bytes_string (P := P) w src dst e a n c hs he hd, run_toString (P := P) w _ n l h]
/-- '[]byte(s)' -/
theorem wpL_ofString {P : Program} {w : World} {ops : Array Oper} {rest : List Oper} {o : Oper} {a : Act} {Q : Exit → Act → World → Prop}
    (hgd : o.guard = none) (src dst : TypeId) (x : Operand) (ho : o.op = .convert src dst x) {e : TypeId} {u : TypeDesc} (hs : P.underlying src = some u) (hd : P.underlying dst = some (.slice e)) (he : P.underlying e = some (.int .u8))
    (l : List UInt8) (hx : a.eval x = .string (str l)) (base : Nat) (hb : base ≤ w.heap.size) (hm : l.length ≤ maxLen)
    (hk : ∀ v' w', Own w' base 1 v' l.length (bvs l) → Below w.heap.size w w' → wpList P ops Q rest (a.put o.dst v') w') : wpList P ops Q (o :: rest) a w := by
  refine wpList_plain hgd fun _ hK => ?_
  have hr := Lib.run_convert_string_bytes (P := P) w src dst e (str l) hs hd he
  unfold Oper.wp execOp
  simp only [ho, hx, Sem.run_bind, Sem.run_pure, Result.andThen_ok, hr]
  refine hK _ _ (hk _ _ ?_ ?_)
  · rw [str_size]
    have hge := grownCap_ge w l.length 0 e
    have hsz : (Lib.bytesCells w e (str l)).size = grownCap w l.length 0 e := by
      unfold Lib.bytesCells
      rw [str_size]
      simp [str]
      omega
    refine Own.block 1 (Lib.bytesWorld_at_new w e (str l)) hb (by rw [bvs_length]; omega) (fun j hj => ?_) (by rw [hsz]; omega) hge (grownCap_le_maxLen w _ _ _ hm) (fun j u hu => ?_)
    · rw [hsz]; simp; omega
    · have hj := (List.getElem?_eq_some_iff.1 hu).1
      rw [bvs_length] at hj
      unfold Lib.bytesCells
      rw [Array.getElem?_append_left (by simp [str]; exact hj)]
      rw [bvs_get l j hj] at hu
      cases hu
      simp [str, hj]
  · have e : Lib.bytesWorld w e (str l) = { w.drew.alloc (.cells (Lib.bytesCells w e (str l)) e) with heap := (Lib.bytesWorld w e (str l)).heap } := by
      unfold Lib.bytesWorld World.freeze
      rw [if_neg (by decide)]
    exact ⟨by rw [e]; rfl, by rw [e]; rfl, by rw [e]; rfl, by rw [Lib.bytesWorld_size]; omega, fun k hk => Lib.bytesWorld_at_old w _ (str l) k hk⟩

/-! ### a cut of a slice, its address behind a name -/
/-- where 'x[l:..]' begins -/
def cutAddr (a : Option Addr) (m l : Nat) : Option Addr := if m = l then a else a.map (·.add l)
theorem Sl.cut {w : World} {a : Option Addr} {n c l h m : Nat} {xs : List Value} (hs : Sl w 1 (.slice a n c) n xs) (h1 : l ≤ h) (h2 : h ≤ n) (h3 : h ≤ m) (h4 : m ≤ c) : Sl w 1 (.slice (cutAddr a m l) (h - l) (m - l)) (h - l) ((xs.drop l).take (h - l)) := by
  obtain ⟨hl, a', c', he, g1, g2, g3, g4⟩ := hs
  cases he
  refine ⟨by simp; omega, _, _, rfl, by omega, by omega, ?_, fun j u hu => ?_⟩
  · intro hn
    unfold cutAddr at hn
    split at hn
    · omega
    · have : a = none := by simpa using hn
      have := g3 this
      omega
  · have hj := (List.getElem?_eq_some_iff.1 hu).1
    simp at hj
    rw [List.getElem?_take_of_lt (by omega), List.getElem?_drop] at hu
    obtain ⟨b, off, rfl, hc⟩ := g4 _ u hu
    refine ⟨b, off + l, ?_, by rw [Nat.add_assoc]; exact hc⟩
    unfold cutAddr
    rw [if_neg (by omega)]
    simp [add_eq]
theorem run_cut {P : Program} (w : World) {t e : TypeId} (ht : P.underlying t = some (.slice e)) (hsz : (P.info? e).map (·.size) = some 1) (a : Option Addr) (n c l h m : Nat) (lo hi mx : Option Value)
    (hb : (Instr.sliceBounds true n c lo hi mx).run P w = .ok (l, h, m) w) :
    (Instr.slice t (.slice a n c) lo hi mx).run P w = .ok (.slice (cutAddr a m l) (h - l) (m - l)) w := by
  obtain ⟨i, hi', hs⟩ := Option.map_eq_some_iff.1 hsz
  simp [Instr.slice, run_underlying ht, hb, sizeOf, typeInfo, hi', hs, cutAddr]
theorem wpL_cut {P : Program} {w : World} {ops : Array Oper} {rest : List Oper} {o : Oper} {a : Act} {Q : Exit → Act → World → Prop} {t e : TypeId} {z : Value} {bytes : Nat} (hT : ET P t e z 1 bytes)
    (hgd : o.guard = none) (x : Operand) (lo hi mx : Option Operand) (ho : o.op = .slice t x lo hi mx) {av : Option Addr} {n c : Nat} (l h m : Nat) {xs : List Value} (hs : Sl w 1 (.slice av n c) n xs) (hx : a.eval x = .slice av n c)
    (hb : (Instr.sliceBounds true n c (lo.map a.eval) (hi.map a.eval) (mx.map a.eval)).run P w = .ok (l, h, m) w) (h1 : l ≤ h) (h2 : h ≤ n) (h3 : h ≤ m) (h4 : m ≤ c)
    (hk : ∀ av', Sl w 1 (.slice av' (h - l) (m - l)) (h - l) ((xs.drop l).take (h - l)) → wpList P ops Q rest (a.put o.dst (.slice av' (h - l) (m - l))) w) : wpList P ops Q (o :: rest) a w := by
  refine wpList_plain hgd fun _ hK => ?_
  obtain ⟨i, hi', hz0, hz1, hz2⟩ := info_parts hT.info
  have hr := run_cut (P := P) w hT.und (by rw [hi']; simp [hz1]) av n c l h m _ _ _ hb
  have hu : P.underlying t = some (.slice (P.elem t)) := by
    have := hT.und
    simp [Program.elem, this]
  unfold Oper.wp execOp
  simp only [ho, hx, run_sliceAt_slice _ t _ _ _ _ hu, Sem.run_bind, Sem.run_pure, Result.andThen_ok, hr]
  exact hK _ _ (hk _ (hs.cut h1 h2 h3 h4))
theorem bounds_l {P : Program} (w : World) (n c l : Nat) (k : IntKind) (h1 : l ≤ n) : (Instr.sliceBounds true n c (some (.int k (l : Int))) none none).run P w = .ok (l, n, c) w := by
  have := run_sliceBound (P := P) (w := w) k (l : Int) n .sliceB (by omega) (by omega)
  simp [Instr.sliceBounds, this]
theorem bounds_h {P : Program} (w : World) (n c h : Nat) (k : IntKind) (h1 : h ≤ c) : (Instr.sliceBounds true n c none (some (.int k (h : Int))) none).run P w = .ok (0, h, c) w := by
  have := run_sliceBound (P := P) (w := w) k (h : Int) c .sliceAcap (by omega) (by omega)
  simp [Instr.sliceBounds, this]
theorem bounds_lh {P : Program} (w : World) (n c l h : Nat) (k k' : IntKind) (h0 : l ≤ h) (h1 : h ≤ c) : (Instr.sliceBounds true n c (some (.int k (l : Int))) (some (.int k' (h : Int))) none).run P w = .ok (l, h, c) w := by
  have e1 := run_sliceBound (P := P) (w := w) k' (h : Int) c .sliceAcap (by omega) (by omega)
  have e2 := run_sliceBound (P := P) (w := w) k (l : Int) h .sliceB (by omega) (by omega)
  simp [Instr.sliceBounds, e1, e2]

/-! ### copy -/
theorem splice_cons {α : Type} (xs : List α) (p : Nat) (v : α) (r : List α) (h : p < xs.length) : splice (xs.set p v) (p + 1) r = splice xs p (v :: r) := by
  unfold splice
  rw [List.drop_set_of_lt (by omega), List.take_set, List.take_add_one, List.getElem?_eq_getElem h]
  simp only [Option.toList_some, List.length_cons]
  rw [List.set_append_right _ _ (by simp; omega)]
  simp only [List.length_take, Nat.min_eq_left (Nat.le_of_lt h), Nat.sub_self, List.set_cons_zero, List.append_assoc, List.singleton_append]
  rw [show p + 1 + r.length = p + (r.length + 1) by omega]; rfl
theorem OwnB.setCells (g off : Nat) (base size n cap : Nat) : ∀ (cs : List Value) (p : Nat) (w : World) (xs : List Value), OwnB w base size g off n cap xs → p + cs.length ≤ xs.length → OwnB (w.setCells g (off + p) cs) base size g off n cap (splice xs p cs) ∧ w.grownBy (w.setCells g (off + p) cs) (some g)
  | [], p, w, xs, h, _ => ⟨by simpa [splice, World.setCells] using h, ⟨rfl, rfl, rfl, Nat.le_refl _, fun _ _ _ => rfl⟩⟩
  | v :: r, p, w, xs, h, hk => by
    simp only [List.length_cons] at hk
    have h2 := OwnB.setCells g off base size n cap r (p + 1) (w.setCell ⟨g, off + p, none⟩ v) (xs.set p v) (h.set p v) (by simp; omega)
    rw [World.setCells]
    rw [show off + p + 1 = off + (p + 1) by omega, ← splice_cons xs p v r (by omega)]
    refine ⟨h2.1, ?_⟩
    have h3 := h2.2
    have h4 := grown_setCell w g (off + p) v
    exact ⟨h3.os.trans h4.os, h3.tape.trans h4.tape, h3.output.trans h4.output, Nat.le_trans h4.size h3.size, fun i hi hne => (h3.block i (Nat.lt_of_lt_of_le hi h4.size) hne).trans (h4.block i hi hne)⟩
theorem wpL_copy {P : Program} {w : World} {ops : Array Oper} {rest : List Oper} {o : Oper} {a : Act} {Q : Exit → Act → World → Prop} {t e : TypeId} {z : Value} {bytes : Nat} (hT : ET P t e z 1 bytes)
    (hgd : o.guard = none) (d s : Operand) (ho : o.op = .call { callee := .builtin .copy, args := #[d, s], argTypes := #[t, t] })
    {base g off n cap : Nat} {xs : List Value} (hown : Own w base 1 (.slice (some ⟨g, off, none⟩) n cap) n xs) (p : Nat) {dp sp : Option Addr} {dLen dCap sLen sCap : Nat} (hd : a.eval d = .slice dp dLen dCap)
    {ys : List Value} (hsrc : Sl w 1 (.slice sp sLen sCap) sLen ys) (hs : a.eval s = .slice sp sLen sCap) (h1 : ∀ u ∈ ys, u.oneCell' = true) (k : Nat) (hk : Nat.min sLen dLen = k) (hp : 0 < k → dp = some ⟨g, off + p, none⟩) (hfit : p + dLen ≤ n)
    (h : ∀ w', Own w' base 1 (.slice (some ⟨g, off, none⟩) n cap) n (splice xs p (ys.take k)) → w.grownBy w' (some g) → wpList P ops Q rest (a.put o.dst (goInt k)) w') :
    wpList P ops Q (o :: rest) a w := by
  obtain ⟨i, hi, hz0, hz1, hz2⟩ := info_parts hT.info
  have hsz : (P.info? e).map (·.size) = some 1 := by rw [hi]; simp [hz1]
  have hxl : xs.length = n := by simpa using hown.1
  have hyl : ys.length = sLen := by simpa using hsrc.1
  have hkl : k ≤ sLen := by rw [← hk]; exact Nat.min_le_left _ _
  have hkd : k ≤ dLen := by rw [← hk]; exact Nat.min_le_right _ _
  by_cases h0 : k = 0
  · subst h0
    refine wpList_copy_nothing hgd d s t t ho e hT.und hsz dp sp dLen dCap sLen sCap hd hs hk ?_
    refine h w (by simpa [splice] using hown) ⟨rfl, rfl, rfl, Nat.le_refl _, fun _ _ _ => rfl⟩
  · obtain rfl := hp (by omega)
    obtain ⟨b, so, ha, hb, hc⟩ := hsrc.addr (by omega)
    subst ha
    have hB : OwnB w base 1 g off n cap xs := by
      rcases hown.2 with ⟨hc, _⟩ | ⟨g', off', cap', he, hb⟩
      · cases hc
      · cases he; exact hb
    have hkl' : (ys.take k).length = k := by simp; omega
    refine wpList_plain hgd fun K hK => ?_
    have hrun := run_copy_cells (P := P) w t t o.type e g (off + p) dLen dCap ⟨b, so, none⟩ sLen sCap (ys.take k) hT.und hsz (by rw [hkl', hk]) (fun j u hu => by
        have hj := (List.getElem?_eq_some_iff.1 hu).1
        rw [hkl'] at hj
        rw [List.getElem?_take_of_lt hj] at hu
        rw [add_eq]; exact hc j u hu) (fun j hj => by rw [Nat.add_assoc]; exact (hB.there (p + j) (by have := hB.nc; omega)).1) (fun j hj => by rw [Nat.add_assoc]; exact (hB.there (p + j) (by have := hB.nc; omega)).2) (fun u hu => h1 u (List.mem_of_mem_take hu))
    obtain ⟨h2, h3⟩ := OwnB.setCells g off base 1 n cap (ys.take k) p w xs hB (by omega)
    unfold Oper.wp
    simp [execOp, ho, resolve, invoke, builtin, hd, hs, hrun, Result.andThen]
    refine hK _ _ ?_
    have := h _ ⟨by rw [length_splice _ _ _ (by omega)]; omega, .inr ⟨_, _, _, rfl, h2⟩⟩ h3
    rwa [show min k ys.length = k by omega]
end Go.Proofs.YtoddklfblcfoiaaDoor
