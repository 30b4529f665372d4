/-
  Memory by colours: what may be written by whom. 'St C col w col' w'': blocks of the colours C alone are written, and new ones are coloured. 'Imm': bytes that nobody writes (colour 0). No condition: plain laws on memory.
-/
import Derived.Test.YtekmgffjdheifaaSep
import Derived.Test.YtekmgffjdheifaaB
namespace Go.Proofs.Ytekmgffjdheifaa
open Go.RowKit
set_option linter.unusedVariables false
set_option linter.unusedSimpArgs false
set_option maxRecDepth 100000

structure St (C : Nat → Prop) (col : Nat → Nat) (w : World) (col' : Nat → Nat) (w' : World) : Prop where
  mods : Mods (fun g => C (col g)) w w'
  ext : ∀ g, g < w.heap.size → col' g = col g
def recol (col : Nat → Nat) (n k : Nat) : Nat → Nat := fun g => if g < n then col g else k
theorem recol_lt {col : Nat → Nat} {n k g : Nat} (h : g < n) : recol col n k g = col g := if_pos h
theorem recol_ge {col : Nat → Nat} {n k g : Nat} (h : n ≤ g) : recol col n k g = k := if_neg (by omega)
theorem St.refl (C : Nat → Prop) (col : Nat → Nat) (w : World) : St C col w col w := ⟨Mods.refl _ _, fun _ _ => rfl⟩
theorem St.trans {C : Nat → Prop} {col col1 col2 : Nat → Nat} {w w1 w2 : World} (h : St C col w col1 w1) (k : St C col1 w1 col2 w2) : St C col w col2 w2 :=
  ⟨h.mods.after k.mods (fun g hg => by
    by_cases hl : g < w.heap.size
    · left; rw [← h.ext g hl]; exact hg
    · right; omega), fun g hg => (k.ext g (Nat.lt_of_lt_of_le hg h.mods.size)).trans (h.ext g hg)⟩
theorem St.mono {C C' : Nat → Prop} {col col' : Nat → Nat} {w w' : World} (h : St C col w col' w') (hC : ∀ c, C c → C' c) : St C' col w col' w' := ⟨h.mods.mono fun g hg => hC _ hg, h.ext⟩
theorem St.fresh {w w' : World} (hb : Below w.heap.size w w') (C : Nat → Prop) (col : Nat → Nat) : St C col w col w' := ⟨Mods.fresh hb _, fun _ _ => rfl⟩
theorem St.new {w w' : World} (hb : Below w.heap.size w w') (C : Nat → Prop) (col : Nat → Nat) (k : Nat) : St C col w (recol col w.heap.size k) w' := ⟨Mods.fresh hb _, fun _ h => recol_lt h⟩
theorem St.one {w w' : World} {b : Nat} (hg : w.grownBy w' (some b)) (C : Nat → Prop) (col : Nat → Nat) (hc : C (col b)) : St C col w col w' :=
  ⟨(Mods.grown hg).mono (fun g e => by cases e; exact hc), fun _ _ => rfl⟩
theorem St.own {w w' : World} {v : Value} (hg : w.grownBy w' v.ownBlock) (C : Nat → Prop) (col : Nat → Nat) (hc : ∀ g, v.ownBlock = some g → C (col g)) : St C col w col w' :=
  ⟨(Mods.grown hg).mono (fun g e => hc g e), fun _ _ => rfl⟩
theorem St.recol {C : Nat → Prop} {col col' : Nat → Nat} {w w' : World} (h : St C col w col' w') (k : Nat) : St C col w (recol col' w.heap.size k) w' := ⟨h.mods, fun g hg => (recol_lt hg).trans (h.ext g hg)⟩
/-- from a world in which all is of colour 0 -/
def NZ : Nat → Prop := fun c => c ≠ 0
def col0 : Nat → Nat := fun _ => 0
theorem St.below {W w : World} {col : Nat → Nat} (h : St NZ col0 W col w) : Below W.heap.size W w :=
  h.mods.toBelow (fun g hg => absurd rfl hg) (Nat.le_refl _)
theorem St.belowB {C : Nat → Prop} {col col' : Nat → Nat} {w w' : World} (h : St C col w col' w') (hC : ∀ g, g < w.heap.size → ¬ C (col g)) : Below w.heap.size w w' :=
  h.mods.toBelow (fun g hg => by
    by_cases hl : g < w.heap.size
    · exact absurd hg (hC g hl)
    · omega) (Nat.le_refl _)

theorem Sl.nilW {w w' : World} {s : Nat} {v : Value} (h : Sl w s v 0 []) : Sl w' s v 0 [] := by
  obtain ⟨hl, a, c, rfl, h1, h2, h3, h4⟩ := h
  exact ⟨hl, a, c, rfl, h1, h2, h3, fun j u hu => by simp at hu⟩
theorem Sl.ownLt {w : World} {s n : Nat} {v : Value} {xs : List Value} (h : Sl w s v n xs) (hne : xs ≠ []) {g : Nat} (hg : v.ownBlock = some g) : g < w.heap.size := by
  obtain ⟨a, c, rfl⟩ := h.form
  have hl := h.1
  have : 0 < n * s := by rw [← hl]; exact List.length_pos_iff.2 hne
  obtain ⟨b, off, rfl, hlt, _⟩ := h.addr this
  simp [Value.ownBlock] at hg
  omega
/-- bytes that nobody writes -/
def Imm (col : Nat → Nat) (w : World) (v : Value) (l : List UInt8) : Prop := Sl w 1 v l.length (bvs l) ∧ (l ≠ [] → ∀ g, v.ownBlock = some g → col g = 0)
theorem bvs_ne {l : List UInt8} (h : l ≠ []) : bvs l ≠ [] := by cases l; exact absurd rfl h; simp [bvs]
theorem Imm.st {C : Nat → Prop} {col col' : Nat → Nat} {w w' : World} {v : Value} {l : List UInt8} (h : Imm col w v l) (k : St C col w col' w') (hC : ¬ C 0) : Imm col' w' v l := by
  by_cases hl : l = []
  · subst hl
    exact ⟨h.1.nilW, fun e => absurd rfl e⟩
  · refine ⟨h.1.mods k.mods (fun g hg => by rw [h.2 hl g hg]; exact hC), fun _ g hg => ?_⟩
    rw [k.ext g (h.1.ownLt (bvs_ne hl) hg)]
    exact h.2 hl g hg
theorem Imm.nil (col : Nat → Nat) (w : World) : Imm col w (.slice none 0 0) [] := ⟨Sl.nil w 1, fun h => absurd rfl h⟩
/-- what is new is given the colour 0 -/
theorem Imm.own {col : Nat → Nat} {w w' : World} {v : Value} {n : Nat} {l : List UInt8} (h : Own w' w.heap.size 1 v n (bvs l)) : Imm (recol col w.heap.size 0) w' v l := by
  have hn : n = l.length := h.len.1.symm
  subst hn
  exact ⟨h.sl, fun _ g hg => recol_ge (h.lt g hg)⟩
theorem Imm.form {col : Nat → Nat} {w : World} {v : Value} {l : List UInt8} (h : Imm col w v l) : ∃ a c, v = .slice a l.length c := h.1.form

def OwnC (col : Nat → Nat) (w : World) (c size : Nat) (v : Value) (n : Nat) (xs : List Value) : Prop := Own w 0 size v n xs ∧ ∀ g, v.ownBlock = some g → col g = c
theorem OwnC.st {C : Nat → Prop} {col col' : Nat → Nat} {w w' : World} {c size n : Nat} {v : Value} {xs : List Value} (h : OwnC col w c size v n xs) (k : St C col w col' w') (hC : ¬ C c) : OwnC col' w' c size v n xs :=
  ⟨h.1.mods k.mods (fun g hg => by rw [h.2 g hg]; exact hC), fun g hg => (k.ext g (h.1.lives g hg)).trans (h.2 g hg)⟩
theorem OwnC.new {col : Nat → Nat} {w w' : World} {c size n : Nat} {v : Value} {xs : List Value} (h : Own w' w.heap.size size v n xs) : OwnC (recol col w.heap.size c) w' c size v n xs :=
  ⟨h.mono (Nat.zero_le _), fun g hg => recol_ge (h.lt g hg)⟩
theorem OwnC.keep {col : Nat → Nat} {w w' : World} {c size n : Nat} {v : Value} {xs : List Value} (h : OwnC col w c size v n xs) {row : Option Nat} (hg : w.grownBy w' row) (hne : v.ownBlock = none ∨ v.ownBlock ≠ row) : OwnC col w' c size v n xs :=
  ⟨h.1.kept hg hne, h.2⟩
theorem OwnC.nil (col : Nat → Nat) (w : World) (c size : Nat) : OwnC col w c size (.slice none 0 0) 0 [] := ⟨Own.nil w 0 size, fun g hg => by simp [Value.ownBlock] at hg⟩

/-! ### lists of slices -/
inductive Imms (col : Nat → Nat) (w : World) : List Value → List (List UInt8) → Prop where
  | nil : Imms col w [] []
  | cons {v : Value} {l : List UInt8} {vs : List Value} {L : List (List UInt8)} : Imm col w v l → Imms col w vs L → Imms col w (v :: vs) (l :: L)
theorem Imms.len {col : Nat → Nat} {w : World} {vs : List Value} {L : List (List UInt8)} (h : Imms col w vs L) : vs.length = L.length := by
  induction h with
  | nil => rfl
  | cons _ _ ih => simp [ih]
theorem Imms.st {C : Nat → Prop} {col col' : Nat → Nat} {w w' : World} {vs : List Value} {L : List (List UInt8)} (h : Imms col w vs L) (k : St C col w col' w') (hC : ¬ C 0) : Imms col' w' vs L := by
  induction h with
  | nil => exact .nil
  | cons h1 _ ih => exact .cons (h1.st k hC) ih
theorem Imms.get {col : Nat → Nat} {w : World} {vs : List Value} {L : List (List UInt8)} (h : Imms col w vs L) : ∀ i, i < L.length → ∃ v, vs[i]? = some v ∧ Imm col w v (L.getD i []) := by
  induction h with
  | nil => intro i hi; simp at hi
  | cons h1 _ ih =>
    intro i hi
    cases i with
    | zero => exact ⟨_, rfl, h1⟩
    | succ i =>
      obtain ⟨v, hv, hm⟩ := ih i (by simpa using hi)
      exact ⟨v, by simpa using hv, by simpa using hm⟩
theorem Imms.set {col : Nat → Nat} {w : World} {vs : List Value} {L : List (List UInt8)} (h : Imms col w vs L) {v : Value} {l : List UInt8} (hv : Imm col w v l) : ∀ i, Imms col w (vs.set i v) (L.set i l) := by
  induction h with
  | nil => intro i; simp; exact .nil
  | cons h1 h2 ih =>
    intro i
    cases i with
    | zero => exact .cons hv h2
    | succ i => exact .cons h1 (ih i)
theorem Imms.app {col : Nat → Nat} {w : World} {vs us : List Value} {L M : List (List UInt8)} (h : Imms col w vs L) (k : Imms col w us M) : Imms col w (vs ++ us) (L ++ M) := by
  induction h with
  | nil => exact k
  | cons h1 _ ih => exact .cons h1 ih
theorem Imms.one {col : Nat → Nat} {w : World} {v : Value} {l : List UInt8} (h : Imm col w v l) : Imms col w [v] [l] := .cons h .nil
theorem Imms.one1 {col : Nat → Nat} {w : World} {vs : List Value} {L : List (List UInt8)} (h : Imms col w vs L) : ∀ u ∈ vs, u.oneCell' = true := by
  induction h with
  | nil => intro u hu; cases hu
  | cons h1 _ ih =>
    intro u hu
    rcases List.mem_cons.1 hu with rfl | hu
    · obtain ⟨a, c, rfl⟩ := h1.form; rfl
    · exact ih u hu

/-- pending writes, two cells each -/
inductive Pens (col : Nat → Nat) (w : World) : List Value → List (Nat × List UInt8) → Prop where
  | nil : Pens col w [] []
  | cons {v : Value} {p : Nat × List UInt8} {vs : List Value} {L : List (Nat × List UInt8)} : Imm col w v p.2 → Pens col w vs L → Pens col w (.int .i64 (p.1 : Int) :: v :: vs) (p :: L)
theorem Pens.len {col : Nat → Nat} {w : World} {vs : List Value} {L : List (Nat × List UInt8)} (h : Pens col w vs L) : vs.length = L.length * 2 := by
  induction h with
  | nil => rfl
  | cons _ _ ih => simp [ih]; omega
theorem Pens.st {C : Nat → Prop} {col col' : Nat → Nat} {w w' : World} {vs : List Value} {L : List (Nat × List UInt8)} (h : Pens col w vs L) (k : St C col w col' w') (hC : ¬ C 0) : Pens col' w' vs L := by
  induction h with
  | nil => exact .nil
  | cons h1 _ ih => exact .cons (h1.st k hC) ih
theorem Pens.get {col : Nat → Nat} {w : World} {vs : List Value} {L : List (Nat × List UInt8)} (h : Pens col w vs L) : ∀ i, i < L.length → ∃ v, vs[i * 2]? = some (.int .i64 ((L.getD i (0, [])).1 : Int)) ∧ vs[i * 2 + 1]? = some v ∧ Imm col w v (L.getD i (0, [])).2 := by
  induction h with
  | nil => intro i hi; simp at hi
  | cons h1 _ ih =>
    intro i hi
    cases i with
    | zero => exact ⟨_, rfl, rfl, h1⟩
    | succ i =>
      obtain ⟨v, h0, hv, hm⟩ := ih i (by simpa using hi)
      refine ⟨v, ?_, ?_, by simpa using hm⟩
      · rw [show (i + 1) * 2 = i * 2 + 1 + 1 by omega]; simpa using h0
      · rw [show (i + 1) * 2 + 1 = i * 2 + 1 + 1 + 1 by omega]; simpa using hv
theorem Pens.app {col : Nat → Nat} {w : World} {vs us : List Value} {L M : List (Nat × List UInt8)} (h : Pens col w vs L) (k : Pens col w us M) : Pens col w (vs ++ us) (L ++ M) := by
  induction h with
  | nil => exact k
  | cons h1 _ ih => exact .cons h1 ih
theorem Pens.one {col : Nat → Nat} {w : World} {v : Value} {s : Nat} {l : List UInt8} (h : Imm col w v l) : Pens col w [.int .i64 (s : Int), v] [(s, l)] := .cons (p := (s, l)) h .nil
theorem Pens.one1 {col : Nat → Nat} {w : World} {vs : List Value} {L : List (Nat × List UInt8)} (h : Pens col w vs L) : ∀ u ∈ vs, u.oneCell' = true := by
  induction h with
  | nil => intro u hu; cases hu
  | cons h1 _ ih =>
    intro u hu
    rcases List.mem_cons.1 hu with rfl | hu
    · rfl
    rcases List.mem_cons.1 hu with rfl | hu
    · obtain ⟨a, c, rfl⟩ := h1.form; rfl
    · exact ih u hu
end Go.Proofs.Ytekmgffjdheifaa
