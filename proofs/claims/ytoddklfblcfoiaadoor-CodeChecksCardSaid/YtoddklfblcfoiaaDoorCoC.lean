/-
  Code in memory: slices of rows; what stands at an element. No condition: laws about memory.
-/
import Derived.Test.YtoddklfblcfoiaaDoorCoB
namespace Go.Proofs.YtoddklfblcfoiaaDoor
open Go Go.RowKit
set_option linter.unusedVariables false
set_option linter.unusedSimpArgs false

theorem flat_len {α : Type} (f : α → List Value) (k : Nat) (hk : ∀ x, (f x).length = k) (l : List α) : (l.flatMap f).length = l.length * k := by
  induction l with
  | nil => simp
  | cons x l ih => simp only [List.flatMap_cons, List.length_append, hk, ih, List.length_cons, Nat.add_mul]; omega
theorem flat_get {α : Type} (f : α → List Value) (k : Nat) (hk : ∀ x, (f x).length = k) (l : List α) (i j : Nat) (x : α) (h : l[i]? = some x) (hj : j < k) : (l.flatMap f)[i * k + j]? = (f x)[j]? := by
  induction l generalizing i with
  | nil => simp at h
  | cons y l ih =>
    rw [List.flatMap_cons]
    cases i with
    | zero =>
      simp at h; subst h
      rw [List.getElem?_append_left (by rw [hk]; omega)]
      simp
    | succ i =>
      have e : (i + 1) * k = i * k + k := Nat.succ_mul i k
      rw [List.getElem?_append_right (by rw [hk, e]; omega), hk, show (i + 1) * k + j - k = i * k + j by rw [e]; omega]
      exact ih i (by simpa using h)
/-- a slice of rows: what stands at one -/
theorem Sl.elem {w : World} {a : Option Addr} {n c k : Nat} {α : Type} (f : α → List Value) (hk : ∀ x, (f x).length = k) {l : List α} (hl : Sl w k (.slice a n c) n (l.flatMap f)) (h0 : 0 < k) (i : Nat) (hi : i < n) :
    ∃ b off x, a = some ⟨b, off, none⟩ ∧ l[i]? = some x ∧ ∀ j u, (f x)[j]? = some u → w.cell? ⟨b, off + i * k + j, none⟩ = some u := by
  have hlen := hl.1
  rw [flat_len f k hk] at hlen
  have hi2 : i < l.length := by
    have := Nat.eq_of_mul_eq_mul_right h0 hlen
    omega
  obtain ⟨b, off, ha, hlt, hc⟩ := hl.addr (Nat.mul_pos (by omega) h0)
  refine ⟨b, off, l[i], ha, List.getElem?_eq_getElem hi2, fun j u hu => ?_⟩
  have hj : j < k := by rw [← hk l[i]]; exact (List.getElem?_eq_some_iff.1 hu).1
  rw [Nat.add_assoc]
  refine hc _ _ ?_
  rw [flat_get f k hk l i j l[i] (List.getElem?_eq_getElem hi2) hj]
  exact hu
def insC (x : Ins) : List Value := [.int .u8 (x.op.toNat : Int), .int .i64 x.a, .int .i64 x.b, .int .i64 x.c, .string (str x.t)]
def staC (x : Sta) : List Value := [.string (str x.n), .string (str x.s)]
abbrev inCells (l : List Ins) : List Value := l.flatMap insC
abbrev stCells (l : List Sta) : List Value := l.flatMap staC
inductive Fns (w : World) : List Value → List (List Ins) → Prop where
  | nil : Fns w [] []
  | cons {v : Value} {l : List Ins} {vs : List Value} {L : List (List Ins)} : Sl w 5 v l.length (inCells l) → Fns w vs L → Fns w (v :: vs) (l :: L)
theorem Fns.stay {w w' : World} {vs : List Value} {L : List (List Ins)} (h : Fns w vs L) (hb : Below w.heap.size w w') : Fns w' vs L := by
  induction h with
  | nil => exact .nil
  | cons h1 _ ih => exact .cons (h1.below hb) ih
theorem Fns.get {w : World} {vs : List Value} {L : List (List Ins)} (h : Fns w vs L) : ∀ (i : Nat) (l : List Ins), L[i]? = some l → ∃ a c, vs[i]? = some (Value.slice a l.length c) ∧ Sl w 5 (.slice a l.length c) l.length (inCells l) := by
  induction h with
  | nil => intro i l hi; simp at hi
  | cons h1 _ ih =>
    intro i l hi
    cases i with
    | zero =>
      obtain ⟨a, c, rfl⟩ := h1.form
      simp at hi; subst hi
      exact ⟨a, c, rfl, h1⟩
    | succ i =>
      obtain ⟨a, c, hv, hm⟩ := ih i l (by simpa using hi)
      exact ⟨a, c, by simpa using hv, hm⟩
/-- the two slices of a code -/
def CodM (w : World) (vF vR : Value) (c : Cod) : Prop := (∃ vs, Sl w 1 vF c.f.length vs ∧ Fns w vs c.f) ∧ Sl w 2 vR c.r.length (stCells c.r)
theorem CodM.below {w w' : World} {vF vR : Value} {c : Cod} (h : CodM w vF vR c) (hb : Below w.heap.size w w') : CodM w' vF vR c := by
  obtain ⟨⟨vs, h1, h2⟩, h3⟩ := h
  exact ⟨⟨vs, h1.below hb, h2.stay hb⟩, h3.below hb⟩
theorem CodM.fun_at {w : World} {a : Option Addr} {n k : Nat} {vR : Value} {c : Cod} (h : CodM w (.slice a n k) vR c) (i : Nat) (l : List Ins) (hi : c.f[i]? = some l) :
    ∃ g off av cv, a = some ⟨g, off, none⟩ ∧ w.cell? ⟨g, off + i, none⟩ = some (.slice av l.length cv) ∧ Sl w 5 (.slice av l.length cv) l.length (inCells l) := by
  obtain ⟨⟨vs, h1, h2⟩, h3⟩ := h
  have hn := h1.cap.2.2.1
  have hlt := (List.getElem?_eq_some_iff.1 hi).1
  subst hn
  obtain ⟨g, off, u, ha, hu, hc⟩ := h1.at (k := i) (by omega)
  obtain ⟨av, cv, hv, hm⟩ := h2.get i l hi
  rw [hu] at hv; cases hv
  exact ⟨g, off, av, cv, ha, hc, hm⟩
theorem CodM.form {w : World} {vF vR : Value} {c : Cod} (h : CodM w vF vR c) : (∃ a k, vF = .slice a c.f.length k) ∧ ∃ a k, vR = .slice a c.r.length k := by
  obtain ⟨⟨vs, h1, h2⟩, h3⟩ := h
  exact ⟨h1.form, h3.form⟩
theorem insC_len (x : Ins) : (insC x).length = 5 := rfl
theorem staC_len (x : Sta) : (staC x).length = 2 := rfl
end Go.Proofs.YtoddklfblcfoiaaDoor
