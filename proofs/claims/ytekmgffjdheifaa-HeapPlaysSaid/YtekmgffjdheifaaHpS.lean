/-
  Several cells into a block that is known whole, or into memory of one's own; words as cells. No condition: laws of the walk.
-/
import Derived.Test.YtekmgffjdheifaaStore
import Derived.Test.YtekmgffjdheifaaGen
namespace Go.Proofs.Ytekmgffjdheifaa
open Go.RowKit
set_option linter.unusedVariables false
set_option linter.unusedSimpArgs false

theorem run_storeAt_cells {P : Program} (w : World) (b o : Nat) (ty : TypeId) (cs : List Value) (h1 : ∀ u ∈ cs, u.oneCell' = true) (hi : (P.info? ty).map (·.size) = some cs.length)
    (hv : ∀ j, j < cs.length → (w.cell? ⟨b, o + j, none⟩).isSome = true) (hf : ∀ j, j < cs.length → w.frozen? ⟨b, o + j, none⟩ = false) :
    (Instr.storeAt ty (.pointer (some ⟨b, o, none⟩)) (.agg cs.toArray)).run P w = .ok () (w.setCells b o cs) := by
  have := run_storeCells_cells (P := P) b o cs 0 w (fun j hj => by simpa using hv j hj) (fun j hj => by simpa using hf j hj) h1
  cases hq : P.info? ty with
  | none => simp [hq] at hi
  | some i =>
    have hs : cs.length = i.size := by simp [hq] at hi; omega
    simp only [Nat.add_zero] at this
    simp only [Instr.storeAt, Instr.sureAddr, Sem.run_bind, Sem.run_pure, Result.andThen_ok]
    simp [storeVar, sizeOf, typeInfo, hq, Value.cells, hs, this]
theorem Row.setCellsS {e : TypeId} (g : Nat) : ∀ (cs : List Value) (p : Nat) (w : World) (l : List Value), Row w g e l → p + cs.length ≤ l.length → Row (w.setCells g p cs) g e (splice l p cs) ∧ w.grownBy (w.setCells g p cs) (some g)
  | [], p, w, l, h, _ => ⟨by simpa [splice, World.setCells] using h, ⟨rfl, rfl, rfl, Nat.le_refl _, fun _ _ _ => rfl⟩⟩
  | v :: r, p, w, l, h, hk => by
    simp only [List.length_cons] at hk
    have h2 := Row.setCellsS g r (p + 1) (w.setCell ⟨g, p, none⟩ v) (l.set p v) (h.set p v) (by simp; omega)
    rw [World.setCells]
    rw [← splice_cons l p v r (by omega)]
    exact ⟨h2.1, ((Mods.grown (grown_setCell w g p v)).trans (Mods.grown h2.2)).os, ((Mods.grown (grown_setCell w g p v)).trans (Mods.grown h2.2)).tape, ((Mods.grown (grown_setCell w g p v)).trans (Mods.grown h2.2)).output, ((Mods.grown (grown_setCell w g p v)).trans (Mods.grown h2.2)).size, fun i hi hn => ((Mods.grown (grown_setCell w g p v)).trans (Mods.grown h2.2)).block i hi (fun e => hn e.symm)⟩
/-- a struct into a part of a block that is known whole -/
theorem wpL_storePart {P : Program} {w : World} {ops : Array Oper} {rest : List Oper} {o : Oper} {a : Act} {Q : Exit → Act → World → Prop}
    (hgd : o.guard = none) (ty : TypeId) (x y : Operand) (ho : o.op = .store ty x y) {b off : Nat} {e : TypeId} {l cs : List Value} (hx : a.eval x = .pointer (some ⟨b, off, none⟩)) (hy : a.eval y = .agg cs.toArray)
    (h1 : ∀ u ∈ cs, u.oneCell' = true) (hi : (P.info? ty).map (·.size) = some cs.length) (hr : Row w b e l) (hlt : off + cs.length ≤ l.length)
    (h : ∀ w', w.grownBy w' (some b) → Row w' b e (splice l off cs) → wpList P ops Q rest (a.put o.dst undef) w') : wpList P ops Q (o :: rest) a w := by
  refine wpList_plain hgd fun _ hK => ?_
  have := run_storeAt_cells (P := P) w b off ty cs h1 hi (fun j hj => by rw [hr.cell, List.getElem?_eq_getElem (by omega)]; rfl) (fun j _ => hr.free _)
  unfold Oper.wp execOp
  simp only [ho, hx, hy, Sem.run_bind, this, Result.andThen_ok, Sem.run_pure]
  obtain ⟨g1, g2⟩ := Row.setCellsS b cs off w l hr hlt
  exact hK _ _ (h _ g2 g1)
/-- a struct into memory of one's own -/
theorem wpL_storeOwnS {P : Program} {w : World} {ops : Array Oper} {rest : List Oper} {o : Oper} {a : Act} {Q : Exit → Act → World → Prop}
    (hgd : o.guard = none) (ty : TypeId) (x y : Operand) (ho : o.op = .store ty x y) {b off p n cap base size : Nat} {xs cs : List Value} (hx : a.eval x = .pointer (some ⟨b, p, none⟩)) (hy : a.eval y = .agg cs.toArray)
    (h1 : ∀ u ∈ cs, u.oneCell' = true) (hi : (P.info? ty).map (·.size) = some cs.length) (hr : Own w base size (.slice (some ⟨b, off, none⟩) n cap) n xs) (j : Nat) (hp : p = off + j) (hlt : j + cs.length ≤ xs.length)
    (h : ∀ w', w.grownBy w' (some b) → Own w' base size (.slice (some ⟨b, off, none⟩) n cap) n (splice xs j cs) → wpList P ops Q rest (a.put o.dst undef) w') : wpList P ops Q (o :: rest) a w := by
  subst hp
  refine wpList_plain hgd fun _ hK => ?_
  have hB : OwnB w base size b off n cap xs := by
    rcases hr.2 with ⟨hc, _⟩ | ⟨g', off', cap', he, hb⟩
    · cases hc
    · cases he; exact hb
  have := run_storeAt_cells (P := P) w b (off + j) ty cs h1 hi (fun i hi => by rw [Nat.add_assoc, hr.get (j + i) (by omega), List.getElem?_eq_getElem (by omega)]; rfl) (fun i hi => by rw [Nat.add_assoc]; exact hr.free (j + i) (by omega))
  unfold Oper.wp execOp
  simp only [ho, hx, hy, Sem.run_bind, this, Result.andThen_ok, Sem.run_pure]
  obtain ⟨g1, g2⟩ := OwnB.setCells b off base size n cap cs j w xs hB hlt
  exact hK _ _ (h _ g2 ⟨by rw [length_splice _ _ _ hlt]; exact hr.1, .inr ⟨_, _, _, rfl, g1⟩⟩)

/-- four results -/
theorem results_tmp4 {fn : Func} {t u v x : Tmp} (h : fn.results = #[.tmp t, .tmp u, .tmp v, .tmp x]) (tmps : Array Value) (P : Program) (w : World) :
    (results fn tmps).run P w = .ok (.tuple #[tmps.getD t undef, tmps.getD u undef, tmps.getD v undef, tmps.getD x undef]) w := by
  simp [results, h]
/-- the number in a slot -/
def intOf : Value → Int | .int _ q => q | _ => 0
/-! ### words -/
def wcells (l : List (UInt8 × Int)) : List Value := l.flatMap fun x => [.int .u8 (x.1.toNat : Int), .int .i64 x.2]
theorem wcells_len (l : List (UInt8 × Int)) : (wcells l).length = l.length * 2 := by
  induction l with
  | nil => rfl
  | cons x l ih => rw [wcells, List.flatMap_cons, List.length_append, ← wcells, ih]; simp; omega
theorem wcells_at : ∀ (l : List (UInt8 × Int)) (k : Nat), k < l.length → (wcells l)[k * 2]? = some (.int .u8 ((l.getD k (0, 0)).1.toNat : Int)) ∧ (wcells l)[k * 2 + 1]? = some (.int .i64 (l.getD k (0, 0)).2)
  | x :: l, 0, _ => ⟨rfl, rfl⟩
  | x :: l, k + 1, h => by
    obtain ⟨h1, h2⟩ := wcells_at l k (by simpa using h)
    rw [show (k + 1) * 2 = k * 2 + 2 by omega, show k * 2 + 2 + 1 = k * 2 + 1 + 2 by omega]
    exact ⟨h1, h2⟩
theorem wcells_append (l m : List (UInt8 × Int)) : wcells (l ++ m) = wcells l ++ wcells m := List.flatMap_append
theorem wcells_set : ∀ (l : List (UInt8 × Int)) (k : Nat) (x : UInt8 × Int), k < l.length → splice (wcells l) (k * 2) [.int .u8 (x.1.toNat : Int), .int .i64 x.2] = wcells (l.set k x)
  | y :: l, 0, x, _ => by simp [splice, wcells]
  | y :: l, k + 1, x, h => by
    have ih := wcells_set l k x (by simpa using h)
    rw [List.set_cons_succ]
    show splice ([_, _] ++ wcells l) ((k + 1) * 2) _ = [_, _] ++ wcells (l.set k x)
    rw [← ih]
    unfold splice
    rw [show (k + 1) * 2 = k * 2 + 2 by omega]
    simp
theorem wcells_one (l : List (UInt8 × Int)) : ∀ u ∈ wcells l, u.oneCell' = true := by
  intro u hu
  obtain ⟨x, _, hx⟩ := List.mem_flatMap.1 hu
  simp at hx
  rcases hx with rfl | rfl <;> rfl
theorem Sl.wordLen {w : World} {a : Option Addr} {n c : Nat} {l : List (UInt8 × Int)} (h : Sl w 2 (.slice a n c) n (wcells l)) : l.length = n ∧ n ≤ 9223372036854775807 := by
  have hl := h.cap
  rw [wcells_len] at hl
  omega
theorem Sl.word {w : World} {a : Option Addr} {n c k : Nat} {l : List (UInt8 × Int)} (h : Sl w 2 (.slice a n c) n (wcells l)) (hk : k < n) :
    ∃ b off, a = some ⟨b, off, none⟩ ∧ w.cell? ⟨b, off + k * 2, none⟩ = some (.int .u8 ((l.getD k (0, 0)).1.toNat : Int)) ∧ w.cell? ⟨b, off + k * 2 + 1, none⟩ = some (.int .i64 (l.getD k (0, 0)).2) := by
  have hl := h.wordLen
  obtain ⟨b, off, ha, _, hc⟩ := h.addr (by omega)
  obtain ⟨h1, h2⟩ := wcells_at l k (by omega)
  exact ⟨b, off, ha, hc _ _ h1, by rw [Nat.add_assoc]; exact hc _ _ h2⟩
theorem any_take_succ {α : Type} (f : α → Bool) (l : List α) (k : Nat) (d : α) (hk : k < l.length) : (l.take (k + 1)).any f = ((l.take k).any f || f (l.getD k d)) := by
  rw [List.take_succ_eq_append_getElem hk, List.any_append]
  simp [List.getD_eq_getElem?_getD, List.getElem?_eq_getElem hk]
theorem any_of_take {α : Type} (f : α → Bool) (l : List α) (k : Nat) (d : α) (hk : k < l.length) (h : f (l.getD k d) = true) : l.any f = true := by
  rw [List.any_eq_true]
  rw [List.getD_eq_getElem?_getD, List.getElem?_eq_getElem hk] at h
  exact ⟨_, List.getElem_mem hk, h⟩
theorem etW : ET Try.prog 23 47 (.agg #[.int .u8 0, .int .i64 0]) 2 16 := ⟨Try.underlying23, by kernel_rfl, rfl, by decide⟩
theorem etI : ET Try.prog 43 3 (.int .i64 0) 1 8 := ⟨Try.underlying43, by kernel_rfl, rfl, by decide⟩
theorem own_ne {w : World} {base s n b : Nat} {v : Value} {xs : List Value} (h : Own w base s v n xs) (hb : b < base) : v.ownBlock = none ∨ v.ownBlock ≠ some b := by
  cases hv : v.ownBlock with
  | none => exact .inl rfl
  | some g => exact .inr (by have := h.lt g hv; simp; omega)
end Go.Proofs.Ytekmgffjdheifaa
