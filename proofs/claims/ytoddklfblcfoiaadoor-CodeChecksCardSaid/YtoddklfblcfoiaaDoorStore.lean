/-
  One cell into a block that is known whole. No condition: laws of the walk.
-/
import Derived.Test.YtoddklfblcfoiaaDoorSep
namespace Go.Proofs.YtoddklfblcfoiaaDoor
open Go.RowKit
set_option linter.unusedVariables false

theorem run_storeAt_cell {P : Program} (w : World) (b o : Nat) (ty : TypeId) (v : Value) (hc : v.cells = #[v]) (h1 : v.oneCell' = true) (hi : (P.info? ty).map (·.size) = some 1) {old : Value} (hv : w.cell? ⟨b, o, none⟩ = some old) (hf : w.frozen? ⟨b, o, none⟩ = false) :
    (Instr.storeAt ty (.pointer (some ⟨b, o, none⟩)) v).run P w = .ok () (w.setCell ⟨b, o, none⟩ v) := by
  have h2 : ∀ u ∈ [v], u.oneCell' = true := by intro u hu; rw [List.mem_singleton.1 hu]; exact h1
  have := run_storeCells_cells (P := P) b o [v] 0 w (fun j hj => by obtain rfl : j = 0 := by simpa using hj
                                                                    simp [hv]) (fun j hj => by obtain rfl : j = 0 := by simpa using hj
                                                                                               simp [hf]) h2
  cases hq : P.info? ty with
  | none => simp [hq] at hi
  | some i =>
    have hs : i.size = 1 := by simpa [hq] using hi
    simp only [Nat.add_zero] at this
    simp only [Instr.storeAt, Instr.sureAddr, Sem.run_bind, Sem.run_pure, Result.andThen_ok]
    simp [storeVar, sizeOf, typeInfo, hq, hc, hs, this, World.setCells]
/-- one cell, into a block that is known whole -/
theorem wpL_storeAt {P : Program} {w : World} {ops : Array Oper} {rest : List Oper} {o : Oper} {a : Act} {Q : Exit → Act → World → Prop}
    (hgd : o.guard = none) (ty : TypeId) (x y : Operand) (ho : o.op = .store ty x y) {b off : Nat} {e : TypeId} {l : List Value} {v : Value} (hx : a.eval x = .pointer (some ⟨b, off, none⟩)) (hy : a.eval y = v)
    (hc : v.cells = #[v]) (h1 : v.oneCell' = true) (hi : (P.info? ty).map (·.size) = some 1) (hr : Row w b e l) (hlt0 : (l[off]?).isSome = true)
    (h : ∀ w', w.grownBy w' (some b) → Row w' b e (l.set off v) → wpList P ops Q rest (a.put o.dst undef) w') : wpList P ops Q (o :: rest) a w := by
  refine wpList_plain hgd fun _ hK => ?_
  have hlt : off < l.length := by
    obtain ⟨u, hu⟩ := Option.isSome_iff_exists.1 hlt0
    exact (List.getElem?_eq_some_iff.1 hu).1
  have hv := hr.cell off
  rw [List.getElem?_eq_getElem hlt] at hv
  have := run_storeAt_cell (P := P) w b off ty v hc h1 hi hv (hr.free off)
  unfold Oper.wp execOp
  simp only [ho, hx, hy, Sem.run_bind, this, Result.andThen_ok, Sem.run_pure]
  exact hK _ _ (h _ (grown_setCell w b off v) (hr.set off v))
/-- one cell, into memory of one's own -/
theorem wpL_storeOwn {P : Program} {w : World} {ops : Array Oper} {rest : List Oper} {o : Oper} {a : Act} {Q : Exit → Act → World → Prop}
    (hgd : o.guard = none) (ty : TypeId) (x y : Operand) (ho : o.op = .store ty x y) {b off g p n cap base size : Nat} {xs : List Value} {v : Value} (hx : a.eval x = .pointer (some ⟨b, p, none⟩)) (hy : a.eval y = v)
    (hc : v.cells = #[v]) (h1 : v.oneCell' = true) (hi : (P.info? ty).map (·.size) = some 1) (hr : Own w base size (.slice (some ⟨b, off, none⟩) n cap) n xs) (j : Nat) (hp : p = off + j) (hlt : j < xs.length)
    (h : ∀ w', w.grownBy w' (some b) → Own w' base size (.slice (some ⟨b, off, none⟩) n cap) n (xs.set j v) → wpList P ops Q rest (a.put o.dst undef) w') : wpList P ops Q (o :: rest) a w := by
  subst hp
  refine wpList_plain hgd fun _ hK => ?_
  have hv := hr.get j hlt
  rw [List.getElem?_eq_getElem hlt] at hv
  have := run_storeAt_cell (P := P) w b (off + j) ty v hc h1 hi hv (hr.free j hlt)
  unfold Oper.wp execOp
  simp only [ho, hx, hy, Sem.run_bind, this, Result.andThen_ok, Sem.run_pure]
  exact hK _ _ (h _ (grown_setCell w b (off + j) v) (hr.set j v))
/-- a cut, as it reads in every world in which the whole reads -/
theorem wpL_cutW {P : Program} {w : World} {ops : Array Oper} {rest : List Oper} {o : Oper} {a : Act} {Q : Exit → Act → World → Prop} {t e : TypeId} {z : Value} {bytes : Nat} (hT : ET P t e z 1 bytes)
    (hgd : o.guard = none) (x : Operand) (lo hi mx : Option Operand) (ho : o.op = .slice t x lo hi mx) {av : Option Addr} {n c : Nat} (l h m : Nat) (hx : a.eval x = .slice av n c)
    (hb : (Instr.sliceBounds true n c (lo.map a.eval) (hi.map a.eval) (mx.map a.eval)).run P w = .ok (l, h, m) w) (h1 : l ≤ h) (h2 : h ≤ n) (h3 : h ≤ m) (h4 : m ≤ c)
    (hk : ∀ av', (∀ (W : World) (xs : List Value), Sl W 1 (.slice av n c) n xs → Sl W 1 (.slice av' (h - l) (m - l)) (h - l) ((xs.drop l).take (h - l))) → wpList P ops Q rest (a.put o.dst (.slice av' (h - l) (m - l))) w) : wpList P ops Q (o :: rest) a w := by
  refine wpList_plain hgd fun _ hK => ?_
  obtain ⟨i, hi', hz0, hz1, hz2⟩ := info_parts hT.info
  have hr := run_cut (P := P) w hT.und (by rw [hi']; simp [hz1]) av n c l h m _ _ _ hb
  have hu : P.underlying t = some (.slice (P.elem t)) := by
    have := hT.und
    simp [Program.elem, this]
  unfold Oper.wp execOp
  simp only [ho, hx, run_sliceAt_slice _ t _ _ _ _ hu, Sem.run_bind, Sem.run_pure, Result.andThen_ok, hr]
  exact hK _ _ (hk _ fun W xs hs => hs.cut h1 h2 h3 h4)
end Go.Proofs.YtoddklfblcfoiaaDoor
