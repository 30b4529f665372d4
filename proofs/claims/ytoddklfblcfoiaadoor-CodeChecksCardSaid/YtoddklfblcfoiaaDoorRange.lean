/-
  A range over a function whose body never leaves early: one law for the statement ('range_law'), one for a call of yield ('yield_law'). No condition: laws of the walk.
-/
import Derived.Test.YtoddklfblcfoiaaDoorMem
import Derived.RangeFuncNested
import Derived.RangeFuncBound
import Derived.RangeFuncCalls
import Derived.RangeFuncLeaves
import Derived.Shelf.Abstract
import Derived.Shelf.RegionOpen
import Derived.OwnWalkIn
import Derived.TacticsInMore
import Derived.LoopNIn
import Derived.LoopIn
namespace Go.Proofs.YtoddklfblcfoiaaDoor
open Go.RowKit Go.Shelf

/-- the record of a loop over a function, as it lies between two rounds -/
def recOf (fn : FuncId) (tmps : Array Value) (ps : Array Tmp) (assign body : Code) (D : Nat) : Loop := { state := .ready, pending := none, fn, tmps, params := ps, assign, body, defers := D }
/-- the world in which the iterator is called -/
def rangeWorld (w : World) (fn : FuncId) (tmps : Array Value) (ps : Array Tmp) (assign body : Code) : World :=
  (w.alloc (.deferred (some []))).alloc (.loop (recOf fn tmps ps assign body w.heap.size))
/-- the two blocks that the statement lays lie as they should -/
def Laid (l D : Nat) (r : Loop) (W : World) : Prop := W.heap[l]? = some (.loop r) ∧ W.heap[D]? = some (.deferred (some []))
theorem laid_new (w : World) (fn : FuncId) (tmps : Array Value) (ps : Array Tmp) (assign body : Code) : Laid (w.heap.size + 1) w.heap.size (recOf fn tmps ps assign body w.heap.size) (rangeWorld w fn tmps ps assign body) := by
  refine ⟨?_, ?_⟩
  · have := World.alloc_heap_new (w.alloc (.deferred (some []))) (.loop (recOf fn tmps ps assign body w.heap.size))
    rwa [World.size_alloc] at this
  · exact (Below.heap_alloc _ _ _ (by simp)).trans (World.alloc_heap_new w _)
theorem below_rangeWorld (w : World) (fn : FuncId) (tmps : Array Value) (ps : Array Tmp) (assign body : Code) : Below w.heap.size w (rangeWorld w fn tmps ps assign body) :=
  ((Below.refl _ _).alloc (Nat.le_refl _) _).alloc (by simp) _
theorem Laid.kept {l D : Nat} {r : Loop} {W W' : World} {row : Option Nat} (h : Laid l D r W) (hg : W.grownBy W' row) (h1 : row ≠ some l) (h2 : row ≠ some D) : Laid l D r W' :=
  ⟨(hg.block l (Array.getElem?_eq_some_iff.1 h.1).1 h1.symm).trans h.1, (hg.block D (Array.getElem?_eq_some_iff.1 h.2).1 h2.symm).trans h.2⟩

section
variable {F : Fence} {n : Nat} {P : Program}
theorem range_law {g : Operand} {ps : Array Tmp} {assign body : Code} {Q : Exit → Act → World → Prop} {a : Act} {w : World} {gf : FuncId} {lb : Array Value} (hro : F.round = none) (hn : F.depth.isSome = true → 1 ≤ n)
    (hg : a.eval g = .func (.func gf) #[] lb) (hF : F.fn gf) (hent : Enters P gf) (Fin : World → Prop)
    (hcall : ∀ fn r, F.fn fn → r = recOf fn a.tmps ps assign body w.heap.size → Laid (w.heap.size + 1) w.heap.size r ((w.alloc (.deferred (some []))).alloc (.loop r)) →
      CallsIn F (n - 1) P gf (#[.func (.yield (w.heap.size + 1)) #[] #[]] ++ lb) ((w.alloc (.deferred (some []))).alloc (.loop r)) fun e W =>
      (∃ v, e = .returned v) ∧ Laid (w.heap.size + 1) w.heap.size r W ∧ Fin W)
    (hdone : ∀ W r, Fin W → W.heap[w.heap.size + 1]? = some (.loop r) → W.heap[w.heap.size]? = some (.deferred (some [])) → Q .normal { a with defers := { target := .collected w.heap.size, args := #[] } :: a.defers } (W.putObj (w.heap.size + 1) (.loop { r with state := .exhausted }))) :
    (Code.rangeFunc g ps assign body).wpIn F n P Q a w := by
  refine wpIn_rangeFunc fun fn hfn => ?_
  rw [hro]
  have hres : (resolve a.eval (rangeCall g (w.heap.size + 1)) 0).run P (rangeWorld w fn a.tmps ps assign body) = .ok { target := .fn (.func gf) lb, args := #[.func (.yield (w.heap.size + 1)) #[] #[]] } (rangeWorld w fn a.tmps ps assign body) := by
    simp only [resolve, hg]
    simp [go_sem]
  have hinv : (invoke (.fn (.func gf) lb) #[.func (.yield (w.heap.size + 1)) #[] #[]]).run P (rangeWorld w fn a.tmps ps assign body) = .ok (.enter gf (#[.func (.yield (w.heap.size + 1)) #[] #[]] ++ lb)) (rangeWorld w fn a.tmps ps assign body) := by
    have := hent (#[.func (.yield (w.heap.size + 1)) #[] #[]] ++ lb) (rangeWorld w fn a.tmps ps assign body)
    simp [invoke, go_sem, this]
  refine ⟨w.heap.size + 1, [{ target := .collected w.heap.size, args := #[] }], rangeWorld w fn a.tmps ps assign body, { target := .fn (.func gf) lb, args := #[.func (.yield (w.heap.size + 1)) #[] #[]] }, rangeWorld w fn a.tmps ps assign body, gf, #[.func (.yield (w.heap.size + 1)) #[] #[]] ++ lb, rangeWorld w fn a.tmps ps assign body, run_enterLoop_outer fn a.tmps ps assign body, hres, ?_, hinv, hn, ?_⟩
  · intro f' hf'
    simp [Target.leads] at hf'
    subst hf'
    exact hF
  · refine (hcall fn _ hfn rfl (laid_new _ _ _ _ _ _)).mono ?_
    rintro e W ⟨⟨v, rfl⟩, ⟨h1, h2⟩, hfin⟩
    refine ⟨none, _, run_endLoop h1 (by simp [recOf]), ?_⟩
    exact hdone W _ hfin h1 h2
/-- what a round's body must come to: it ends by running off its end, with the two blocks as they were, and R of the world -/
def roundGoal (r : Loop) (l D : Nat) (R : World → Prop) : Exit → Act → World → Prop
  | .normal, _, W' => W'.heap[l]? = some (.loop { r with state := .busy }) ∧ W'.heap[D]? = some (.deferred (some [])) ∧ R (W'.putObj l (.loop r))
  | _, _, _ => False
theorem yield_law {l D : Nat} {r : Loop} {args : Array Value} {W : World} {R : World → Prop} (hfn : F.fn r.fn) (hst : r.state = .ready) (hpd : r.pending = none) (hl : Laid l D r W) (hs : args.size = r.params.size) (hne : l ≠ D)
    (hbody : r.assign.wpIn (F.inRound l) n P (Exit.then (fun a₁ w₁ => w₁.heap[l]? = some (.loop r) ∧ r.body.wpIn (F.inRound l) n P (roundGoal r l D R) a₁ (w₁.putObj l (.loop { r with state := .busy }))) (fun _ _ _ => False))
      { tmps := (r.params.zip args).foldl (fun tmps (t, a) => tmps.setIfInBounds t a) r.tmps, defers := [] } W) :
    YieldAt F n P l args W fun e W' => e = .returned (.bool true) ∧ Laid l D r W' ∧ R W' := by
  refine ⟨r.fn, _, r.assign, r.body, run_yield hl.1 hs, roundIn_of_wpIn hfn ?_⟩
  refine Code.wpIn_mono (fun e a w' h => ?_) hbody
  cases e with
  | normal =>
    obtain ⟨h1, h2⟩ := h
    refine ⟨_, run_beginRound h1 hst, Code.wpIn_mono (fun e a w'' h => ?_) h2⟩
    cases e with
    | normal =>
      obtain ⟨g1, g2, g3⟩ := h
      have hlt := (Array.getElem?_eq_some_iff.1 g1).1
      have hrun := run_endRound (P := P) none g1
      have e1 : ({ r with state := LoopState.busy } : Loop) = { r with state := .busy } := rfl
      have hr : ({ ({ r with state := LoopState.busy } : Loop) with state := (if (none : Option Code).isNone then LoopState.ready else .done), pending := none } : Loop) = r := by
        cases r; simp at hst hpd; subst hst; subst hpd; rfl
      rw [hr] at hrun
      exact ⟨_, _, hrun, rfl, ⟨World.putObj_heap_same hlt, (World.putObj_heap_other (Ne.symm hne)).trans g2⟩, g3⟩
    | _ => exact h.elim
  | _ => exact h.elim
theorem yield_rec {l D : Nat} {r : Loop} {args : Array Value} {W : World} {R : World → Prop} {fn : FuncId} {tmps : Array Value} {ps : Array Tmp} {assign body : Code} {D' : Nat} (hr : r = recOf fn tmps ps assign body D') (hfn : F.fn fn) (hl : Laid l D r W) (hs : args.size = ps.size) (hne : l ≠ D)
    (hbody : assign.wpIn (F.inRound l) n P (Exit.then (fun a₁ w₁ => w₁.heap[l]? = some (.loop r) ∧ body.wpIn (F.inRound l) n P (roundGoal r l D R) a₁ (w₁.putObj l (.loop { r with state := .busy }))) (fun _ _ _ => False))
      { tmps := (ps.zip args).foldl (fun tmps (t, a) => tmps.setIfInBounds t a) tmps, defers := [] } W) :
    YieldAt F n P l args W fun e W' => e = .returned (.bool true) ∧ Laid l D r W' ∧ R W' := by
  subst hr
  exact yield_law hfn rfl rfl hl hs hne hbody
end

/-! ### append in a fence -/
theorem wpListIn_append {F : Fence} {n : Nat} {P : Program} {w : World} {ops : Array Oper} {rest : List Oper} {o : Oper} {a : Act} {Q : Exit → Act → World → Prop} {t e : TypeId} {z : Value} {size bytes : Nat} (hT : ET P t e z size bytes)
    (hgd : o.guard = none) (s x : Operand) (ho : o.op = .call { callee := .builtin .append, args := #[s, x], argTypes := #[t, t] })
    {base : Nat} {v : Value} {k : Nat} {xs : List Value} (hown : Own w base size v k xs) (hs : a.eval s = v)
    {vx : Value} {m : Nat} {news : List Value} (hsrc : Sl w size vx m news) (hx : a.eval x = vx) (h1 : ∀ u ∈ news, u.oneCell' = true)
    (hbytes : (k + m) * bytes ≤ 140737488355328) (h63 : k + m ≤ maxLen) (hbase : base ≤ w.heap.size)
    (h : ∀ v' w', Own w' base size v' (k + m) (xs ++ news) → w.grownBy w' v.ownBlock → (∀ g, v'.ownBlock = some g → v.ownBlock = some g ∨ w.heap.size ≤ g) → wpListIn F n P ops Q rest (a.put o.dst v') w') : wpListIn F n P ops Q (o :: rest) a w := by
  refine wpListIn_plain hgd fun K hK' => ?_
  obtain ⟨v', w', hrun, r1, r2, r3⟩ := run_append_OwnX (P := P) w (ty := o.type) hT hown (hsrc.src hT.und h1) hbytes h63 hbase
  unfold Oper.wpIn
  refine ⟨?_, ?_⟩
  · simp [Oper.about, ho, resolve, Target.leads, Sem.run_pure]
  · rw [Oper.semAt_plain F _ _ (by rw [ho]; intro c hc'; cases hc')]
    simp [execOp, ho, resolve, invoke, builtin, hs, hx, hrun, Result.andThen]
    exact hK' _ _ (h v' w' r1 r2 r3)
end Go.Proofs.YtoddklfblcfoiaaDoor
