/-
  A region that draws its order, walked in one order of my own: operations that yield one value in every later world may be taken as early as they are ready; the others ('pivots') stand alone when they come up. No condition: a law of the walk.
-/
import Derived.WalkKit
import Derived.Deep.QuietTactic
import Derived.BigQuiet
import Derived.Test.YtoddklfblcfoiaaDoorMem
namespace Go.Proofs.YtoddklfblcfoiaaDoor
open Go.RowKit
set_option linter.unusedVariables false

section
variable {P : Program} {ops : Array Oper} {Q : Exit → Act → World → Prop} {md : Region.Mode} {R : World → World → Prop}

/-- the post without panics: a region that is shown not to panic -/
def QN (Q : Exit → Act → World → Prop) : Exit → Act → World → Prop
  | .normal, a, w => Q .normal a w
  | .outgrown, a, w => Q .outgrown a w
  | _, _, _ => False
theorem QN.imp : ∀ (e : Exit) (a : Act) (w : World), QN Q e a w → Q e a w := fun e a w h => by
  cases e <;> first | exact h | exact (h : False).elim

def YieldsR (P : Program) (ops : Array Oper) (R : World → World → Prop) (o : Oper) (v : Value) (a : Act) (w : World) : Prop :=
  (Region.wanted o (yielded ops a.tmps) = true ∧ ∀ w', R w w' → (execOp a.eval o).run P w' = .ok (.value v) w') ∨
  (Region.wanted o (yielded ops a.tmps) = false ∧ v = undef)
theorem YieldsR.wpOp {i : Nat} {o : Oper} {v : Value} {a : Act} {w : World} (hr : R w w) (hi : ops[i]? = some o) (hy : YieldsR P ops R o v a w)
    {K : Act → World → Prop} (h : K (a.put o.dst v) w) : wpOp P ops Q i K a w := by
  unfold Go.wpOp
  simp only [hi]
  rcases hy with ⟨hw, hv⟩ | ⟨hw, rfl⟩
  · simp only [hw, if_true, Oper.wp, hv w hr, Oper.upon]; exact .inl h
  · simp only [hw, Bool.false_eq_true, if_false]; exact h
theorem YieldsR.of_same {o : Oper} {v : Value} {a a' : Act} {w w' : World} (ht : ∀ x y z, R x y → R y z → R x z) (hR : R w w') (hy : YieldsR P ops R o v a w) (he : execOp a'.eval o = execOp a.eval o)
    (hw : Region.wanted o (yielded ops a'.tmps) = Region.wanted o (yielded ops a.tmps)) : YieldsR P ops R o v a' w' := by
  unfold YieldsR at *
  rw [he, hw]
  rcases hy with ⟨h1, h2⟩ | h
  · exact .inl ⟨h1, fun w2 h => h2 w2 (ht _ _ _ hR h)⟩
  · exact .inr h
theorem wpOp_putR {j : Nat} {oi oj : Oper} {v : Value} (hj : ops[j]? = some oj) (hap : oi.apart ops oj = true)
    (hsi : ∀ cs b, oi.op ≠ .select cs b) (hsj : ∀ cs b, oj.op ≠ .select cs b)
    (hQ : ∀ c a w, Q (.panic c) (a.put oi.dst v) w → Q (.panic c) a w) {K : Act → World → Prop} {a : Act} {w : World}
    (h : wpOp P ops Q j K (a.put oi.dst v) w) :
    wpOp P ops Q j (fun a' w' => (execOp a'.eval oi = execOp a.eval oi ∧ Region.wanted oi (yielded ops a'.tmps) = Region.wanted oi (yielded ops a.tmps)) ∧ K (a'.put oi.dst v) w') a w := by
  obtain ⟨h1, h2, h3⟩ := Oper.apart_spec hap
  have keep : ∀ (a : Act) u, execOp (a.put oj.dst u).eval oi = execOp a.eval oi ∧ Region.wanted oi (yielded ops (a.put oj.dst u).tmps) = Region.wanted oi (yielded ops a.tmps) := fun a u =>
    ⟨execOp_put oi hsi a oj.dst u h3, wanted_put oi a oj.dst u h3⟩
  unfold wpOp at *
  simp only [hj] at *
  rw [wanted_put oj a oi.dst v h1] at h
  split
  · rename_i hw
    simp only [hw, if_true] at h
    rcases h with h | ⟨hasks, hlets⟩
    case inr => exact .inr ⟨by unfold Oper.asks at *; rw [execOp_put oj hsj a oi.dst v h1] at hasks; exact hasks, hlets⟩
    refine .inl ?_
    unfold Oper.wp at *
    rw [execOp_put oj hsj a oi.dst v h1] at h
    generalize (execOp a.eval oj).run P w = r at *
    cases r with
    | ok n w' =>
      cases n <;> simp only [Oper.upon] at h ⊢
      case value u => exact ⟨keep a u, by rw [← Act.put_comm a v u h2]; exact h⟩
      case skip => exact ⟨keep a _, by rw [← Act.put_comm a v undef h2]; exact h⟩
      case defer d =>
        refine ⟨keep { a with defers := d :: a.defers } _, ?_⟩
        rw [← Act.put_comm _ v undef h2, ← Act.put_defers]
        exact h
      case enter f args =>
        refine Calls.mono h fun e w'' he => ?_
        cases e with
        | returned u => exact ⟨keep a u, by rw [← Act.put_comm a v u h2]; exact he⟩
        | panicked c => exact hQ _ _ _ he
        | outgrown => exact he
      case row row args => exact Rows.mono h fun u w'' he => ⟨keep a u, by rw [← Act.put_comm a v u h2]; exact he⟩
    | halt x w' =>
      cases x <;> simp only [Oper.upon] at h ⊢
      case panic u => exact hQ _ _ _ h
  · rename_i hw
    simp only [hw] at h
    exact ⟨keep a _, by rw [← Act.put_comm a v undef h2]; exact h⟩

/-- whatever order is picked from here on; each step goes to a later world, but for those of the tail T -/
def wpAnyR (P : Program) (md : Region.Mode) (ops : Array Oper) (R : World → World → Prop) (T : Nat → Bool) (Q : Exit → Act → World → Prop) : Nat → Array Bool → Act → World → Prop
  | 0, listed, a, w => Region.ready md ops listed = [] ∧ Q .normal a w
  | fuel + 1, listed, a, w =>
    (Region.ready md ops listed = [] → Q .normal a w) ∧
    ∀ i ∈ Region.ready md ops listed, wpOp P ops Q i (fun a' w' => (T i = true ∨ R w w') ∧ wpAnyR P md ops R T Q fuel (listed.setIfInBounds i true) a' w') a w
theorem wpAny_of_R {T : Nat → Bool} : ∀ (fuel : Nat) (listed : Array Bool) (a : Act) (w : World), wpAnyR P md ops R T Q fuel listed a w → wpAny P md ops Q fuel listed a w
  | 0, _, _, _, h => h
  | fuel + 1, _, _, _, h => ⟨h.1, fun i hi => wpOp_mono (fun a w hh => wpAny_of_R fuel _ a w hh.2) (h.2 i hi)⟩
/-- what is listed holds all that it waits for -/
def Closed (md : Region.Mode) (ops : Array Oper) (listed : Array Bool) : Prop := ∀ j o, ops[j]? = some o → listed.getD j false = true → ∀ e ∈ o.after, Region.binds md e = true → listed.getD e.on false = true
theorem Closed.set {listed : Array Bool} {i : Nat} (h : Closed md ops listed) (hi : i ∈ Region.ready md ops listed) : Closed md ops (listed.setIfInBounds i true) := by
  intro j o ho hl e he hb
  by_cases hij : i = j
  · subst hij
    obtain ⟨_, o', ho', hall⟩ := mem_ready.1 hi
    rw [ho] at ho'
    cases ho'
    exact getD_set_true (hall e he hb)
  · rw [getD_set_ne false hij] at hl
    exact getD_set_true (h j o ho hl e he hb)
/-- does operation j wait for i? -/
def waits (md : Region.Mode) (ops : Array Oper) : Nat → Nat → Nat → Bool
  | 0, _, _ => false
  | k + 1, j, i => match ops[j]? with
    | some o => o.after.any (fun e => Region.binds md e && e.on == i) || o.after.any (fun e => Region.binds md e && waits md ops k e.on i)
    | none => false
theorem waits_listed {listed : Array Bool} (hc : Closed md ops listed) : ∀ (k j i : Nat), waits md ops k j i = true → (∀ o, ops[j]? = some o → ∀ e ∈ o.after, Region.binds md e = true → listed.getD e.on false = true) → listed.getD i false = true
  | 0, _, _, h, _ => by cases h
  | k + 1, j, i, h, hl => by
    unfold waits at h
    cases ho : ops[j]? with
    | none => rw [ho] at h; cases h
    | some o =>
      rw [ho] at h
      simp only [Bool.or_eq_true, Array.any_eq_true', Bool.and_eq_true, beq_iff_eq] at h
      rcases h with ⟨e, he, hb, rfl⟩ | ⟨e, he, hb, hw⟩
      · exact hl o ho e he hb
      · exact waits_listed hc k e.on i hw fun o' ho' e' he' hb' => hc e.on o' ho' (hl o ho e he hb) e' he' hb'
theorem wpAnyR_first (hrefl : ∀ x, R x x) (ht : ∀ x y z, R x y → R y z → R x z) {T : Nat → Bool} {i : Nat} {oi : Oper} {v : Value} (hi : ops[i]? = some oi) (hsel : ∀ (j : Nat) (o : Oper) cs b, ops[j]? = some o → o.op ≠ .select cs b)
    (hT : ∀ j, T j = true → ∃ k, waits md ops k j i = true)
    (hQ : ∀ c a w, Q (.panic c) (a.put oi.dst v) w → Q (.panic c) a w) :
    ∀ (fuel : Nat) (listed : Array Bool) (a : Act) (w : World), Closed md ops listed →
      (∀ j oj, ops[j]? = some oj → j ≠ i → listed.getD j true = false → (∀ e ∈ oj.after, Region.binds md e = true → e.on ≠ i) → oi.apart ops oj = true) →
      i ∈ Region.ready md ops listed → YieldsR P ops R oi v a w →
      wpAnyR P md ops R T Q fuel (listed.setIfInBounds i true) (a.put oi.dst v) w → wpAnyR P md ops R T Q (fuel + 1) listed a w := by
  intro fuel
  induction fuel with
  | zero =>
    intro listed a w _ _ hr hy H
    refine ⟨fun h => (by rw [h] at hr; cases hr), fun j hj => ?_⟩
    by_cases hji : j = i
    · subst hji; exact hy.wpOp (hrefl w) hi ⟨.inr (hrefl w), H⟩
    · have := ready_mono hj hji
      rw [H.1] at this
      cases this
  | succ fuel ih =>
    intro listed a w hcl hfree hr hy H
    refine ⟨fun h => (by rw [h] at hr; cases hr), fun j hj => ?_⟩
    by_cases hji : j = i
    · subst hji; exact hy.wpOp (hrefl w) hi ⟨.inr (hrefl w), H⟩
    · have h1 := H.2 j (ready_mono hj hji)
      obtain ⟨hjun, oj, hoj, hall⟩ := mem_ready.1 hj
      have hun_i : listed.getD i false = true → False := fun h1 => by
        have h0 := (mem_ready.1 hr).1
        rcases Nat.lt_or_ge i listed.size with h' | h'
        · simp [h'] at h0 h1; rw [h0] at h1; cases h1
        · simp [Array.getElem?_eq_none h'] at h1
      have hnot : ∀ e ∈ oj.after, Region.binds md e = true → e.on ≠ i := fun e he hb heq => by
        have h1 := hall e he hb
        rw [heq] at h1
        exact hun_i h1
      have hTj : ¬ T j = true := fun h => by
        obtain ⟨k, hk⟩ := hT j h
        exact hun_i (waits_listed hcl k j i hk fun o ho => by rw [hoj] at ho; cases ho; exact hall)
      have h2 := wpOp_putR hoj (hfree j oj hoj hji hjun hnot) (fun cs b => hsel i oi cs b hi) (fun cs b => hsel j oj cs b hoj) hQ h1
      have hfree' : ∀ k ok, ops[k]? = some ok → k ≠ i → (listed.setIfInBounds j true).getD k true = false →
          (∀ e ∈ ok.after, Region.binds md e = true → e.on ≠ i) → oi.apart ops ok = true := fun k ok hk hki hun hno => by
        refine hfree k ok hk hki ?_ hno
        by_cases hjk : j = k
        · subst hjk; exact hjun
        · rw [getD_set_ne true hjk] at hun; exact hun
      refine wpOp_mono (fun a' w' h3 => ⟨h3.2.1, ih (listed.setIfInBounds j true) a' w' (hcl.set hj) hfree' (ready_mono hr (Ne.symm hji)) (hy.of_same ht (h3.2.1.resolve_left hTj) h3.1.1 h3.1.2) ?_⟩) h2
      rw [Array.setIfInBounds_comm _ _ hji]
      exact h3.2.2

/-- an operation that is no call: it ends at once, with a value or with none -/
def calm (o : Oper) : Bool :=
  match o.op with
  | .move _ | .assign _ | .pick .. | .load .. | .binOp .. | .unOp .. | .convert .. | .makeInterface .. | .field .. | .fieldAddr .. | .index .. | .indexAddr .. | .slice .. | .extract .. | .nilCheck _ | .lookup .. | .build .. | .sliceToArrayPointer .. => true
  | .call c => (match c.callee with | .builtin .len | .builtin .cap | .builtin .min | .builtin .max => true | _ => false)
  | _ => false
theorem v_of {s : Sem Value} {n : Next} {w w' : World} (h : Sem.run P (do let x ← s; pure (Next.value x)) w = .ok n w') : ∃ v, n = .value v := by
  rw [Sem.run_bind] at h
  cases hs : s.run P w with
  | ok x w2 => rw [hs] at h; simp at h; exact ⟨x, h.1.symm⟩
  | halt x w2 => rw [hs] at h; simp at h
theorem calm_value {o : Oper} (hc : calm o = true) {ρ : Operand → Value} {n : Next} {w w' : World} (h : (execOp ρ o).run P w = .ok n w') : ∃ v, n = .value v := by
  obtain ⟨dst, op, type, pos, after, guard⟩ := o
  cases op <;> simp only [calm] at hc <;> try (cases hc; done)
  case move x => simp [execOp] at h; exact ⟨_, h.1.symm⟩
  case assign x => simp [execOp] at h; exact ⟨_, h.1.symm⟩
  case pick c a b =>
    simp only [execOp] at h
    rw [Sem.run_bind] at h
    cases hs : (asBool (ρ c)).run P w with
    | ok x w2 => rw [hs] at h; simp at h; exact ⟨_, h.1.symm⟩
    | halt x w2 => rw [hs] at h; simp at h
  case nilCheck x =>
    simp only [execOp] at h
    split at h
    · simp [runtimePanic] at h
    · simp [runtimePanic] at h
    · simp [runtimePanic] at h
    · split at h
      · simp [runtimePanic] at h
      · rw [Sem.run_bind] at h
        cases h1 : (program).run P w with
        | ok x1 w1 =>
          rw [h1] at h
          simp only [Result.andThen_ok] at h
          rw [Sem.run_bind] at h
          cases h2 : (nilAhead (x1.types.size + Made.depth) _ _ _).run P w1 with
          | ok x2 w2 =>
            rw [h2] at h
            simp only [Result.andThen_ok] at h
            split at h
            · rw [Sem.run_bind] at h
              simp [unsupported] at h
            · simp at h; exact ⟨_, h.1.symm⟩
          | halt x2 w2 => rw [h2] at h; simp at h
        | halt x1 w1 => rw [h1] at h; simp at h
      · simp at h; exact ⟨_, h.1.symm⟩
    · simp at h; exact ⟨_, h.1.symm⟩
  case call c =>
    obtain ⟨callee, args, types⟩ := c
    cases callee with
    | builtin b =>
      simp only [execOp, resolve, Sem.run_bind, Sem.run_pure, Result.andThen_ok, invoke, builtin] at h
      cases b <;> simp only at hc <;> try (cases hc; done)
      all_goals exact v_of (P := P) h
    | value f => cases hc
    | invoke r m => cases hc
  all_goals exact v_of (P := P) h

/-- the later worlds -/
structure Later (R : World → World → Prop) (w0 : World) where
  w : World
  later : R w0 w
/-- one operation of the walk: (0, o): it yields one value in every later world; (1, o): a pivot; (2, o): one of the tail -/
def wpCan (P : Program) (ops : Array Oper) (R : World → World → Prop) (Q : Act → World → Prop) : List (Nat × Oper) → Act → World → Prop
  | [], a, w => Q a w
  | (0, o) :: l, a, w => ∃ v, YieldsR P ops R o v a w ∧ wpCan P ops R Q l (a.put o.dst v) w
  | (k + 1, o) :: l, a, w => if Region.wanted o (yielded ops a.tmps) then o.wp P a w (fun a' w' => (k = 0 → R w w') ∧ wpCan P ops R Q l a' w') (fun e _ _ => e = .normal) else wpCan P ops R Q l (a.put o.dst undef) w
def isTail (idx : List (Nat × Nat)) (i : Nat) : Bool := idx.any fun x => x.1 == 2 && x.2 == i
def canonB (md : Region.Mode) (ops : Array Oper) : List (Nat × Nat) → Array Bool → Bool
  | [], listed => (Region.ready md ops listed).isEmpty
  | (0, i) :: l, listed => (Region.ready md ops listed).contains i && Region.free md ops listed i && canonB md ops l (listed.setIfInBounds i true)
  | (k + 1, i) :: l, listed => Region.ready md ops listed == [i] && Nat.ble k 1 && canonB md ops l (listed.setIfInBounds i true)
/-- every operation of the tail waits for all others -/
def tailB (md : Region.Mode) (ops : Array Oper) (idx : List (Nat × Nat)) : Bool :=
  idx.all fun x => x.1 != 2 || idx.all fun y => y.1 == 2 || waits md ops 12 x.2 y.2
theorem wp_only {o : Oper} {a : Act} {w : World} {K : Act → World → Prop} (h : o.wp P a w K (fun e _ _ => e = .normal)) : o.wp P a w K (QN Q) := by
  unfold Oper.wp at *
  generalize (execOp a.eval o).run P w = r at *
  cases r with
  | ok n w' =>
    cases n <;> simp only [Oper.upon] at h ⊢ <;> try exact h
    case enter f args =>
      refine Calls.mono h fun e w'' he => ?_
      cases e with
      | returned u => exact he
      | panicked c => cases he
      | outgrown => obtain ⟨_, _, h⟩ := he; cases h
  | halt x w' => cases x <;> simp only [Oper.upon] at h ⊢ <;> first | exact h | cases h
theorem wpAnyR_can (hrefl : ∀ x, R x x) (ht : ∀ x y z, R x y → R y z → R x z) (hs : Region.noSelect ops = true) {T : Nat → Bool} : ∀ (l : List (Nat × Oper)) (idx : List (Nat × Nat)) (listed : Array Bool) (a : Act) (w : World), Closed md ops listed →
    (∀ x ∈ idx, x.1 = 0 → ∀ j, T j = true → ∃ k, waits md ops k j x.2 = true) → (∀ x ∈ idx, x.1 = 2 → T x.2 = true) →
    idx.map (fun x => (ops[x.2]?).map fun o => (x.1, o)) = l.map some → canonB md ops idx listed = true → wpCan P ops R (fun a w => QN Q .normal a w) l a w → wpAnyR P md ops R T (QN Q) l.length listed a w
  | [], idx, listed, a, w, _, _, _, hl, hB, h => by
    obtain rfl : idx = [] := by simpa using hl
    exact ⟨by simpa [canonB] using hB, h⟩
  | (b, o) :: l, idx, listed, a, w, hcl, hT, hT2, hl, hB, h => by
    cases idx with
    | nil => simp at hl
    | cons x idx =>
      obtain ⟨b', i⟩ := x
      simp only [List.map_cons, List.cons.injEq] at hl
      obtain ⟨h0, hl⟩ := hl
      obtain ⟨o', ho, he⟩ := Option.map_eq_some_iff.1 h0
      cases he
      have hTt : ∀ x ∈ idx, x.1 = 0 → ∀ j, T j = true → ∃ k, waits md ops k j x.2 = true := fun x hx => hT x (List.mem_cons_of_mem _ hx)
      have hTt2 : ∀ x ∈ idx, x.1 = 2 → T x.2 = true := fun x hx => hT2 x (List.mem_cons_of_mem _ hx)
      cases b with
      | zero =>
        simp only [canonB, Bool.and_eq_true] at hB
        obtain ⟨⟨hr, hf⟩, hB'⟩ := hB
        have hr' : i ∈ Region.ready md ops listed := by simpa using hr
        obtain ⟨v, hy, hK⟩ := h
        exact wpAnyR_first hrefl ht ho (Region.noSelect_spec hs) (hT (0, i) (List.mem_cons_self ..) rfl) (fun _ _ _ h => h) l.length listed a w hcl (Region.free_spec ho hf) hr' hy
          (wpAnyR_can hrefl ht hs l idx _ _ w (hcl.set hr') hTt hTt2 hl hB' hK)
      | succ k =>
        simp only [canonB, Bool.and_eq_true, beq_iff_eq, Nat.ble_eq] at hB
        obtain ⟨⟨hr, hk1⟩, hB'⟩ := hB
        refine ⟨fun h => (by rw [hr] at h; cases h), fun j hj => ?_⟩
        rw [hr] at hj
        obtain rfl : j = i := by simpa using hj
        have hcl' := hcl.set (i := j) (by rw [hr]; simp)
        unfold wpOp
        simp only [ho]
        unfold wpCan at h
        split
        · rename_i hw
          rw [if_pos hw] at h
          refine .inl (wp_only (Oper.wp_mono (fun a' w' hh => ⟨?_, wpAnyR_can hrefl ht hs l idx _ _ w' hcl' hTt hTt2 hl hB' hh.2⟩) h))
          by_cases h0 : k = 0
          · exact .inr (hh.1 h0)
          · exact .inl (hT2 (k + 1, j) (List.mem_cons_self ..) (by simp; omega))
        · rename_i hw
          rw [if_neg hw] at h
          exact ⟨.inr (hrefl w), wpAnyR_can hrefl ht hs l idx _ _ w hcl' hTt hTt2 hl hB' h⟩
/-- a region that draws its order, in the order of 'idx' -/
theorem wp_region_can {id : Nat} {a : Act} {w : World} (R : World → World → Prop) (hrefl : ∀ x, R x x) (ht : ∀ x y z, R x y → R y z → R x z) (idx : List (Nat × Nat)) (l : List (Nat × Oper)) (hm : P.follows .mixedOrders = true)
    (hB : (Region.noSelect ops && canonB .any ops idx (Array.replicate ops.size false) && tailB .any ops idx && idx.length == ops.size) = true) (hl : idx.map (fun x => (ops[x.2]?).map fun o => (x.1, o)) = l.map some)
    (h : wpCan P ops R (fun a w => Q .normal a w) l a w.drew) : (Code.region id ops true).wp P Q a w := by
  simp only [Bool.and_eq_true, beq_iff_eq] at hB
  obtain ⟨⟨⟨hs, hcan⟩, htail⟩, hlen⟩ := hB
  refine Code.wp_mono QN.imp (wp_region_any hm (wpAny_of_R (R := R) (T := isTail idx) _ _ _ _ ?_))
  have hlen' : l.length = ops.size := by
    have := congrArg List.length hl
    simp at this
    omega
  rw [← hlen']
  refine wpAnyR_can hrefl ht hs l idx _ _ _ ?_ ?_ ?_ hl (by simpa [hlen'] using hcan) h
  · intro j o _ hl
    exfalso
    simp only [Array.getD_eq_getD_getElem?, Array.getElem?_replicate] at hl
    split at hl <;> simp at hl
  · intro x hx h0 j hj
    simp only [isTail, List.any_eq_true, Bool.and_eq_true, beq_iff_eq] at hj
    obtain ⟨y, hy, hy2, rfl⟩ := hj
    simp only [tailB, List.all_eq_true, Bool.or_eq_true, bne_iff_ne, beq_iff_eq] at htail
    have h1 := (htail y hy).resolve_left (by simp [hy2])
    exact ⟨12, (h1 x hx).resolve_left (by omega)⟩
  · intro x hx h2
    simp only [isTail, List.any_eq_true, Bool.and_eq_true, beq_iff_eq]
    exact ⟨x, hx, h2, rfl⟩
/-- operations of the walk that yield one value: by the lexical walk of a quiet region -/
theorem wpCan_quiet {Q : Act → World → Prop} (rest : List (Nat × Oper)) : ∀ (l : List Oper) (a : Act) (w : World), l.all calm = true →
    wpQuiet P ops (fun w' => ∃ x : Later R w, w' = x.w) (fun a' => wpCan P ops R Q rest a' w) l a → wpCan P ops R Q (l.map (fun o => (0, o)) ++ rest) a w
  | [], a, w, _, h => h
  | o :: l, a, w, hc, h => by
    simp only [List.all_cons, Bool.and_eq_true] at hc
    unfold wpQuiet at h
    split at h
    · rename_i hw
      obtain ⟨v, h1, h2⟩ := h
      refine ⟨v, .inl ⟨hw, fun w' hR => ?_⟩, wpCan_quiet rest l _ _ hc.2 h2⟩
      have := h1 w' ⟨⟨w', hR⟩, rfl⟩
      unfold Oper.quietAt at this
      cases hr : (execOp a.eval o).run P w' with
      | ok n w2 =>
        obtain ⟨u, rfl⟩ := calm_value hc.1 hr
        rw [hr] at this
        obtain ⟨rfl, rfl⟩ := this
        rfl
      | halt x w2 => rw [hr] at this; cases this
    · rename_i hw
      exact ⟨undef, .inr ⟨by simpa using hw, rfl⟩, wpCan_quiet rest l _ _ hc.2 h⟩
theorem wpCan_skip {Q : Act → World → Prop} {k : Nat} {o : Oper} {l : List (Nat × Oper)} {a : Act} {w : World} (hw : Region.wanted o (yielded ops a.tmps) = false)
    (h : wpCan P ops R Q l (a.put o.dst undef) w) : wpCan P ops R Q ((k + 1, o) :: l) a w := by
  unfold wpCan
  rw [if_neg (by rw [hw]; exact Bool.false_ne_true)]
  exact h
/-- a pivot, walked as in a plain region -/
theorem wpCan_list {Q : Act → World → Prop} {k : Nat} {o : Oper} {l : List (Nat × Oper)} {a : Act} {w : World}
    (h : ∀ K : Exit → Act → World → Prop, (∀ a' w', (k = 0 → R w w') → wpCan P ops R Q l a' w' → K .normal a' w') → wpList P ops K [o] a w) (hR : k = 0 → R w w) : wpCan P ops R Q ((k + 1, o) :: l) a w := by
  have h1 := h (fun e a' w' => e = .normal ∧ (k = 0 → R w w') ∧ wpCan P ops R Q l a' w') fun a' w' g1 g2 => ⟨rfl, g1, g2⟩
  unfold wpList at h1
  unfold wpCan
  split at h1
  · rename_i hw
    rw [if_pos hw]
    rcases h1 with h1 | ⟨_, _, _, hf, _⟩
    · unfold Oper.wp at *
      generalize (execOp a.eval o).run P w = r at *
      cases r with
      | ok n w' =>
        cases n <;> simp only [Oper.upon] at h1 ⊢ <;> try exact h1.2
        case enter f args =>
          refine Calls.mono h1 fun e w'' he => ?_
          cases e with
          | returned u => exact he.2
          | panicked c => exact he.1
          | outgrown => obtain ⟨_, _, hf, _⟩ := he; cases hf
        case row => exact Rows.mono h1 fun v w'' he => he.2
      | halt x w' => cases x <;> simp only [Oper.upon] at h1 ⊢ <;> first | exact h1.1 | cases h1
    · cases hf
  · rename_i hw
    rw [if_neg hw]
    exact h1.2.2
theorem nonemptyLater (hrefl : ∀ x, R x x) (w : World) : Nonempty (Later R w) := ⟨⟨w, hrefl w⟩⟩
end
def Rb (w w' : World) : Prop := Below w.heap.size w w'
theorem Rb_refl (w : World) : Rb w w := Below.refl _ _
theorem Rb_trans (x y z : World) (h : Rb x y) (k : Rb y z) : Rb x z := Below.trans h (Below.mono k h.size)
theorem Sl.later {w : World} {size m : Nat} {v : Value} {xs : List Value} (h : Sl w size v m xs) (x : Later Rb w) : Sl x.w size v m xs := h.below x.later
instance laterRb (w : World) : Nonempty (Later Rb w) := nonemptyLater Rb_refl w
theorem wpCan_seg {P : Program} {ops : Array Oper} {R : World → World → Prop} {Q : Act → World → Prop} (n : Nat) {L : List (Nat × Oper)} {a : Act} {w : World} (hc : (L.take n).all (fun x => x.1 == 0 && calm x.2) = true)
    (h : wpQuiet P ops (fun w' => ∃ x : Later R w, w' = x.w) (fun a' => wpCan P ops R Q (L.drop n) a' w) ((L.take n).map (·.2)) a) : wpCan P ops R Q L a w := by
  have h1 := wpCan_quiet (P := P) (ops := ops) (R := R) (Q := Q) (L.drop n) ((L.take n).map (·.2)) a w ?_ h
  · have e : List.map (fun o => ((0 : Nat), o)) (List.map (fun x => x.2) (L.take n)) ++ L.drop n = L := by
      rw [List.map_map]
      have : List.map ((fun o => ((0 : Nat), o)) ∘ fun x : Nat × Oper => x.2) (L.take n) = L.take n := by
        have : ∀ M : List (Nat × Oper), M.all (fun x => x.1 == 0 && calm x.2) = true → M.map ((fun o => ((0 : Nat), o)) ∘ fun x : Nat × Oper => x.2) = M := by
          intro M hM
          induction M with
          | nil => rfl
          | cons x M ih =>
            simp only [List.all_cons, Bool.and_eq_true, beq_iff_eq] at hM
            rw [List.map_cons, ih hM.2]
            obtain ⟨k, o⟩ := x
            simp only at hM
            simp [hM.1.1]
        exact this _ hc
      rw [this, List.take_append_drop]
    rwa [e] at h1
  · rw [List.all_map]
    refine List.all_eq_true.2 fun x hx => ?_
    have := List.all_eq_true.1 hc x hx
    simp only [Bool.and_eq_true] at this
    exact this.2

/-- in the order of the text -/
theorem wp_region_lex {P : Program} {id : Nat} {Q : Exit → Act → World → Prop} {a : Act} {w : World} (R : World → World → Prop) (hrefl : ∀ x, R x x) (ht : ∀ x y z, R x y → R y z → R x z) (kinds : List Nat) {L : List Oper} (hm : P.follows .mixedOrders = true)
    (hB : (Region.noSelect L.toArray && canonB .any L.toArray kinds.zipIdx (Array.replicate L.toArray.size false) && tailB .any L.toArray kinds.zipIdx && kinds.length == L.length) = true)
    (h : wpCan P L.toArray R (fun a w => Q .normal a w) (kinds.zip L) a w.drew) : (Code.region id L.toArray true).wp P Q a w := by
  simp only [Bool.and_eq_true, beq_iff_eq] at hB
  refine wp_region_can R hrefl ht kinds.zipIdx (kinds.zip L) hm (by rw [hB.1.1.1, hB.1.1.2, hB.1.2]; simp [hB.2]) ?_ h
  apply List.ext_getElem?
  intro i
  by_cases hi : i < kinds.length
  · have hi' : i < L.length := by omega
    have e : (kinds.zip L)[i]? = some (kinds[i], L[i]) := by rw [List.getElem?_eq_getElem (by simp; omega)]; simp
    simp [e, hi, hi']
  · rw [List.getElem?_eq_none (by simp; omega), List.getElem?_eq_none (by simp; omega)]
/-- in an order of my own: 'idx' tells kind and number of each operation -/
def pickO (L : List Oper) : List (Nat × Nat) → List (Nat × Oper)
  | [] => []
  | (k, i) :: r => (k, L.getD i default) :: pickO L r
theorem pickO_ok (L : List Oper) : ∀ (idx : List (Nat × Nat)), idx.all (fun x => Nat.blt x.2 L.length) = true → idx.map (fun x => (L.toArray[x.2]?).map fun o => (x.1, o)) = (pickO L idx).map some
  | [], _ => rfl
  | (k, i) :: r, h => by
    simp only [List.all_cons, Bool.and_eq_true, Nat.blt_eq] at h
    have ih := pickO_ok L r h.2
    simp only [List.getElem?_toArray] at ih
    simp [pickO, ih, h.1]
theorem wp_region_idx {P : Program} {id : Nat} {Q : Exit → Act → World → Prop} {a : Act} {w : World} (R : World → World → Prop) (hrefl : ∀ x, R x x) (ht : ∀ x y z, R x y → R y z → R x z) (idx : List (Nat × Nat)) {L : List Oper} (hm : P.follows .mixedOrders = true)
    (hB : (Region.noSelect L.toArray && canonB .any L.toArray idx (Array.replicate L.toArray.size false) && tailB .any L.toArray idx && idx.length == L.toArray.size) = true) (hI : idx.all (fun x => Nat.blt x.2 L.length) = true)
    (h : wpCan P L.toArray R (fun a w => Q .normal a w) (pickO L idx) a w.drew) : (Code.region id L.toArray true).wp P Q a w :=
  wp_region_can R hrefl ht idx (pickO L idx) hm hB (pickO_ok L idx hI) h
end Go.Proofs.YtoddklfblcfoiaaDoor
