/-
  A region that draws its order, in the body of a range over a function: by its walk in one order of my own (YtoddklfblcfoiaaDoorCanon). No condition: a law of the walk.
-/
import Derived.Test.YtoddklfblcfoiaaDoorCanon
import Derived.Test.YtoddklfblcfoiaaDoorRange
import Derived.OrdersIn
namespace Go.Proofs.YtoddklfblcfoiaaDoor
open Go.RowKit
set_option linter.unusedVariables false

section
variable {P : Program} {ops : Array Oper} {Q : Exit → Act → World → Prop} {md : Region.Mode} {R : World → World → Prop}

def noDefer (o : Oper) : Bool := match o.op with | .defer _ => false | _ => true
theorem noDefer_spec {o : Oper} (h : noDefer o = true) : ∀ c, o.op ≠ .defer c := by
  intro c e
  unfold noDefer at h
  rw [e] at h
  cases h
/-- the post that lets nothing but the end of the region through -/
def QE (Q : Exit → Act → World → Prop) : Exit → Act → World → Prop
  | .normal, a, w => Q .normal a w
  | _, _, _ => False
theorem QE.imp : ∀ (e : Exit) (a : Act) (w : World), QN (QE Q) e a w → Q e a w := fun e a w h => by
  cases e <;> first | exact h | exact (h : False).elim
theorem QE.lets : ¬ LetsOut (QN (QE Q)) := fun ⟨_, _, h⟩ => h
theorem wpAny_in {l n : Nat} (hd : ∀ (i : Nat) (o : Oper), ops[i]? = some o → noDefer o = true) (hL : ¬ LetsOut Q) : ∀ (fuel : Nat) (listed : Array Bool) (a : Act) (w : World), wpAny P md ops Q fuel listed a w → wpAnyIn (Fence.wide.inRound l) n P md ops Q fuel listed a w
  | 0, _, _, _, h => h
  | fuel + 1, listed, a, w, h => by
    refine ⟨h.1, fun i hi => ?_⟩
    have h1 := h.2 i hi
    unfold wpOp at h1
    unfold wpOpIn
    cases ho : ops[i]? with
    | none => rw [ho] at h1; exact wpAny_in hd hL fuel _ _ _ h1
    | some o =>
      rw [ho] at h1
      simp only at h1 ⊢
      split
      · rename_i hw
        rw [if_pos hw] at h1
        have h2 := h1.resolve_right (fun h => hL h.2)
        refine ⟨fun _ _ => trivial, ?_⟩
        rw [Oper.semAt_plain _ _ _ (noDefer_spec (hd i o ho))]
        unfold Oper.wp at h2
        generalize (execOp a.eval o).run P w = r at *
        cases r with
        | ok x w' =>
          cases x <;> simp only [Oper.upon, Oper.uponIn] at h2 ⊢ <;> try exact wpAny_in hd hL fuel _ _ _ h2
          case enter f args =>
            refine ⟨(fun h => by cases h), CallsIn.inRound l ((callsIn_wide (n := n - 1)).2 (Calls.mono h2 fun e w'' he => ?_))⟩
            cases e with
            | returned v => exact wpAny_in hd hL fuel _ _ _ he
            | panicked c => exact he
            | outgrown => exact he
          case row row args =>
            refine ⟨(fun h => by cases h), ?_⟩
            have h3 := Rows.mono h2 fun v w'' he => wpAny_in (l := l) (n := n) hd hL fuel _ _ _ he
            exact fun c cs _ => let ⟨v, w', r, s⟩ := h3 c cs; ⟨v, w', r, stepsIn_wide.2 s⟩
        | halt x w' => cases x <;> simp only [Oper.upon, Oper.uponIn] at h2 ⊢ <;> exact h2
      · rename_i hw
        rw [if_neg hw] at h1
        exact ⟨fun _ _ => trivial, wpAny_in hd hL fuel _ _ _ h1⟩
end
/-- a region that draws its order, in a round, in the order of 'idx' -/
theorem wpIn_region_can {P : Program} {ops : Array Oper} {Q : Exit → Act → World → Prop} {id r n : Nat} {a : Act} {w : World} (R : World → World → Prop) (hrefl : ∀ x, R x x) (ht : ∀ x y z, R x y → R y z → R x z) (idx : List (Nat × Nat)) (l : List (Nat × Oper)) (hm : P.follows .mixedOrders = true)
    (hB : (Region.noSelect ops && canonB .any ops idx (Array.replicate ops.size false) && tailB .any ops idx && idx.length == ops.size) = true) (hl : idx.map (fun x => (ops[x.2]?).map fun o => (x.1, o)) = l.map some) (hd : ops.all noDefer = true)
    (h : wpCan P ops R (fun a w => Q .normal a w) l a w.drew) : (Code.region id ops true).wpIn (Fence.wide.inRound r) n P Q a w := by
  simp only [Bool.and_eq_true, beq_iff_eq] at hB
  obtain ⟨⟨⟨hs, hcan⟩, htail⟩, hlen⟩ := hB
  refine Code.wpIn_mono (Q := QN (QE Q)) QE.imp ?_
  refine wpIn_region_any hm (wpAny_in (fun i o ho => ?_) QE.lets _ _ _ _ (wpAny_of_R (R := R) (T := isTail idx) _ _ _ _ ?_))
  · obtain ⟨hi, rfl⟩ := Array.getElem?_eq_some_iff.1 ho
    exact Array.all_eq_true.1 hd i hi
  have hlen' : l.length = ops.size := by
    have := congrArg List.length hl
    simp at this
    omega
  rw [← hlen']
  refine wpAnyR_can hrefl ht hs l idx _ _ _ ?_ ?_ ?_ hl (by simpa [hlen'] using hcan) h
  · intro j o _ hl
    exfalso
    simp only [Array.getD_eq_getD_getElem?, Array.getElem?_replicate] at hl
    split at hl <;> simp at hl
  · intro x hx h0 j hj
    simp only [isTail, List.any_eq_true, Bool.and_eq_true, beq_iff_eq] at hj
    obtain ⟨y, hy, hy2, rfl⟩ := hj
    simp only [tailB, List.all_eq_true, Bool.or_eq_true, bne_iff_ne, beq_iff_eq] at htail
    have h1 := (htail y hy).resolve_left (by simp [hy2])
    exact ⟨12, (h1 x hx).resolve_left (by omega)⟩
  · intro x hx h2
    simp only [isTail, List.any_eq_true, Bool.and_eq_true, beq_iff_eq]
    exact ⟨x, hx, h2, rfl⟩
theorem wpIn_region_idx {P : Program} {id r n : Nat} {Q : Exit → Act → World → Prop} {a : Act} {w : World} (R : World → World → Prop) (hrefl : ∀ x, R x x) (ht : ∀ x y z, R x y → R y z → R x z) (idx : List (Nat × Nat)) {L : List Oper} (hm : P.follows .mixedOrders = true)
    (hB : (Region.noSelect L.toArray && canonB .any L.toArray idx (Array.replicate L.toArray.size false) && tailB .any L.toArray idx && idx.length == L.toArray.size) = true) (hI : idx.all (fun x => Nat.blt x.2 L.length) = true) (hd : L.toArray.all noDefer = true)
    (h : wpCan P L.toArray R (fun a w => Q .normal a w) (pickO L idx) a w.drew) : (Code.region id L.toArray true).wpIn (Fence.wide.inRound r) n P Q a w :=
  wpIn_region_can R hrefl ht idx (pickO L idx) hm hB (pickO_ok L idx hI) hd h
/-- later worlds keep all below B -/
def RbL (B : Nat) (x y : World) : Prop := Below B x y
theorem RbL_refl (B : Nat) (w : World) : RbL B w w := Below.refl _ _
theorem RbL_trans (B : Nat) (x y z : World) (h : RbL B x y) (k : RbL B y z) : RbL B x z := Below.trans h k
instance laterRbL (B : Nat) (w : World) : Nonempty (Later (RbL B) w) := nonemptyLater (RbL_refl B) w
theorem laterL_cell {B : Nat} {w : World} {b o : Nat} {v : Value} (h : w.cell? ⟨b, o, none⟩ = some v) (hb : b < B) : ∀ x : Later (RbL B) w.drew, x.w.cell? ⟨b, o, none⟩ = some v :=
  fun x => (Below.cell (p := ⟨b, o, none⟩) x.later hb).trans h
/-! ### a function that holds a range over a function, walked outside any fence -/
theorem calls_of_wp_marks {P : Program} {f : FuncId} {fn : Func} {c : Code} {args : Array Value} {w : World} {R : Ending → World → Prop} (n : Nat) (hf : P.funcs[f]? = some fn) (hb : fn.body = some c)
    (h : c.wp P (bodyPostM Fence.wide n P fn R) { tmps := args ++ Array.replicate (fn.ntmps - args.size) undef, defers := [] } w) : Calls P f args w R :=
  (callsIn_wide (n := n)).1 (callsIn_of_wp_marks hf hb trivial (wpIn_wide.2 h))
theorem range_wide {n : Nat} {P : Program} {g : Operand} {ps : Array Tmp} {assign body : Code} {Q : Exit → Act → World → Prop} {a : Act} {w : World} {gf : FuncId} {lb : Array Value}
    (hg : a.eval g = .func (.func gf) #[] lb) (hent : Enters P gf) (Fin : World → Prop)
    (hcall : ∀ fn r, r = recOf fn a.tmps ps assign body w.heap.size → Laid (w.heap.size + 1) w.heap.size r ((w.alloc (.deferred (some []))).alloc (.loop r)) →
      CallsIn Fence.wide (n - 1) P gf (#[.func (.yield (w.heap.size + 1)) #[] #[]] ++ lb) ((w.alloc (.deferred (some []))).alloc (.loop r)) fun e W =>
      (∃ v, e = .returned v) ∧ Laid (w.heap.size + 1) w.heap.size r W ∧ Fin W)
    (hdone : ∀ W, Fin W → (W.heap[w.heap.size]? = some (.deferred (some []))) → w.heap.size + 1 < W.heap.size → ∀ W', W.grownBy W' (some (w.heap.size + 1)) → Q .normal { a with defers := { target := .collected w.heap.size, args := #[] } :: a.defers } W') :
    (Code.rangeFunc g ps assign body).wp P Q a w :=
  wpIn_wide.1 (range_law (F := Fence.wide) (n := n) rfl (fun h => by cases h) hg trivial hent Fin (fun fn r _ hr hL => hcall fn r hr hL)
    (fun W r hF h1 h2 => hdone W hF h2 (Array.getElem?_eq_some_iff.1 h1).1 _ (grownBy_putObj' W _ _)))
end Go.Proofs.YtoddklfblcfoiaaDoor
