/-
  A region that draws its order and in which a pivot may panic, walked in one order of my own. No condition: a law of the walk.
-/
import Derived.Test.YtoddklfblcfoiaaDoorCanon
namespace Go.Proofs.YtoddklfblcfoiaaDoor
open Go.RowKit
set_option linter.unusedVariables false

section
variable {P : Program} {ops : Array Oper} {Q : Exit → Act → World → Prop} {md : Region.Mode} {R : World → World → Prop} {ks : List Nat} {a0 : Act} {Kp : List PanicEntry → World → Prop}
theorem put_defers (a : Act) (t : Option Tmp) (v : Value) : (a.put t v).defers = a.defers := by cases t <;> rfl
/-- what stays: what is deferred, and the slots ks -/
def Hold (ks : List Nat) (a0 a : Act) : Prop := a.defers = a0.defers ∧ ∀ k ∈ ks, a.tmps.getD k undef = a0.tmps.getD k undef
theorem Hold.refl (ks : List Nat) (a : Act) : Hold ks a a := ⟨rfl, fun _ _ => rfl⟩
def keeps (ks : List Nat) (o : Oper) : Bool := match o.dst with | none => true | some t => !ks.contains t
theorem getD_put {o : Oper} {ks : List Nat} (h : keeps ks o = true) (a : Act) (v : Value) {k : Nat} (hk : k ∈ ks) : (a.put o.dst v).tmps.getD k undef = a.tmps.getD k undef := by
  unfold keeps at h
  cases hd : o.dst with
  | none => rfl
  | some t =>
    rw [hd] at h
    simp only [Bool.not_eq_true', List.contains_eq_mem, decide_eq_false_iff_not] at h
    have hne : t ≠ k := fun e => h (e ▸ hk)
    simp only [Act.put, Array.getD_eq_getD_getElem?]
    rw [Array.getElem?_setIfInBounds_ne hne]
theorem Hold.put {o : Oper} {ks : List Nat} {a0 a : Act} (hk : keeps ks o = true) (h : Hold ks a0 a) (v : Value) : Hold ks a0 (a.put o.dst v) :=
  ⟨(put_defers ..).trans h.1, fun k hm => (getD_put hk a v hm).trans (h.2 k hm)⟩
theorem Hold.unput {o : Oper} {ks : List Nat} {a0 a : Act} {v : Value} (hk : keeps ks o = true) (h : Hold ks a0 (a.put o.dst v)) : Hold ks a0 a :=
  ⟨(put_defers ..).symm.trans h.1, fun k hm => (getD_put hk a v hm).symm.trans (h.2 k hm)⟩
/-- the post with panics whose worlds Kp tells -/
def QP (Q : Exit → Act → World → Prop) (ks : List Nat) (a0 : Act) (Kp : List PanicEntry → World → Prop) : Exit → Act → World → Prop
  | .normal, a, w => Q .normal a w
  | .outgrown, a, w => Q .outgrown a w
  | .panic c, a, w => Hold ks a0 a ∧ Kp c w
  | _, _, _ => False
theorem QP.imp (hK : ∀ c a w, Hold ks a0 a → Kp c w → Q (.panic c) a w) : ∀ (e : Exit) (a : Act) (w : World), QP Q ks a0 Kp e a w → Q e a w := fun e a w h => by
  cases e <;> first | exact h | exact hK _ _ _ h.1 h.2 | exact (h : False).elim
def PK (Kp : List PanicEntry → World → Prop) : Exit → Act → World → Prop := fun e _ w => e = .normal ∨ ∃ c, e = .panic c ∧ Kp c w
theorem PK.lets : ¬ LetsOut (PK Kp) := fun ⟨_, _, h⟩ => by
  rcases h with h | ⟨_, h, _⟩ <;> cases h
theorem PK.panic {c : List PanicEntry} {a : Act} {w : World} (h : PK Kp (.panic c) a w) : Kp c w := by
  rcases h with h | ⟨_, h, hk⟩
  · cases h
  · cases h; exact hk
def wpCanP (P : Program) (ops : Array Oper) (R : World → World → Prop) (ks : List Nat) (a0 : Act) (Kp : List PanicEntry → World → Prop) (Q : Act → World → Prop) : List (Nat × Oper) → Act → World → Prop
  | [], a, w => Q a w
  | (0, o) :: l, a, w => ∃ v, YieldsR P ops R o v a w ∧ wpCanP P ops R ks a0 Kp Q l (a.put o.dst v) w
  | (k + 1, o) :: l, a, w => if Region.wanted o (yielded ops a.tmps) then o.wp P a w (fun a' w' => Hold ks a0 a' ∧ (k = 0 → R w w') ∧ wpCanP P ops R ks a0 Kp Q l a' w') (PK Kp) else wpCanP P ops R ks a0 Kp Q l (a.put o.dst undef) w
theorem wp_onlyP {o : Oper} {a : Act} {w : World} {K : Act → World → Prop} (hd : Hold ks a0 a) (h : o.wp P a w K (PK Kp)) : o.wp P a w K (QP Q ks a0 Kp) := by
  unfold Oper.wp at *
  generalize (execOp a.eval o).run P w = r at *
  cases r with
  | ok n w' =>
    cases n <;> simp only [Oper.upon] at h ⊢ <;> try exact h
    case enter f args =>
      refine Calls.mono h fun e w'' he => ?_
      cases e with
      | returned u => exact he
      | panicked c => exact ⟨hd, PK.panic he⟩
      | outgrown => exact (PK.lets he).elim
  | halt x w' => cases x <;> simp only [Oper.upon] at h ⊢ <;> first | exact h | exact ⟨hd, PK.panic h⟩
theorem wpAnyR_canP (hrefl : ∀ x, R x x) (ht : ∀ x y z, R x y → R y z → R x z) (hs : Region.noSelect ops = true) (hks : ∀ (i : Nat) (o : Oper), ops[i]? = some o → keeps ks o = true) {T : Nat → Bool} : ∀ (l : List (Nat × Oper)) (idx : List (Nat × Nat)) (listed : Array Bool) (a : Act) (w : World), Closed md ops listed → Hold ks a0 a →
    (∀ x ∈ idx, x.1 = 0 → ∀ j, T j = true → ∃ k, waits md ops k j x.2 = true) → (∀ x ∈ idx, x.1 = 2 → T x.2 = true) →
    idx.map (fun x => (ops[x.2]?).map fun o => (x.1, o)) = l.map some → canonB md ops idx listed = true → wpCanP P ops R ks a0 Kp (fun a w => Q .normal a w) l a w → wpAnyR P md ops R T (QP Q ks a0 Kp) l.length listed a w
  | [], idx, listed, a, w, _, _, _, _, hl, hB, h => by
    obtain rfl : idx = [] := by simpa using hl
    exact ⟨by simpa [canonB] using hB, h⟩
  | (b, o) :: l, idx, listed, a, w, hcl, hd, hT, hT2, hl, hB, h => by
    cases idx with
    | nil => simp at hl
    | cons x idx =>
      obtain ⟨b', i⟩ := x
      simp only [List.map_cons, List.cons.injEq] at hl
      obtain ⟨h0, hl⟩ := hl
      obtain ⟨o', ho, he⟩ := Option.map_eq_some_iff.1 h0
      cases he
      have hTt : ∀ x ∈ idx, x.1 = 0 → ∀ j, T j = true → ∃ k, waits md ops k j x.2 = true := fun x hx => hT x (List.mem_cons_of_mem _ hx)
      have hTt2 : ∀ x ∈ idx, x.1 = 2 → T x.2 = true := fun x hx => hT2 x (List.mem_cons_of_mem _ hx)
      cases b with
      | zero =>
        simp only [canonB, Bool.and_eq_true] at hB
        obtain ⟨⟨hr, hf⟩, hB'⟩ := hB
        have hr' : i ∈ Region.ready md ops listed := by simpa using hr
        obtain ⟨v, hy, hK⟩ := h
        exact wpAnyR_first hrefl ht ho (Region.noSelect_spec hs) (hT (0, i) (List.mem_cons_self ..) rfl) (fun c a w h => ⟨h.1.unput (hks _ _ ho), h.2⟩) l.length listed a w hcl (Region.free_spec ho hf) hr' hy
          (wpAnyR_canP hrefl ht hs hks l idx _ _ w (hcl.set hr') (hd.put (hks _ _ ho) _) hTt hTt2 hl hB' hK)
      | succ k =>
        simp only [canonB, Bool.and_eq_true, beq_iff_eq, Nat.ble_eq] at hB
        obtain ⟨⟨hr, hk1⟩, hB'⟩ := hB
        refine ⟨fun h => (by rw [hr] at h; cases h), fun j hj => ?_⟩
        rw [hr] at hj
        obtain rfl : j = i := by simpa using hj
        have hcl' := hcl.set (i := j) (by rw [hr]; simp)
        unfold wpOp
        simp only [ho]
        unfold wpCanP at h
        split
        · rename_i hw
          rw [if_pos hw] at h
          refine .inl (wp_onlyP hd (Oper.wp_mono (fun a' w' hh => ⟨?_, wpAnyR_canP hrefl ht hs hks l idx _ _ w' hcl' hh.1 hTt hTt2 hl hB' hh.2.2⟩) h))
          by_cases h0 : k = 0
          · exact .inr (hh.2.1 h0)
          · exact .inl (hT2 (k + 1, j) (List.mem_cons_self ..) (by simp; omega))
        · rename_i hw
          rw [if_neg hw] at h
          exact ⟨.inr (hrefl w), wpAnyR_canP hrefl ht hs hks l idx _ _ w hcl' (hd.put (hks _ _ ho) _) hTt hTt2 hl hB' h⟩
theorem wp_region_canP {id : Nat} {a : Act} {w : World} (R : World → World → Prop) (hrefl : ∀ x, R x x) (ht : ∀ x y z, R x y → R y z → R x z) (Kp : List PanicEntry → World → Prop) (idx : List (Nat × Nat)) (l : List (Nat × Oper)) (hm : P.follows .mixedOrders = true)
    (ks : List Nat) (hks : ops.all (keeps ks) = true)
    (hB : (Region.noSelect ops && canonB .any ops idx (Array.replicate ops.size false) && tailB .any ops idx && idx.length == ops.size) = true) (hl : idx.map (fun x => (ops[x.2]?).map fun o => (x.1, o)) = l.map some)
    (hK : ∀ c a' w', Hold ks a a' → Kp c w' → Q (.panic c) a' w')
    (h : wpCanP P ops R ks a Kp (fun a w => Q .normal a w) l a w.drew) : (Code.region id ops true).wp P Q a w := by
  simp only [Bool.and_eq_true, beq_iff_eq] at hB
  obtain ⟨⟨⟨hs, hcan⟩, htail⟩, hlen⟩ := hB
  refine Code.wp_mono (QP.imp hK) (wp_region_any hm (wpAny_of_R (R := R) (T := isTail idx) _ _ _ _ ?_))
  have hlen' : l.length = ops.size := by
    have := congrArg List.length hl
    simp at this
    omega
  rw [← hlen']
  refine wpAnyR_canP hrefl ht hs (fun i o ho => Array.all_eq_true'.1 hks o (Array.mem_of_getElem? ho)) l idx _ _ _ ?_ (Hold.refl _ _) ?_ ?_ hl (by simpa [hlen'] using hcan) h
  · intro j o _ hl
    exfalso
    simp only [Array.getD_eq_getD_getElem?, Array.getElem?_replicate] at hl
    split at hl <;> simp at hl
  · intro x hx h0 j hj
    simp only [isTail, List.any_eq_true, Bool.and_eq_true, beq_iff_eq] at hj
    obtain ⟨y, hy, hy2, rfl⟩ := hj
    simp only [tailB, List.all_eq_true, Bool.or_eq_true, bne_iff_ne, beq_iff_eq] at htail
    have h1 := (htail y hy).resolve_left (by simp [hy2])
    exact ⟨12, (h1 x hx).resolve_left (by omega)⟩
  · intro x hx h2
    simp only [isTail, List.any_eq_true, Bool.and_eq_true, beq_iff_eq]
    exact ⟨x, hx, h2, rfl⟩
theorem wpCanP_quiet {Q : Act → World → Prop} (rest : List (Nat × Oper)) : ∀ (l : List Oper) (a : Act) (w : World), l.all calm = true →
    wpQuiet P ops (fun w' => ∃ x : Later R w, w' = x.w) (fun a' => wpCanP P ops R ks a0 Kp Q rest a' w) l a → wpCanP P ops R ks a0 Kp Q (l.map (fun o => (0, o)) ++ rest) a w
  | [], a, w, _, h => h
  | o :: l, a, w, hc, h => by
    simp only [List.all_cons, Bool.and_eq_true] at hc
    unfold wpQuiet at h
    split at h
    · rename_i hw
      obtain ⟨v, h1, h2⟩ := h
      refine ⟨v, .inl ⟨hw, fun w' hR => ?_⟩, wpCanP_quiet rest l _ _ hc.2 h2⟩
      have := h1 w' ⟨⟨w', hR⟩, rfl⟩
      unfold Oper.quietAt at this
      cases hr : (execOp a.eval o).run P w' with
      | ok n w2 =>
        obtain ⟨u, rfl⟩ := calm_value hc.1 hr
        rw [hr] at this
        obtain ⟨rfl, rfl⟩ := this
        rfl
      | halt x w2 => rw [hr] at this; cases this
    · rename_i hw
      exact ⟨undef, .inr ⟨by simpa using hw, rfl⟩, wpCanP_quiet rest l _ _ hc.2 h⟩
/-- a pivot, walked as in a plain region; it may panic -/
theorem wpCanP_list {Q : Act → World → Prop} {k : Nat} {o : Oper} {l : List (Nat × Oper)} {a : Act} {w : World}
    (h : ∀ K : Exit → Act → World → Prop, (∀ a' w', Hold ks a0 a' → (k = 0 → R w w') → wpCanP P ops R ks a0 Kp Q l a' w' → K .normal a' w') → (∀ c a' w', Kp c w' → K (.panic c) a' w') → wpList P ops K [o] a w) (hw0 : Region.wanted o (yielded ops a.tmps) = true) : wpCanP P ops R ks a0 Kp Q ((k + 1, o) :: l) a w := by
  have h1 := h (fun e a' w' => (e = .normal ∧ Hold ks a0 a' ∧ (k = 0 → R w w') ∧ wpCanP P ops R ks a0 Kp Q l a' w') ∨ ∃ c, e = .panic c ∧ Kp c w') (fun a' w' g0 g1 g2 => .inl ⟨rfl, g0, g1, g2⟩) (fun c a' w' hk => .inr ⟨c, rfl, hk⟩)
  have hno : ∀ {e : Exit} {a' : Act} {w' : World}, e = .outgrown → ¬ ((e = .normal ∧ Hold ks a0 a' ∧ (k = 0 → R w w') ∧ wpCanP P ops R ks a0 Kp Q l a' w') ∨ ∃ c, e = .panic c ∧ Kp c w') := by
    rintro e a' w' rfl (⟨h, _⟩ | ⟨_, h, _⟩) <;> cases h
  have hnorm : ∀ {a' : Act} {w' : World}, ((Exit.normal = .normal ∧ Hold ks a0 a' ∧ (k = 0 → R w w') ∧ wpCanP P ops R ks a0 Kp Q l a' w') ∨ ∃ c, Exit.normal = .panic c ∧ Kp c w') → Hold ks a0 a' ∧ (k = 0 → R w w') ∧ wpCanP P ops R ks a0 Kp Q l a' w' := by
    rintro a' w' (⟨_, h⟩ | ⟨_, h, _⟩)
    · exact h
    · cases h
  have hpan : ∀ {c : List PanicEntry} {a' : Act} {w' : World}, ((Exit.panic c = .normal ∧ Hold ks a0 a' ∧ (k = 0 → R w w') ∧ wpCanP P ops R ks a0 Kp Q l a' w') ∨ ∃ c', Exit.panic c = .panic c' ∧ Kp c' w') → PK Kp (.panic c) a' w' := by
    rintro c a' w' (⟨h, _⟩ | h)
    · cases h
    · exact .inr h
  unfold wpList at h1
  unfold wpCanP
  rw [if_pos hw0]
  rw [if_pos hw0] at h1
  rcases h1 with h1 | ⟨_, _, _, hf⟩
  · unfold Oper.wp at *
    generalize (execOp a.eval o).run P w = r at *
    cases r with
    | ok n w' =>
      cases n <;> simp only [Oper.upon] at h1 ⊢ <;> try exact hnorm h1
      case enter f args =>
        refine Calls.mono h1 fun e w'' he => ?_
        cases e with
        | returned u => exact hnorm he
        | panicked c => exact hpan he
        | outgrown => obtain ⟨a0, w0, hf⟩ := he; exact (hno (a' := a0) (w' := w0) rfl hf).elim
      case row => exact Rows.mono h1 fun v w'' he => hnorm he
    | halt x w' => cases x <;> simp only [Oper.upon] at h1 ⊢ <;> first | exact hpan h1 | cases h1
  · exact (hno rfl hf).elim
end
theorem wpCanP_seg {P : Program} {ops : Array Oper} {R : World → World → Prop} {ks : List Nat} {a0 : Act} {Kp : List PanicEntry → World → Prop} {Q : Act → World → Prop} (n : Nat) {L : List (Nat × Oper)} {a : Act} {w : World} (hc : (L.take n).all (fun x => x.1 == 0 && calm x.2) = true)
    (h : wpQuiet P ops (fun w' => ∃ x : Later R w, w' = x.w) (fun a' => wpCanP P ops R ks a0 Kp Q (L.drop n) a' w) ((L.take n).map (·.2)) a) : wpCanP P ops R ks a0 Kp Q L a w := by
  have h1 := wpCanP_quiet (P := P) (ops := ops) (R := R) (ks := ks) (a0 := a0) (Kp := Kp) (Q := Q) (L.drop n) ((L.take n).map (·.2)) a w ?_ h
  · have e : List.map (fun o => ((0 : Nat), o)) (List.map (fun x => x.2) (L.take n)) ++ L.drop n = L := by
      rw [List.map_map]
      have : List.map ((fun o => ((0 : Nat), o)) ∘ fun x : Nat × Oper => x.2) (L.take n) = L.take n := by
        have : ∀ M : List (Nat × Oper), M.all (fun x => x.1 == 0 && calm x.2) = true → M.map ((fun o => ((0 : Nat), o)) ∘ fun x : Nat × Oper => x.2) = M := by
          intro M hM
          induction M with
          | nil => rfl
          | cons x M ih =>
            simp only [List.all_cons, Bool.and_eq_true, beq_iff_eq] at hM
            rw [List.map_cons, ih hM.2]
            obtain ⟨k, o⟩ := x
            simp only at hM
            simp [hM.1.1]
        exact this _ hc
      rw [this, List.take_append_drop]
    rwa [e] at h1
  · rw [List.all_map]
    refine List.all_eq_true.2 fun x hx => ?_
    have := List.all_eq_true.1 hc x hx
    simp only [Bool.and_eq_true] at this
    exact this.2
/-- a region that draws its order, in the order of 'idx'; its pivots may panic, and Kp tells how -/
theorem wp_region_idxP {P : Program} {id : Nat} {Q : Exit → Act → World → Prop} {a : Act} {w : World} (R : World → World → Prop) (hrefl : ∀ x, R x x) (ht : ∀ x y z, R x y → R y z → R x z) (Kp : List PanicEntry → World → Prop) (idx : List (Nat × Nat)) {L : List Oper} (hm : P.follows .mixedOrders = true)
    (ks : List Nat) (hks : L.toArray.all (keeps ks) = true)
    (hB : (Region.noSelect L.toArray && canonB .any L.toArray idx (Array.replicate L.toArray.size false) && tailB .any L.toArray idx && idx.length == L.toArray.size) = true) (hI : idx.all (fun x => Nat.blt x.2 L.length) = true)
    (hK : ∀ c a' w', Hold ks a a' → Kp c w' → Q (.panic c) a' w')
    (h : wpCanP P L.toArray R ks a Kp (fun a w => Q .normal a w) (pickO L idx) a w.drew) : (Code.region id L.toArray true).wp P Q a w :=
  wp_region_canP R hrefl ht Kp idx (pickO L idx) hm ks hks hB (pickO_ok L idx hI) hK h
end Go.Proofs.YtoddklfblcfoiaaDoor
