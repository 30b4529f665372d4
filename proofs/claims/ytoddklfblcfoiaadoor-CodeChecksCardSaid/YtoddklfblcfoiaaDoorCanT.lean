/-
  A region that draws its order, in which two pivots come up together: both orders are walked. No condition: a law of the walk.
-/
import Derived.Test.YtoddklfblcfoiaaDoorCanP
namespace Go.Proofs.YtoddklfblcfoiaaDoor
open Go.RowKit
set_option linter.unusedVariables false

section
variable {P : Program} {ops : Array Oper} {Q : Exit → Act → World → Prop} {md : Region.Mode} {R : World → World → Prop} {ks : List Nat} {a0 : Act} {Kp : List PanicEntry → World → Prop}
def preB (md : Region.Mode) (ops : Array Oper) : List Nat → Array Bool → Option (Array Bool)
  | [], listed => some listed
  | i :: l, listed => if (Region.ready md ops listed).contains i && Region.free md ops listed i then preB md ops l (listed.setIfInBounds i true) else none
theorem wpAnyR_pre (hrefl : ∀ x, R x x) (ht : ∀ x y z, R x y → R y z → R x z) (hs : Region.noSelect ops = true) (hks : ∀ (i : Nat) (o : Oper), ops[i]? = some o → keeps ks o = true) {T : Nat → Bool} {N : Nat} {G : Act → World → Prop} {fin : Array Bool} : ∀ (l : List (Nat × Oper)) (idx : List Nat) (listed : Array Bool) (a : Act) (w : World), Closed md ops listed → Hold ks a0 a →
    (∀ i ∈ idx, ∀ j, T j = true → ∃ k, waits md ops k j i = true) →
    idx.map (fun i => (ops[i]?).map fun o => (0, o)) = l.map some → preB md ops idx listed = some fin → (∀ a w, Closed md ops fin → Hold ks a0 a → G a w → wpAnyR P md ops R T (QP Q ks a0 Kp) N fin a w) → wpCanP P ops R ks a0 Kp G l a w → wpAnyR P md ops R T (QP Q ks a0 Kp) (l.length + N) listed a w
  | [], idx, listed, a, w, hcl, hd, _, hl, hB, hG, h => by
    obtain rfl : idx = [] := by simpa using hl
    cases hB
    rw [List.length_nil, Nat.zero_add]
    exact hG a w hcl hd h
  | (b, o) :: l, idx, listed, a, w, hcl, hd, hT, hl, hB, hG, h => by
    cases idx with
    | nil => simp at hl
    | cons i idx =>
      simp only [List.map_cons, List.cons.injEq] at hl
      obtain ⟨h0, hl⟩ := hl
      obtain ⟨o', ho, he⟩ := Option.map_eq_some_iff.1 h0
      cases he
      unfold preB at hB
      split at hB
      · rename_i hrf
        simp only [Bool.and_eq_true] at hrf
        have hr' : i ∈ Region.ready md ops listed := by simpa using hrf.1
        obtain ⟨v, hy, hK⟩ := h
        have e : ((0, o) :: l).length + N = (l.length + N) + 1 := by simp; omega
        rw [e]
        exact wpAnyR_first hrefl ht ho (Region.noSelect_spec hs) (hT i (List.mem_cons_self ..)) (fun c a w h => ⟨h.1.unput (hks _ _ ho), h.2⟩) (l.length + N) listed a w hcl (Region.free_spec ho hrf.2) hr' hy
          (wpAnyR_pre hrefl ht hs hks l idx _ _ w (hcl.set hr') (hd.put (hks _ _ ho) _) (fun i hi => hT i (List.mem_cons_of_mem _ hi)) hl hB hG hK)
      · cases hB
/-- two pivots come up together: what each leaves behind -/
def TwoP (P : Program) (ops : Array Oper) (R : World → World → Prop) (ks : List Nat) (a0 : Act) (Kp : List PanicEntry → World → Prop) (Q : Act → World → Prop) (oi oj : Oper) (li lj : List (Nat × Oper)) (a : Act) (w : World) : Prop :=
  oi.wp P a w (fun a' w' => Hold ks a0 a' ∧ R w w' ∧ wpCanP P ops R ks a0 Kp Q li a' w') (PK Kp) ∧ oj.wp P a w (fun a' w' => Hold ks a0 a' ∧ R w w' ∧ wpCanP P ops R ks a0 Kp Q lj a' w') (PK Kp)
theorem wp_region_two {id : Nat} {a : Act} {w : World} (R : World → World → Prop) (hrefl : ∀ x, R x x) (ht : ∀ x y z, R x y → R y z → R x z) (Kp : List PanicEntry → World → Prop) {L : List Oper} (idx : List Nat) (i j : Nat) (ii ij : List (Nat × Nat)) (fin : Array Bool) (ks : List Nat) (hm : P.follows .mixedOrders = true) (hks : L.toArray.all (keeps ks) = true)
    (hs : Region.noSelect L.toArray = true) (hpre : preB .any L.toArray idx (Array.replicate L.toArray.size false) = some fin) (hrd : (Region.ready .any L.toArray fin == [i, j]) = true)
    (hci : canonB .any L.toArray ii (fin.setIfInBounds i true) = true) (hcj : canonB .any L.toArray ij (fin.setIfInBounds j true) = true)
    (hti : tailB .any L.toArray (idx.map (fun x => (0, x)) ++ ii) = true) (htj : tailB .any L.toArray ij = true) (hsame : (ij.filter (·.1 == 2)).map (·.2) = (ii.filter (·.1 == 2)).map (·.2))
    (hsize : (idx.length + 1 + ii.length == L.toArray.size) = true) (hlen : (ii.length == ij.length) = true)
    (hI0 : (idx.map fun x => (0, x)).all (fun x => Nat.blt x.2 L.length) = true) (hI : ii.all (fun x => Nat.blt x.2 L.length) = true) (hJ : ij.all (fun x => Nat.blt x.2 L.length) = true) (hin : Nat.blt i L.length = true) (hjn : Nat.blt j L.length = true)
    (hK : ∀ c a' w', Hold ks a a' → Kp c w' → Q (.panic c) a' w')
    (h : wpCanP P L.toArray R ks a Kp (fun a' w' => (Region.wanted (L.getD i default) (yielded L.toArray a'.tmps) = true ∧ Region.wanted (L.getD j default) (yielded L.toArray a'.tmps) = true) ∧ TwoP P L.toArray R ks a Kp (fun a w => Q .normal a w) (L.getD i default) (L.getD j default) (pickO L ii) (pickO L ij) a' w') (pickO L (idx.map fun x => (0, x))) a w.drew) : (Code.region id L.toArray true).wp P Q a w := by
  have hlI : (pickO L ii).length = ii.length := by
    have := congrArg List.length (pickO_ok L ii hI)
    simp at this; omega
  have hlJ : (pickO L ij).length = ij.length := by
    have := congrArg List.length (pickO_ok L ij hJ)
    simp at this; omega
  have hl0 : (pickO L (idx.map fun x => (0, x))).length = idx.length := by
    have := congrArg List.length (pickO_ok L (idx.map fun x => (0, x)) hI0)
    simp at this; omega
  simp only [beq_iff_eq] at hrd hsize hlen
  have hksp : ∀ (i : Nat) (o : Oper), L.toArray[i]? = some o → keeps ks o = true := fun i o ho => Array.all_eq_true'.1 hks o (Array.mem_of_getElem? ho)
  have tail : ∀ (A : List (Nat × Nat)), tailB .any L.toArray A = true → ∀ x ∈ A, x.1 = 0 → ∀ k, (∃ y ∈ A, y.1 = 2 ∧ y.2 = k) → ∃ m, waits .any L.toArray m k x.2 = true := by
    intro A hA x hx h0 k ⟨y, hy, hy2, hyk⟩
    simp only [tailB, List.all_eq_true, Bool.or_eq_true, bne_iff_ne, beq_iff_eq] at hA
    have h1 := (hA y hy).resolve_left (by simp [hy2])
    have h2 := (h1 x hx).resolve_left (by omega)
    rw [hyk] at h2
    exact ⟨12, h2⟩
  have tI : ∀ k, isTail ii k = true → ∃ y ∈ ii, y.1 = 2 ∧ y.2 = k := by
    intro k hk
    simp only [isTail, List.any_eq_true, Bool.and_eq_true, beq_iff_eq] at hk
    exact hk
  have tJ : ∀ k, isTail ii k = true ↔ ∃ y ∈ ij, y.1 = 2 ∧ y.2 = k := by
    intro k
    have hmem : k ∈ (ij.filter (·.1 == 2)).map (·.2) ↔ k ∈ (ii.filter (·.1 == 2)).map (·.2) := by rw [hsame]
    simp only [List.mem_map, List.mem_filter, beq_iff_eq] at hmem
    simp only [isTail, List.any_eq_true, Bool.and_eq_true, beq_iff_eq]
    constructor
    · rintro ⟨y, h1, h2, h3⟩
      obtain ⟨z, ⟨g1, g2⟩, g3⟩ := hmem.2 ⟨y, ⟨h1, h2⟩, h3⟩
      exact ⟨z, g1, g2, g3⟩
    · rintro ⟨y, h1, h2, h3⟩
      obtain ⟨z, ⟨g1, g2⟩, g3⟩ := hmem.1 ⟨y, ⟨h1, h2⟩, h3⟩
      exact ⟨z, g1, g2, g3⟩
  have hoi : L.toArray[i]? = some (L.getD i default) := by
    simp only [Nat.blt_eq] at hin
    simp [hin]
  have hoj : L.toArray[j]? = some (L.getD j default) := by
    simp only [Nat.blt_eq] at hjn
    simp [hjn]
  refine Code.wp_mono (QP.imp hK) (wp_region_any hm (wpAny_of_R (R := R) (T := isTail ii) _ _ _ _ ?_))
  have hN : L.toArray.size = (pickO L (idx.map fun x => (0, x))).length + (ii.length + 1) := by rw [hl0]; omega
  rw [hN]
  refine wpAnyR_pre hrefl ht hs hksp _ idx _ _ _ ?_ (Hold.refl _ _) ?_ ?_ (by rw [hN] at hpre; exact hpre) ?_ h
  · intro j o _ hl
    exfalso
    simp only [Array.getD_eq_getD_getElem?, Array.getElem?_replicate] at hl
    split at hl <;> simp at hl
  · intro k hk q hq
    obtain ⟨y, g1, g2, g3⟩ := tI q hq
    exact tail _ hti (0, k) (List.mem_append.2 (.inl (List.mem_map.2 ⟨k, hk, rfl⟩))) rfl q ⟨y, List.mem_append.2 (.inr g1), g2, g3⟩
  · have := pickO_ok L (idx.map fun x => (0, x)) hI0
    rw [List.map_map] at this
    exact this
  · rintro a' w' hcl hd ⟨⟨hwi, hwj⟩, h2i, h2j⟩
    refine ⟨fun h => (by rw [hrd] at h; cases h), fun q hq => ?_⟩
    rw [hrd] at hq
    have hcase : q = i ∨ q = j := by simpa using hq
    rcases hcase with rfl | rfl
    · have hcl' := hcl.set (i := q) (by rw [hrd]; simp)
      unfold wpOp
      simp only [hoi]
      rw [if_pos hwi]
      refine .inl (wp_onlyP hd (Oper.wp_mono (fun a2 w2 hh => ⟨.inr hh.2.1, ?_⟩) h2i))
      rw [← hlI]
      exact wpAnyR_canP hrefl ht hs hksp _ ii _ _ w2 hcl' hh.1 (fun x hx h0 k hk => by
        obtain ⟨y, g1, g2, g3⟩ := tI k hk
        exact tail _ hti x (List.mem_append.2 (.inr hx)) h0 k ⟨y, List.mem_append.2 (.inr g1), g2, g3⟩) (fun x hx h2 => by
        simp only [isTail, List.any_eq_true, Bool.and_eq_true, beq_iff_eq]
        exact ⟨x, hx, h2, rfl⟩) (pickO_ok L ii hI) hci hh.2.2
    · have hcl' := hcl.set (i := q) (by rw [hrd]; simp)
      unfold wpOp
      simp only [hoj]
      rw [if_pos hwj]
      refine .inl (wp_onlyP hd (Oper.wp_mono (fun a2 w2 hh => ⟨.inr hh.2.1, ?_⟩) h2j))
      rw [hlen, ← hlJ]
      exact wpAnyR_canP hrefl ht hs hksp _ ij _ _ w2 hcl' hh.1 (fun x hx h0 k hk => tail _ htj x hx h0 k ((tJ k).1 hk)) (fun x hx h2 => (tJ x.2).2 ⟨x, hx, h2, rfl⟩) (pickO_ok L ij hJ) hcj hh.2.2
end
/-- a pivot's run, as it is walked in a plain region -/
theorem wp_of_list {P : Program} {ops : Array Oper} {R : World → World → Prop} {ks : List Nat} {a0 : Act} {Kp : List PanicEntry → World → Prop} {G : Act → World → Prop} {o : Oper} {a : Act} {w : World}
    (h : ∀ K : Exit → Act → World → Prop, (∀ a' w', Hold ks a0 a' → R w w' → G a' w' → K .normal a' w') → (∀ c a' w', Kp c w' → K (.panic c) a' w') → wpList P ops K [o] a w) (hw0 : Region.wanted o (yielded ops a.tmps) = true) : o.wp P a w (fun a' w' => Hold ks a0 a' ∧ R w w' ∧ G a' w') (PK Kp) := by
  have h1 := h (fun e a' w' => (e = .normal ∧ Hold ks a0 a' ∧ R w w' ∧ G a' w') ∨ ∃ c, e = .panic c ∧ Kp c w') (fun a' w' g0 g1 g2 => .inl ⟨rfl, g0, g1, g2⟩) (fun c a' w' hk => .inr ⟨c, rfl, hk⟩)
  have hno : ∀ {e : Exit} {a' : Act} {w' : World}, e = .outgrown → ¬ ((e = .normal ∧ Hold ks a0 a' ∧ R w w' ∧ G a' w') ∨ ∃ c, e = .panic c ∧ Kp c w') := by
    rintro e a' w' rfl (⟨h, _⟩ | ⟨_, h, _⟩) <;> cases h
  have hnorm : ∀ {a' : Act} {w' : World}, ((Exit.normal = .normal ∧ Hold ks a0 a' ∧ R w w' ∧ G a' w') ∨ ∃ c, Exit.normal = .panic c ∧ Kp c w') → Hold ks a0 a' ∧ R w w' ∧ G a' w' := by
    rintro a' w' (⟨_, h⟩ | ⟨_, h, _⟩)
    · exact h
    · cases h
  have hpan : ∀ {c : List PanicEntry} {a' : Act} {w' : World}, ((Exit.panic c = .normal ∧ Hold ks a0 a' ∧ R w w' ∧ G a' w') ∨ ∃ c', Exit.panic c = .panic c' ∧ Kp c' w') → PK Kp (.panic c) a' w' := by
    rintro c a' w' (⟨h, _⟩ | h)
    · cases h
    · exact .inr h
  unfold wpList at h1
  rw [if_pos hw0] at h1
  rcases h1 with h1 | ⟨_, _, _, hf⟩
  · unfold Oper.wp at *
    generalize (execOp a.eval o).run P w = r at *
    cases r with
    | ok n w' =>
      cases n <;> simp only [Oper.upon] at h1 ⊢ <;> try exact hnorm h1
      case enter f args =>
        refine Calls.mono h1 fun e w'' he => ?_
        cases e with
        | returned u => exact hnorm he
        | panicked c => exact hpan he
        | outgrown => obtain ⟨a0, w0, hf⟩ := he; exact (hno (a' := a0) (w' := w0) rfl hf).elim
      case row => exact Rows.mono h1 fun v w'' he => hnorm he
    | halt x w' => cases x <;> simp only [Oper.upon] at h1 ⊢ <;> first | exact hpan h1 | cases h1
  · exact (hno rfl hf).elim
end Go.Proofs.YtoddklfblcfoiaaDoor
