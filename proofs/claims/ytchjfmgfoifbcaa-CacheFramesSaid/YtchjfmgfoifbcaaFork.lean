/-
  A region that draws its order, in which two operations that turn the world may come in either order.
-/
import Derived.Test.YtchjfmgfoifbcaaCanon
namespace Go.Proofs.Ytchjfmgfoifbcaa
open Go.RowKit
set_option linter.unusedVariables false
set_option linter.unusedSimpArgs false

variable {P : Program} {md : Region.Mode} {ops : Array Oper} {R : World → World → Prop} {Q : Exit → Act → World → Prop}
def afterL : List (Nat × Nat) → Array Bool → Array Bool
  | [], listed => listed
  | x :: l, listed => afterL l (listed.setIfInBounds x.2 true)
def preB (md : Region.Mode) (ops : Array Oper) : List (Nat × Nat) → Array Bool → Bool
  | [], _ => true
  | x :: l, listed => x.1 == 0 && (Region.ready md ops listed).contains x.2 && Region.free md ops listed x.2 && preB md ops l (listed.setIfInBounds x.2 true)
theorem wpAnyR_pre (hrefl : ∀ x, R x x) (ht : ∀ x y z, R x y → R y z → R x z) (hs : Region.noSelect ops = true) {T : Nat → Bool} {fuel : Nat} : ∀ (l : List (Nat × Oper)) (idx : List (Nat × Nat)) (listed : Array Bool) (a : Act) (w : World), Closed md ops listed →
    (∀ x ∈ idx, ∀ j, T j = true → ∃ k, waits md ops k j x.2 = true) →
    idx.map (fun x => (ops[x.2]?).map fun o => (x.1, o)) = l.map some → preB md ops idx listed = true →
    wpCan P ops R (fun a w => Closed md ops (afterL idx listed) → wpAnyR P md ops R T (QN Q) fuel (afterL idx listed) a w) l a w → wpAnyR P md ops R T (QN Q) (l.length + fuel) listed a w
  | [], idx, listed, a, w, hcl, _, hl, hB, h => by
    obtain rfl : idx = [] := by simpa using hl
    rw [List.length_nil, Nat.zero_add]
    exact h hcl
  | (b, o) :: l, idx, listed, a, w, hcl, hT, hl, hB, h => by
    cases idx with
    | nil => simp at hl
    | cons x idx =>
      obtain ⟨b', i⟩ := x
      simp only [List.map_cons, List.cons.injEq] at hl
      obtain ⟨h0, hl⟩ := hl
      obtain ⟨o', ho, he⟩ := Option.map_eq_some_iff.1 h0
      cases he
      simp only [preB, Bool.and_eq_true, beq_iff_eq] at hB
      obtain ⟨⟨⟨rfl, hr⟩, hf⟩, hB'⟩ := hB
      have hTt : ∀ x ∈ idx, ∀ j, T j = true → ∃ k, waits md ops k j x.2 = true := fun x hx => hT x (List.mem_cons_of_mem _ hx)
      have hr' : i ∈ Region.ready md ops listed := by simpa using hr
      obtain ⟨v, hy, hK⟩ := h
      have := wpAnyR_first hrefl ht ho (Region.noSelect_spec hs) (hT (0, i) (List.mem_cons_self ..)) (fun _ _ _ h => h) (l.length + fuel) listed a w hcl (Region.free_spec ho hf) hr' hy
        (wpAnyR_pre hrefl ht hs l idx _ _ w (hcl.set hr') hTt hl hB' hK)
      rw [List.length_cons, show l.length + 1 + fuel = l.length + fuel + 1 by omega]
      exact this
theorem wpCan_mono {Q1 Q2 : Act → World → Prop} (hQ : ∀ a w, Q1 a w → Q2 a w) : ∀ (l : List (Nat × Oper)) (a : Act) (w : World), wpCan P ops R Q1 l a w → wpCan P ops R Q2 l a w
  | [], a, w, h => hQ a w h
  | (0, o) :: l, a, w, ⟨v, h1, h2⟩ => ⟨v, h1, wpCan_mono hQ l _ _ h2⟩
  | (k + 1, o) :: l, a, w, h => by
    unfold wpCan at h ⊢
    split
    · rename_i hw
      rw [if_pos hw] at h
      exact Oper.wp_mono (fun a' w' hh => ⟨hh.1, wpCan_mono hQ l _ _ hh.2⟩) h
    · rename_i hw
      rw [if_neg hw] at h
      exact wpCan_mono hQ l _ _ h
theorem wpOp_pivot (hrefl : ∀ x, R x x) {T : Nat → Bool} {j : Nat} {o : Oper} {l : List (Nat × Oper)} {K : Act → World → Prop} {a : Act} {w : World} (ho : ops[j]? = some o)
    (hK : ∀ a w, wpCan P ops R (fun a w => QN Q .normal a w) l a w → K a w)
    (h : wpCan P ops R (fun a w => QN Q .normal a w) ((1, o) :: l) a w) : wpOp P ops (QN Q) j (fun a' w' => (T j = true ∨ R w w') ∧ K a' w') a w := by
  unfold wpOp
  simp only [ho]
  unfold wpCan at h
  split
  · rename_i hw
    rw [if_pos hw] at h
    exact .inl (wp_only (Oper.wp_mono (fun a' w' hh => ⟨.inr (hh.1 rfl), hK _ _ hh.2⟩) h))
  · rename_i hw
    rw [if_neg hw] at h
    exact ⟨.inr (hrefl w), hK _ _ h⟩
theorem wp_region_fork {P : Program} {id : Nat} {Q : Exit → Act → World → Prop} {a : Act} {w : World} (R : World → World → Prop) (hrefl : ∀ x, R x x) (ht : ∀ x y z, R x y → R y z → R x z)
    (p : List (Nat × Nat)) (x y : Nat) (qx qy : List (Nat × Nat)) {L : List Oper} (hm : P.follows .mixedOrders = true)
    (hB : (Region.noSelect L.toArray && preB .any L.toArray p (Array.replicate L.toArray.size false) && Region.ready .any L.toArray (afterL p (Array.replicate L.toArray.size false)) == [x, y]
      && canonB .any L.toArray qx ((afterL p (Array.replicate L.toArray.size false)).setIfInBounds x true) && canonB .any L.toArray qy ((afterL p (Array.replicate L.toArray.size false)).setIfInBounds y true)
      && (qx ++ qy).all (fun t => t.1 != 2 || (p ++ (qx ++ qy)).all fun v => v.1 != 0 || waits .any L.toArray 12 t.2 v.2) && p.length + 1 + qx.length == L.toArray.size && qx.length == qy.length) = true)
    (hI : (p ++ ((1, x) :: qx) ++ ((1, y) :: qy)).all (fun x => Nat.blt x.2 L.length) = true)
    (h : wpCan P L.toArray R (fun a w => wpCan P L.toArray R (fun a w => Q .normal a w) (pickO L ((1, x) :: qx)) a w ∧ wpCan P L.toArray R (fun a w => Q .normal a w) (pickO L ((1, y) :: qy)) a w) (pickO L p) a w.drew) : (Code.region id L.toArray true).wp P Q a w := by
  simp only [Bool.and_eq_true, beq_iff_eq] at hB
  obtain ⟨⟨⟨⟨⟨⟨⟨hs, hpre⟩, hrd⟩, hcx⟩, hcy⟩, htl⟩, hlen⟩, hlen2⟩ := hB
  simp only [List.all_append, Bool.and_eq_true] at hI
  obtain ⟨⟨hI1, hI2⟩, hI3⟩ := hI
  have hI2' := hI2
  have hI3' := hI3
  simp only [List.all_cons, Bool.and_eq_true] at hI2' hI3'
  have hp := pickO_ok L p hI1
  have hx := pickO_ok L _ hI2'.2
  have hy := pickO_ok L _ hI3'.2
  have lenp : ∀ q : List (Nat × Nat), (pickO L q).length = q.length := by
    intro q
    induction q with
    | nil => rfl
    | cons z q ih => simp [pickO, ih]
  have hT0 : ∀ v ∈ p ++ (qx ++ qy), v.1 = 0 → ∀ j, isTail (qx ++ qy) j = true → ∃ k, waits .any L.toArray k j v.2 = true := by
    intro v hv h0 j hj
    simp only [isTail, List.any_eq_true, Bool.and_eq_true, beq_iff_eq] at hj
    obtain ⟨t, ht1, ht2, rfl⟩ := hj
    have h1 := (List.all_eq_true.1 htl) t ht1
    simp only [Bool.or_eq_true, bne_iff_ne, ne_eq, List.all_eq_true] at h1
    have h2 := h1.resolve_left (by simp [ht2]) v hv
    exact ⟨12, h2.resolve_left (by simp [h0])⟩
  have hT2 : ∀ v ∈ qx ++ qy, v.1 = 2 → isTail (qx ++ qy) v.2 = true := by
    intro v hv h2
    simp only [isTail, List.any_eq_true, Bool.and_eq_true, beq_iff_eq]
    exact ⟨v, hv, h2, rfl⟩
  have hp0 : ∀ v ∈ p, v.1 = 0 := by
    have : ∀ (q : List (Nat × Nat)) (listed : Array Bool), preB .any L.toArray q listed = true → ∀ v ∈ q, v.1 = 0 := by
      intro q
      induction q with
      | nil => intro _ _ v hv; simp at hv
      | cons z q ih =>
        intro listed hz v hv
        simp only [preB, Bool.and_eq_true, beq_iff_eq] at hz
        rcases List.mem_cons.1 hv with rfl | hv
        · exact hz.1.1.1
        · exact ih _ hz.2 v hv
    exact this p _ hpre
  refine Code.wp_mono QN.imp (wp_region_any hm (wpAny_of_R (R := R) (T := isTail (qx ++ qy)) _ _ _ _ ?_))
  have hsz : L.toArray.size = (pickO L p).length + (qx.length + 1) := by rw [lenp]; omega
  rw [hsz, ← hsz]
  have hclosed : Closed .any L.toArray (Array.replicate L.toArray.size false) := by
    intro j o _ hl
    exfalso
    simp only [Array.getD_eq_getD_getElem?, Array.getElem?_replicate] at hl
    split at hl <;> simp at hl
  have key := wpAnyR_pre (P := P) (Q := Q) (T := isTail (qx ++ qy)) (fuel := qx.length + 1) hrefl ht hs (pickO L p) p (Array.replicate L.toArray.size false) a w.drew hclosed (fun v hv => hT0 v (List.mem_append_left _ hv) (hp0 v hv)) hp hpre
  rw [← hsz] at key
  refine key ?_
  refine wpCan_mono (fun a w hh hcl => ?_) _ _ _ h
  refine ⟨fun he => (by rw [hrd] at he; cases he), fun j hj => ?_⟩
  rw [hrd] at hj
  have hmx : x ∈ Region.ready .any L.toArray (afterL p (Array.replicate L.toArray.size false)) := by rw [hrd]; simp
  have hmy : y ∈ Region.ready .any L.toArray (afterL p (Array.replicate L.toArray.size false)) := by rw [hrd]; simp
  have hox : L.toArray[x]? = some (L.getD x default) := by
    have h9 : x < L.length := by simpa [Nat.blt_eq] using hI2'.1
    simp [List.getD_eq_getElem?_getD, List.getElem?_eq_getElem h9]
  have hoy : L.toArray[y]? = some (L.getD y default) := by
    have h9 : y < L.length := by simpa [Nat.blt_eq] using hI3'.1
    simp [List.getD_eq_getElem?_getD, List.getElem?_eq_getElem h9]
  rcases List.mem_cons.1 hj with rfl | hj
  · refine wpOp_pivot hrefl hox (fun a w hk => ?_) hh.1
    have := wpAnyR_can (P := P) (Q := Q) (T := isTail (qx ++ qy)) hrefl ht hs (pickO L qx) qx _ a w (hcl.set hmx) (fun v hv => hT0 v (by simp [hv])) (fun v hv => hT2 v (by simp [hv])) hx hcx hk
    rw [lenp] at this
    exact this
  · obtain rfl : j = y := by simpa using hj
    refine wpOp_pivot hrefl hoy (fun a w hk => ?_) hh.2
    have := wpAnyR_can (P := P) (Q := Q) (T := isTail (qx ++ qy)) hrefl ht hs (pickO L qy) qy _ a w (hcl.set hmy) (fun v hv => hT0 v (by simp [hv])) (fun v hv => hT2 v (by simp [hv])) hy hcy hk
    rw [lenp, ← hlen2] at this
    exact this
end Go.Proofs.Ytchjfmgfoifbcaa
