/-
  Code that goes straight on: what may be run; the codes of the law of heights. No condition: plain laws.
-/
import Derived.Test.YtoddklfblcfoiaaDoorCoR
namespace Go.Proofs.YtoddklfblcfoiaaDoor
open Go Go.RowKit
set_option linter.unusedVariables false
set_option linter.unusedSimpArgs false

abbrev K0 : Lab := fun _ => none
theorem outs_flat (K : Lab) (f : Nat) (g : Ins) (at_ : Nat) (x : Ins) (h : Int) : outs K f g at_ x (h, []) = outs K0 f g at_ x (h, []) :=
  outs_mono (K := K0) (K' := K) (s := (h, [])) (fun p hp => by cases hp) (fun p s hp => by cases hp) f g at_ x
theorem straight_yes {l : List Ins} {f : Nat} {g : Ins} (hs : Nat → Int) (h0 : 0 < l.length) (h1 : hs 0 = leastV f)
    (h2 : ∀ i x, l[i]? = some x → outs K0 f g i x (hs i, []) = some [] ∨ (i + 1 < l.length ∧ outs K0 f g i x (hs i, []) = some [((i : Int) + 1, (hs (i + 1), []))])) : RunsP l f g := by
  refine ⟨fun i => if i < l.length then some (hs i, []) else none, h0, by simp only; rw [if_pos h0, h1], fun i s hi => ?_⟩
  simp only at hi
  split at hi
  · rename_i hlt
    cases hi
    refine ⟨l[i], ?_⟩
    rcases h2 i l[i] (List.getElem?_eq_getElem hlt) with h3 | ⟨h3, h4⟩
    · exact ⟨[], List.getElem?_eq_getElem hlt, by rw [outs_flat]; exact h3, fun t ht => by cases ht⟩
    · refine ⟨_, List.getElem?_eq_getElem hlt, by rw [outs_flat]; exact h4, fun t ht => ?_⟩
      rw [List.mem_singleton.1 ht]
      refine ⟨by simp only; omega, by simp only; omega, ?_⟩
      have e : ((i : Int) + 1).toNat = i + 1 := by omega
      simp only [e]
      rw [if_pos h3]
  · cases hi
theorem straight_to {l : List Ins} {f : Nat} {g : Ins} {V : Lab} (hV : ValidV l f g V) (hs : Nat → Int) (h1 : hs 0 = leastV f) : ∀ (m : Nat), 
    (∀ i, i < m → ∃ x, l[i]? = some x ∧ outs K0 f g i x (hs i, []) = some [((i : Int) + 1, (hs (i + 1), []))]) → V m = some (hs m, [])
  | 0, _ => by rw [h1]; exact hV.2.1
  | m + 1, h2 => by
    have ih := straight_to hV hs h1 m (fun i hi => h2 i (by omega))
    obtain ⟨x, ts, h3, h4, h5⟩ := hV.2.2 m _ ih
    obtain ⟨x', h6, h7⟩ := h2 m (by omega)
    rw [h3] at h6
    cases h6
    rw [outs_flat, h7] at h4
    cases h4
    have h8 := (h5 _ (List.mem_singleton.2 rfl)).2.2
    have e : ((m : Int) + 1).toNat = m + 1 := by omega
    simp only [e] at h8
    exact h8
theorem straight_no {l : List Ins} {f : Nat} {g : Ins} (h : RunsP l f g) (hs : Nat → Int) (h1 : hs 0 = leastV f) (m : Nat)
    (h2 : ∀ i, i < m → ∃ x, l[i]? = some x ∧ outs K0 f g i x (hs i, []) = some [((i : Int) + 1, (hs (i + 1), []))]) : ∃ x ts, l[m]? = some x ∧ outs K0 f g m x (hs m, []) = some ts := by
  obtain ⟨V, hV⟩ := h
  obtain ⟨x, ts, h3, h4, _⟩ := hV.2.2 m _ (straight_to hV hs h1 m h2)
  rw [outs_flat] at h4
  exact ⟨x, ts, h3, h4⟩
theorem rooted_nil : RootedP [] := ⟨by decide, fun i x hx => by simp at hx⟩
theorem grp_free (l : List Ins) (h : ∀ x ∈ l, x.op.toNat ≠ 6) (b : By) : grpAll l b = some b := by
  induction l with
  | nil => rfl
  | cons x r ih =>
    unfold grpAll grpS
    rw [if_neg (h x (List.mem_cons_self ..))]
    exact ih (fun y hy => h y (List.mem_cons_of_mem _ hy))
/-! ### so many numbers, so many of them into a tuple -/
def htI (i : Nat) : Ins := ⟨1, (i : Int), 0, 0, []⟩
def htT (t : Nat) : Ins := ⟨11, (t : Int), 0, 0, []⟩
def htH : Ins := ⟨25, 0, 0, 0, []⟩
def htL (a t : Nat) : List Ins := (List.range a).map htI ++ [htT t, htH]
def htC (a t : Nat) : Cod := ⟨[htL a t], []⟩
theorem on_flat (f at_ : Nat) (h tk pt : Int) : onV K0 f at_ (h, []) tk pt = if leastV f ≤ h - tk then some [((at_ : Int) + 1, (h + (pt - tk), []))] else none := rfl
theorem htL_num {a t i : Nat} (h : i < a) : (htL a t)[i]? = some (htI i) := by
  unfold htL
  rw [List.getElem?_append_left (by simp; exact h)]
  simp [h]
theorem htL_tup {a t : Nat} : (htL a t)[a]? = some (htT t) := by
  unfold htL
  rw [List.getElem?_append_right (by simp)]
  simp
theorem htL_end {a t : Nat} : (htL a t)[a + 1]? = some htH := by
  unfold htL
  rw [List.getElem?_append_right (by simp)]
  simp
theorem htL_len (a t : Nat) : (htL a t).length = a + 2 := by simp [htL]
theorem out_num (f i : Nat) (g : Ins) (h : Int) (hh : leastV f ≤ h) : outs K0 f g i (htI i) (h, []) = some [((i : Int) + 1, (h + 1, []))] := by
  show onV K0 f i (h, []) 0 1 = _
  rw [on_flat, if_pos (by omega)]
  simp
theorem out_tup (f i t : Nat) (g : Ins) (h : Int) : outs K0 f g i (htT t) (h, []) = if leastV f ≤ h - t then some [((i : Int) + 1, (h + (1 - t), []))] else none := by
  show onV K0 f i (h, []) (t : Int) 1 = _
  rw [on_flat]
theorem ht_yes {a t : Nat} (ha : a < 60) (h1 : 2 ≤ t) (h2 : t ≤ a) : checkE (htC a t) = 0 := by
  refine checkE_yes ⟨by simp [htC], rooted_nil, fun l hl x hx => ?_, fun _ => none, ?_, fun f h3 h4 => ?_, fun i l hl => ?_⟩
  · simp only [htC, List.mem_singleton] at hl
    subst hl
    simp only [htL, List.mem_append, List.mem_map, List.mem_range, List.mem_cons, List.not_mem_nil, or_false] at hx
    rcases hx with ⟨i, hi, rfl⟩ | rfl | rfl
    · rw [opB, show (htI i).op.toNat = 1 from rfl]
      simp [opK, opV, inB, htI]
      first | exact decide_eq_true (by omega) | (constructor <;> exact decide_eq_true (by omega)) | (trace_state; omega)
    · rw [opB, show (htT t).op.toNat = 11 from rfl]
      simp [opK, opV, inB, htT]
      exact ⟨decide_eq_true (by omega), decide_eq_true (by omega)⟩
    · kernel_rfl
  · refine grp_free _ (fun x hx => ?_) _
    simp only [htC, List.flatten_cons, List.flatten_nil, List.append_nil, htL, List.mem_append, List.mem_map, List.mem_range, List.mem_cons, List.not_mem_nil, or_false] at hx
    rcases hx with ⟨i, hi, rfl⟩ | rfl | rfl
    · show (1 : UInt8).toNat ≠ 6; decide
    · show (11 : UInt8).toNat ≠ 6; decide
    · show (25 : UInt8).toNat ≠ 6; decide
  · simp [htC] at h4; omega
  · cases i with
    | succ i => simp [htC] at hl
    | zero =>
      cases hl
      refine straight_yes (fun i => if i ≤ a then (i : Int) else (a : Int) + 1 - t) (by rw [htL_len]; omega) (by simp [leastV]) (fun i x hx => ?_)
      have hi : i < a + 2 := by have := (List.getElem?_eq_some_iff.1 hx).1; rw [htL_len] at this; exact this
      by_cases h3 : i < a
      · rw [htL_num h3] at hx
        cases hx
        refine .inr ⟨by rw [htL_len]; omega, ?_⟩
        rw [if_pos (by omega), if_pos (by omega), out_num _ _ _ _ (by simp [leastV])]
        simp
      · by_cases h4 : i = a
        · subst h4
          rw [htL_tup] at hx
          cases hx
          refine .inr ⟨by rw [htL_len]; omega, ?_⟩
          rw [if_pos (Nat.le_refl _), if_neg (by omega), out_tup, if_pos (by simp [leastV]; omega)]
          have e : (i : Int) + (1 - (t : Int)) = i + 1 - t := by omega
          rw [e]
        · have h5 : i = a + 1 := by omega
          subst h5
          rw [htL_end] at hx
          cases hx
          exact .inl rfl
theorem ht_no {a t : Nat} (h : ¬ (2 ≤ t ∧ t ≤ a)) : checkE (htC a t) = 17 := by
  refine checkE_no fun hc => ?_
  obtain ⟨_, _, ho, b, _, _, hr⟩ := hc
  have h2 : 2 ≤ t := by
    have := ho (htL a t) (List.mem_singleton.2 rfl) (htT t) (List.mem_of_getElem? (htL_tup))
    rw [opB, show (htT t).op.toNat = 11 from rfl] at this
    simp [opK, opV, inB, htT] at this
    have h9 := of_decide_eq_true this.1
    omega
  have h1 := hr 0 (htL a t) rfl
  obtain ⟨x, ts, h3, h4⟩ := straight_no h1 (fun i => (i : Int)) (by simp [leastV]) a (fun i hi => ⟨htI i, htL_num hi, by rw [out_num _ _ _ _ (by simp [leastV])]; simp⟩)
  rw [htL_tup] at h3
  cases h3
  rw [out_tup, if_neg (by simp [leastV]; omega)] at h4
  cases h4
/-! ### a function that leaves so many -/
def hgL (i : Nat) : Ins := ⟨3, (i : Int), 0, 0, []⟩
def hgP : Ins := ⟨21, 0, 0, 0, []⟩
def hgR : Ins := ⟨8, 0, 0, 0, []⟩
def hgG : Ins := ⟨6, 1, 1, 0, []⟩
def hgF (a p : Nat) : List Ins := (List.range a).map hgL ++ List.replicate p hgP ++ [hgR]
def hgC (a p : Nat) : Cod := ⟨[[hgG, htH], hgF a p], []⟩
theorem hgF_len (a p : Nat) : (hgF a p).length = a + p + 1 := by simp [hgF]; omega
theorem hgF_loc {a p i : Nat} (h : i < a) : (hgF a p)[i]? = some (hgL i) := by
  unfold hgF
  rw [List.getElem?_append_left (by simp; omega), List.getElem?_append_left (by simp; exact h)]
  simp [h]
theorem hgF_pop {a p i : Nat} (h1 : a ≤ i) (h2 : i < a + p) : (hgF a p)[i]? = some hgP := by
  unfold hgF
  rw [List.getElem?_append_left (by simp; omega), List.getElem?_append_right (by simp; omega)]
  rw [List.getElem?_replicate]
  simp
  omega
theorem hgF_ret {a p : Nat} : (hgF a p)[a + p]? = some hgR := by
  unfold hgF
  rw [List.getElem?_append_right (by simp)]
  simp
theorem out_loc (i : Nat) (g : Ins) (h : Int) (hh : (i : Int) < h) : outs K0 1 g i (hgL i) (h, []) = some [((i : Int) + 1, (h + 1, []))] := by
  show (if (i : Int) < h then onV K0 1 i (h, []) 0 1 else none) = _
  rw [if_pos hh, on_flat, if_pos (by simp [leastV]; omega)]
  simp
theorem out_pop (i : Nat) (g : Ins) (h : Int) : outs K0 1 g i hgP (h, []) = if 2 ≤ h then some [((i : Int) + 1, (h - 1, []))] else none := by
  show onV K0 1 i (h, []) 1 0 = _
  rw [on_flat]
  by_cases h2 : 2 ≤ h
  · rw [if_pos h2, if_pos (by simp [leastV]; omega)]
    have e : h + (0 - 1) = h - 1 := by omega
    rw [e]
  · rw [if_neg h2, if_neg (by simp [leastV]; omega)]
theorem out_ret (i : Nat) (g : Ins) (h : Int) : outs K0 1 g i hgR (h, []) = if h = 2 then some [] else none := by
  show (if 0 < 1 ∧ h = 2 ∧ [] = [] then some [] else none) = _
  by_cases h2 : h = 2
  · rw [if_pos h2, if_pos ⟨by decide, h2, rfl⟩]
  · rw [if_neg h2, if_neg (fun e => h2 e.2.1)]
def hgH (a : Nat) (i : Nat) : Int := if i ≤ a then 1 + (i : Int) else 1 + 2 * (a : Int) - i
theorem hg_grp (a p : Nat) : grpAll (hgC a p).f.flatten (fun _ => none) = some (grpAdd (fun _ => none) hgG) := by
  show grpAll (hgG :: ([htH] ++ (hgF a p ++ []))) _ = _
  unfold grpAll grpS
  rw [if_pos (by decide), if_pos (show grpFree (fun _ => none) hgG from fun k _ _ => rfl)]
  refine grp_free _ (fun x hx => ?_) _
  simp only [List.append_nil, hgF, List.mem_append, List.mem_map, List.mem_range, List.mem_cons, List.mem_replicate, List.not_mem_nil, or_false] at hx
  rcases hx with rfl | (⟨i, hi, rfl⟩ | ⟨_, rfl⟩) | rfl
  · show (25 : UInt8).toNat ≠ 6; decide
  · show (3 : UInt8).toNat ≠ 6; decide
  · show (21 : UInt8).toNat ≠ 6; decide
  · show (8 : UInt8).toNat ≠ 6; decide
theorem hg_step {a p i : Nat} (hi : i < a + p) (hp : p ≤ a) : ∃ x, (hgF a p)[i]? = some x ∧ outs K0 1 hgG i x (hgH a i, []) = some [((i : Int) + 1, (hgH a (i + 1), []))] := by
  by_cases h : i < a
  · refine ⟨hgL i, hgF_loc h, ?_⟩
    unfold hgH
    rw [if_pos (by omega), if_pos (by omega), out_loc _ _ _ (by omega)]
    have e : 1 + (i : Int) + 1 = 1 + ((i + 1 : Nat) : Int) := by omega
    rw [e]
  · refine ⟨hgP, hgF_pop (by omega) hi, ?_⟩
    have e1 : hgH a i = 1 + 2 * (a : Int) - i := by unfold hgH; split <;> omega
    have e2 : hgH a (i + 1) = 1 + 2 * (a : Int) - i - 1 := by unfold hgH; rw [if_neg (by omega)]; omega
    rw [e1, e2, out_pop, if_pos (by omega)]
theorem hg_yes {a p : Nat} (ha : a < 60) (h : a = p + 1) : checkE (hgC a p) = 0 := by
  refine checkE_yes ⟨by simp [hgC], rooted_nil, fun l hl x hx => ?_, _, hg_grp a p, fun f h3 h4 => ?_, fun i l hl => ?_⟩
  · simp only [hgC, List.mem_cons, List.not_mem_nil, or_false] at hl
    rcases hl with rfl | rfl
    · simp only [List.mem_cons, List.not_mem_nil, or_false] at hx
      rcases hx with rfl | rfl <;> kernel_rfl
    · simp only [hgF, List.mem_append, List.mem_map, List.mem_range, List.mem_cons, List.mem_replicate, List.not_mem_nil, or_false] at hx
      rcases hx with (⟨i, hi, rfl⟩ | ⟨_, rfl⟩) | rfl
      · rw [opB, show (hgL i).op.toNat = 3 from rfl]
        simp [opK, opV, inB, hgL]
        exact decide_eq_true (by omega)
      · rw [opB, show hgP.op.toNat = 21 from rfl]
        simp [opK, opV, inB, hgP]
      · rw [opB, show hgR.op.toNat = 8 from rfl]
        simp [opK, opV, inB, hgR]
  · have : f = 1 := by simp [hgC] at h4; omega
    subst this
    simp [grpAdd, hgG]
  · cases i with
    | zero =>
      cases hl
      refine straight_yes (fun i => (i : Int)) (by simp) (by simp [leastV]) (fun i x hx => ?_)
      cases i with
      | zero => cases hx; exact .inr ⟨by simp, by kernel_rfl⟩
      | succ i => cases i with
        | zero => cases hx; exact .inl rfl
        | succ i => simp at hx
    | succ i => cases i with
      | succ i => simp [hgC] at hl
      | zero =>
        cases hl
        have hb : insOr (grpAdd (fun _ => none) hgG (0 + 1)) = hgG := by simp [grpAdd, hgG, insOr]
        rw [hb]
        refine straight_yes (hgH a) (by rw [hgF_len]; omega) (by simp [hgH, leastV]) (fun i x hx => ?_)
        have hi : i < a + p + 1 := by have := (List.getElem?_eq_some_iff.1 hx).1; rw [hgF_len] at this; exact this
        by_cases h5 : i = a + p
        · subst h5
          rw [hgF_ret] at hx
          cases hx
          refine .inl ?_
          rw [out_ret, if_pos (by unfold hgH; split <;> omega)]
        · obtain ⟨x', h6, h7⟩ := hg_step (a := a) (p := p) (i := i) (by omega) (by omega)
          rw [h6] at hx
          cases hx
          exact .inr ⟨by rw [hgF_len]; omega, h7⟩
theorem hg_no {a p : Nat} (h : a ≠ p + 1) : checkE (hgC a p) = 17 := by
  refine checkE_no fun hc => ?_
  obtain ⟨_, _, ho, b, hb, _, hr⟩ := hc
  rw [hg_grp] at hb
  cases hb
  have h1 := hr 1 (hgF a p) rfl
  have hb : insOr (grpAdd (fun _ => none) hgG 1) = hgG := by simp [grpAdd, hgG, insOr]
  rw [hb] at h1
  by_cases hp : p ≤ a
  · obtain ⟨x, ts, h3, h4⟩ := straight_no h1 (hgH a) (by simp [hgH, leastV]) (a + p) (fun i hi => hg_step hi hp)
    rw [hgF_ret] at h3
    cases h3
    rw [out_ret, if_neg (by unfold hgH; split <;> omega)] at h4
    cases h4
  · obtain ⟨x, ts, h3, h4⟩ := straight_no h1 (hgH a) (by simp [hgH, leastV]) (2 * a) (fun i hi => by
      obtain ⟨x, h3, h4⟩ := hg_step (a := a) (p := a) (i := i) (by omega) (Nat.le_refl _)
      by_cases h5 : i < a
      · rw [hgF_loc h5] at h3
        cases h3
        exact ⟨_, hgF_loc h5, h4⟩
      · rw [hgF_pop (by omega) (by omega)] at h3
        cases h3
        exact ⟨_, hgF_pop (by omega) (by omega), h4⟩)
    rw [hgF_pop (by omega) (by omega)] at h3
    cases h3
    rw [out_pop, if_neg (by unfold hgH; split <;> omega)] at h4
    cases h4
end Go.Proofs.YtoddklfblcfoiaaDoor
