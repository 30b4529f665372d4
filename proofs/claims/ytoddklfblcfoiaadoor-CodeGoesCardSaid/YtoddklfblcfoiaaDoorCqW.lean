/-
  However code that may be run goes; code that goes straight on; a small code, and how it is spoilt: the plain laws. No condition: plain laws.
-/
import Derived.Test.YtoddklfblcfoiaaDoorCoR
namespace Go.Proofs.YtoddklfblcfoiaaDoor
open Go Go.RowKit
set_option linter.unusedVariables false
set_option linter.unusedSimpArgs false

abbrev K0 : Lab := fun _ => none
theorem outs_flat (K : Lab) (f : Nat) (g : Ins) (at_ : Nat) (x : Ins) (h : Int) : outs K f g at_ x (h, []) = outs K0 f g at_ x (h, []) :=
  outs_mono (K := K0) (K' := K) (s := (h, [])) (fun p hp => by cases hp) (fun p s hp => by cases hp) f g at_ x
theorem straight_yes {l : List Ins} {f : Nat} {g : Ins} (hs : Nat → Int) (h0 : 0 < l.length) (h1 : hs 0 = leastV f)
    (h2 : ∀ i x, l[i]? = some x → outs K0 f g i x (hs i, []) = some [] ∨ (i + 1 < l.length ∧ outs K0 f g i x (hs i, []) = some [((i : Int) + 1, (hs (i + 1), []))])) : RunsP l f g := by
  refine ⟨fun i => if i < l.length then some (hs i, []) else none, h0, by simp only; rw [if_pos h0, h1], fun i s hi => ?_⟩
  simp only at hi
  split at hi
  · rename_i hlt
    cases hi
    refine ⟨l[i], ?_⟩
    rcases h2 i l[i] (List.getElem?_eq_getElem hlt) with h3 | ⟨h3, h4⟩
    · exact ⟨[], List.getElem?_eq_getElem hlt, by rw [outs_flat]; exact h3, fun t ht => by cases ht⟩
    · refine ⟨_, List.getElem?_eq_getElem hlt, by rw [outs_flat]; exact h4, fun t ht => ?_⟩
      rw [List.mem_singleton.1 ht]
      refine ⟨by simp only; omega, by simp only; omega, ?_⟩
      have e : ((i : Int) + 1).toNat = i + 1 := by omega
      simp only [e]
      rw [if_pos h3]
  · cases hi
theorem straight_to {l : List Ins} {f : Nat} {g : Ins} {V : Lab} (hV : ValidV l f g V) (hs : Nat → Int) (h1 : hs 0 = leastV f) : ∀ (m : Nat), 
    (∀ i, i < m → ∃ x, l[i]? = some x ∧ outs K0 f g i x (hs i, []) = some [((i : Int) + 1, (hs (i + 1), []))]) → V m = some (hs m, [])
  | 0, _ => by rw [h1]; exact hV.2.1
  | m + 1, h2 => by
    have ih := straight_to hV hs h1 m (fun i hi => h2 i (by omega))
    obtain ⟨x, ts, h3, h4, h5⟩ := hV.2.2 m _ ih
    obtain ⟨x', h6, h7⟩ := h2 m (by omega)
    rw [h3] at h6
    cases h6
    rw [outs_flat, h7] at h4
    cases h4
    have h8 := (h5 _ (List.mem_singleton.2 rfl)).2.2
    have e : ((m : Int) + 1).toNat = m + 1 := by omega
    simp only [e] at h8
    exact h8
theorem straight_no {l : List Ins} {f : Nat} {g : Ins} (h : RunsP l f g) (hs : Nat → Int) (h1 : hs 0 = leastV f) (m : Nat)
    (h2 : ∀ i, i < m → ∃ x, l[i]? = some x ∧ outs K0 f g i x (hs i, []) = some [((i : Int) + 1, (hs (i + 1), []))]) : ∃ x ts, l[m]? = some x ∧ outs K0 f g m x (hs m, []) = some ts := by
  obtain ⟨V, hV⟩ := h
  obtain ⟨x, ts, h3, h4, _⟩ := hV.2.2 m _ (straight_to hV hs h1 m h2)
  rw [outs_flat] at h4
  exact ⟨x, ts, h3, h4⟩
theorem rooted_nil : RootedP [] := ⟨by decide, fun i x hx => by simp at hx⟩
theorem grp_free (l : List Ins) (h : ∀ x ∈ l, x.op.toNat ≠ 6) (b : By) : grpAll l b = some b := by
  induction l with
  | nil => rfl
  | cons x r ih =>
    unfold grpAll grpS
    rw [if_neg (h x (List.mem_cons_self ..))]
    exact ih (fun y hy => h y (List.mem_cons_of_mem _ hy))
/-! ### so many numbers, so many of them into a tuple -/
def htI (i : Nat) : Ins := ⟨1, (i : Int), 0, 0, []⟩
def htT (t : Nat) : Ins := ⟨11, (t : Int), 0, 0, []⟩
def htH : Ins := ⟨25, 0, 0, 0, []⟩
def htL (a t : Nat) : List Ins := (List.range a).map htI ++ [htT t, htH]
def htC (a t : Nat) : Cod := ⟨[htL a t], []⟩
theorem on_flat (f at_ : Nat) (h tk pt : Int) : onV K0 f at_ (h, []) tk pt = if leastV f ≤ h - tk then some [((at_ : Int) + 1, (h + (pt - tk), []))] else none := rfl
theorem htL_num {a t i : Nat} (h : i < a) : (htL a t)[i]? = some (htI i) := by
  unfold htL
  rw [List.getElem?_append_left (by simp; exact h)]
  simp [h]
theorem htL_tup {a t : Nat} : (htL a t)[a]? = some (htT t) := by
  unfold htL
  rw [List.getElem?_append_right (by simp)]
  simp
theorem htL_end {a t : Nat} : (htL a t)[a + 1]? = some htH := by
  unfold htL
  rw [List.getElem?_append_right (by simp)]
  simp
theorem htL_len (a t : Nat) : (htL a t).length = a + 2 := by simp [htL]
theorem out_num (f i : Nat) (g : Ins) (h : Int) (hh : leastV f ≤ h) : outs K0 f g i (htI i) (h, []) = some [((i : Int) + 1, (h + 1, []))] := by
  show onV K0 f i (h, []) 0 1 = _
  rw [on_flat, if_pos (by omega)]
  simp
theorem out_tup (f i t : Nat) (g : Ins) (h : Int) : outs K0 f g i (htT t) (h, []) = if leastV f ≤ h - t then some [((i : Int) + 1, (h + (1 - t), []))] else none := by
  show onV K0 f i (h, []) (t : Int) 1 = _
  rw [on_flat]
theorem ht_yes {a t : Nat} (ha : a < 60) (h1 : 2 ≤ t) (h2 : t ≤ a) : checkE (htC a t) = 0 := by
  refine checkE_yes ⟨by simp [htC], rooted_nil, fun l hl x hx => ?_, fun _ => none, ?_, fun f h3 h4 => ?_, fun i l hl => ?_⟩
  · simp only [htC, List.mem_singleton] at hl
    subst hl
    simp only [htL, List.mem_append, List.mem_map, List.mem_range, List.mem_cons, List.not_mem_nil, or_false] at hx
    rcases hx with ⟨i, hi, rfl⟩ | rfl | rfl
    · rw [opB, show (htI i).op.toNat = 1 from rfl]
      simp [opK, opV, inB, htI]
      first | exact decide_eq_true (by omega) | (constructor <;> exact decide_eq_true (by omega)) | (trace_state; omega)
    · rw [opB, show (htT t).op.toNat = 11 from rfl]
      simp [opK, opV, inB, htT]
      exact ⟨decide_eq_true (by omega), decide_eq_true (by omega)⟩
    · kernel_rfl
  · refine grp_free _ (fun x hx => ?_) _
    simp only [htC, List.flatten_cons, List.flatten_nil, List.append_nil, htL, List.mem_append, List.mem_map, List.mem_range, List.mem_cons, List.not_mem_nil, or_false] at hx
    rcases hx with ⟨i, hi, rfl⟩ | rfl | rfl
    · show (1 : UInt8).toNat ≠ 6; decide
    · show (11 : UInt8).toNat ≠ 6; decide
    · show (25 : UInt8).toNat ≠ 6; decide
  · simp [htC] at h4; omega
  · cases i with
    | succ i => simp [htC] at hl
    | zero =>
      cases hl
      refine straight_yes (fun i => if i ≤ a then (i : Int) else (a : Int) + 1 - t) (by rw [htL_len]; omega) (by simp [leastV]) (fun i x hx => ?_)
      have hi : i < a + 2 := by have := (List.getElem?_eq_some_iff.1 hx).1; rw [htL_len] at this; exact this
      by_cases h3 : i < a
      · rw [htL_num h3] at hx
        cases hx
        refine .inr ⟨by rw [htL_len]; omega, ?_⟩
        rw [if_pos (by omega), if_pos (by omega), out_num _ _ _ _ (by simp [leastV])]
        simp
      · by_cases h4 : i = a
        · subst h4
          rw [htL_tup] at hx
          cases hx
          refine .inr ⟨by rw [htL_len]; omega, ?_⟩
          rw [if_pos (Nat.le_refl _), if_neg (by omega), out_tup, if_pos (by simp [leastV]; omega)]
          have e : (i : Int) + (1 - (t : Int)) = i + 1 - t := by omega
          rw [e]
        · have h5 : i = a + 1 := by omega
          subst h5
          rw [htL_end] at hx
          cases hx
          exact .inl rfl
theorem ht_no {a t : Nat} (h : ¬ (2 ≤ t ∧ t ≤ a)) : checkE (htC a t) = 17 := by
  refine checkE_no fun hc => ?_
  obtain ⟨_, _, ho, b, _, _, hr⟩ := hc
  have h2 : 2 ≤ t := by
    have := ho (htL a t) (List.mem_singleton.2 rfl) (htT t) (List.mem_of_getElem? (htL_tup))
    rw [opB, show (htT t).op.toNat = 11 from rfl] at this
    simp [opK, opV, inB, htT] at this
    have h9 := of_decide_eq_true this.1
    omega
  have h1 := hr 0 (htL a t) rfl
  obtain ⟨x, ts, h3, h4⟩ := straight_no h1 (fun i => (i : Int)) (by simp [leastV]) a (fun i hi => ⟨htI i, htL_num hi, by rw [out_num _ _ _ _ (by simp [leastV])]; simp⟩)
  rw [htL_tup] at h3
  cases h3
  rw [out_tup, if_neg (by simp [leastV]; omega)] at h4
  cases h4
/-! ### a function that leaves so many -/
def hgL (i : Nat) : Ins := ⟨3, (i : Int), 0, 0, []⟩
def hgP : Ins := ⟨21, 0, 0, 0, []⟩
def hgR : Ins := ⟨8, 0, 0, 0, []⟩
def hgG : Ins := ⟨6, 1, 1, 0, []⟩
def hgF (a p : Nat) : List Ins := (List.range a).map hgL ++ List.replicate p hgP ++ [hgR]
def hgC (a p : Nat) : Cod := ⟨[[hgG, htH], hgF a p], []⟩
theorem hgF_len (a p : Nat) : (hgF a p).length = a + p + 1 := by simp [hgF]; omega
theorem hgF_loc {a p i : Nat} (h : i < a) : (hgF a p)[i]? = some (hgL i) := by
  unfold hgF
  rw [List.getElem?_append_left (by simp; omega), List.getElem?_append_left (by simp; exact h)]
  simp [h]
theorem hgF_pop {a p i : Nat} (h1 : a ≤ i) (h2 : i < a + p) : (hgF a p)[i]? = some hgP := by
  unfold hgF
  rw [List.getElem?_append_left (by simp; omega), List.getElem?_append_right (by simp; omega)]
  rw [List.getElem?_replicate]
  simp
  omega
theorem hgF_ret {a p : Nat} : (hgF a p)[a + p]? = some hgR := by
  unfold hgF
  rw [List.getElem?_append_right (by simp)]
  simp
theorem out_loc (i : Nat) (g : Ins) (h : Int) (hh : (i : Int) < h) : outs K0 1 g i (hgL i) (h, []) = some [((i : Int) + 1, (h + 1, []))] := by
  show (if (i : Int) < h then onV K0 1 i (h, []) 0 1 else none) = _
  rw [if_pos hh, on_flat, if_pos (by simp [leastV]; omega)]
  simp
theorem out_pop (i : Nat) (g : Ins) (h : Int) : outs K0 1 g i hgP (h, []) = if 2 ≤ h then some [((i : Int) + 1, (h - 1, []))] else none := by
  show onV K0 1 i (h, []) 1 0 = _
  rw [on_flat]
  by_cases h2 : 2 ≤ h
  · rw [if_pos h2, if_pos (by simp [leastV]; omega)]
    have e : h + (0 - 1) = h - 1 := by omega
    rw [e]
  · rw [if_neg h2, if_neg (by simp [leastV]; omega)]
theorem out_ret (i : Nat) (g : Ins) (h : Int) : outs K0 1 g i hgR (h, []) = if h = 2 then some [] else none := by
  show (if 0 < 1 ∧ h = 2 ∧ [] = [] then some [] else none) = _
  by_cases h2 : h = 2
  · rw [if_pos h2, if_pos ⟨by decide, h2, rfl⟩]
  · rw [if_neg h2, if_neg (fun e => h2 e.2.1)]
def hgH (a : Nat) (i : Nat) : Int := if i ≤ a then 1 + (i : Int) else 1 + 2 * (a : Int) - i
theorem hg_grp (a p : Nat) : grpAll (hgC a p).f.flatten (fun _ => none) = some (grpAdd (fun _ => none) hgG) := by
  show grpAll (hgG :: ([htH] ++ (hgF a p ++ []))) _ = _
  unfold grpAll grpS
  rw [if_pos (by decide), if_pos (show grpFree (fun _ => none) hgG from fun k _ _ => rfl)]
  refine grp_free _ (fun x hx => ?_) _
  simp only [List.append_nil, hgF, List.mem_append, List.mem_map, List.mem_range, List.mem_cons, List.mem_replicate, List.not_mem_nil, or_false] at hx
  rcases hx with rfl | (⟨i, hi, rfl⟩ | ⟨_, rfl⟩) | rfl
  · show (25 : UInt8).toNat ≠ 6; decide
  · show (3 : UInt8).toNat ≠ 6; decide
  · show (21 : UInt8).toNat ≠ 6; decide
  · show (8 : UInt8).toNat ≠ 6; decide
theorem hg_step {a p i : Nat} (hi : i < a + p) (hp : p ≤ a) : ∃ x, (hgF a p)[i]? = some x ∧ outs K0 1 hgG i x (hgH a i, []) = some [((i : Int) + 1, (hgH a (i + 1), []))] := by
  by_cases h : i < a
  · refine ⟨hgL i, hgF_loc h, ?_⟩
    unfold hgH
    rw [if_pos (by omega), if_pos (by omega), out_loc _ _ _ (by omega)]
    have e : 1 + (i : Int) + 1 = 1 + ((i + 1 : Nat) : Int) := by omega
    rw [e]
  · refine ⟨hgP, hgF_pop (by omega) hi, ?_⟩
    have e1 : hgH a i = 1 + 2 * (a : Int) - i := by unfold hgH; split <;> omega
    have e2 : hgH a (i + 1) = 1 + 2 * (a : Int) - i - 1 := by unfold hgH; rw [if_neg (by omega)]; omega
    rw [e1, e2, out_pop, if_pos (by omega)]
theorem hg_yes {a p : Nat} (ha : a < 60) (h : a = p + 1) : checkE (hgC a p) = 0 := by
  refine checkE_yes ⟨by simp [hgC], rooted_nil, fun l hl x hx => ?_, _, hg_grp a p, fun f h3 h4 => ?_, fun i l hl => ?_⟩
  · simp only [hgC, List.mem_cons, List.not_mem_nil, or_false] at hl
    rcases hl with rfl | rfl
    · simp only [List.mem_cons, List.not_mem_nil, or_false] at hx
      rcases hx with rfl | rfl <;> kernel_rfl
    · simp only [hgF, List.mem_append, List.mem_map, List.mem_range, List.mem_cons, List.mem_replicate, List.not_mem_nil, or_false] at hx
      rcases hx with (⟨i, hi, rfl⟩ | ⟨_, rfl⟩) | rfl
      · rw [opB, show (hgL i).op.toNat = 3 from rfl]
        simp [opK, opV, inB, hgL]
        exact decide_eq_true (by omega)
      · rw [opB, show hgP.op.toNat = 21 from rfl]
        simp [opK, opV, inB, hgP]
      · rw [opB, show hgR.op.toNat = 8 from rfl]
        simp [opK, opV, inB, hgR]
  · have : f = 1 := by simp [hgC] at h4; omega
    subst this
    simp [grpAdd, hgG]
  · cases i with
    | zero =>
      cases hl
      refine straight_yes (fun i => (i : Int)) (by simp) (by simp [leastV]) (fun i x hx => ?_)
      cases i with
      | zero => cases hx; exact .inr ⟨by simp, by kernel_rfl⟩
      | succ i => cases i with
        | zero => cases hx; exact .inl rfl
        | succ i => simp at hx
    | succ i => cases i with
      | succ i => simp [hgC] at hl
      | zero =>
        cases hl
        have hb : insOr (grpAdd (fun _ => none) hgG (0 + 1)) = hgG := by simp [grpAdd, hgG, insOr]
        rw [hb]
        refine straight_yes (hgH a) (by rw [hgF_len]; omega) (by simp [hgH, leastV]) (fun i x hx => ?_)
        have hi : i < a + p + 1 := by have := (List.getElem?_eq_some_iff.1 hx).1; rw [hgF_len] at this; exact this
        by_cases h5 : i = a + p
        · subst h5
          rw [hgF_ret] at hx
          cases hx
          refine .inl ?_
          rw [out_ret, if_pos (by unfold hgH; split <;> omega)]
        · obtain ⟨x', h6, h7⟩ := hg_step (a := a) (p := p) (i := i) (by omega) (by omega)
          rw [h6] at hx
          cases hx
          exact .inr ⟨by rw [hgF_len]; omega, h7⟩
theorem hg_no {a p : Nat} (h : a ≠ p + 1) : checkE (hgC a p) = 17 := by
  refine checkE_no fun hc => ?_
  obtain ⟨_, _, ho, b, hb, _, hr⟩ := hc
  rw [hg_grp] at hb
  cases hb
  have h1 := hr 1 (hgF a p) rfl
  have hb : insOr (grpAdd (fun _ => none) hgG 1) = hgG := by simp [grpAdd, hgG, insOr]
  rw [hb] at h1
  by_cases hp : p ≤ a
  · obtain ⟨x, ts, h3, h4⟩ := straight_no h1 (hgH a) (by simp [hgH, leastV]) (a + p) (fun i hi => hg_step hi hp)
    rw [hgF_ret] at h3
    cases h3
    rw [out_ret, if_neg (by unfold hgH; split <;> omega)] at h4
    cases h4
  · obtain ⟨x, ts, h3, h4⟩ := straight_no h1 (hgH a) (by simp [hgH, leastV]) (2 * a) (fun i hi => by
      obtain ⟨x, h3, h4⟩ := hg_step (a := a) (p := a) (i := i) (by omega) (Nat.le_refl _)
      by_cases h5 : i < a
      · rw [hgF_loc h5] at h3
        cases h3
        exact ⟨_, hgF_loc h5, h4⟩
      · rw [hgF_pop (by omega) (by omega)] at h3
        cases h3
        exact ⟨_, hgF_pop (by omega) (by omega), h4⟩)
    rw [hgF_pop (by omega) (by omega)] at h3
    cases h3
    rw [out_pop, if_neg (by unfold hgH; split <;> omega)] at h4
    cases h4
theorem grp_keep : ∀ {l : List Ins} {b b' : By}, grpAll l b = some b' → ∀ (k : Nat) (y : Ins), b k = some y → b' k = some y
  | [], b, b', h, k, y, hk => by cases h; exact hk
  | x :: r, b, b', h, k, y, hk => by
    unfold grpAll at h
    cases hx : grpS x b with
    | none => rw [hx] at h; cases h
    | some b1 =>
      rw [hx] at h
      refine grp_keep h k y ?_
      unfold grpS at hx
      split at hx
      · split at hx
        · rename_i h6 hf
          cases hx
          unfold grpAdd
          rw [if_neg (fun hc => by rw [hf k hc.1 hc.2] at hk; cases hk)]
          exact hk
        · cases hx
      · cases hx; exact hk
/-- who makes a function is who says so -/
theorem grp_has : ∀ {l : List Ins} {b b' : By}, grpAll l b = some b' → ∀ (k : Nat) (y : Ins), y ∈ l → y.op.toNat = 6 → y.a ≤ (k : Int) → (k : Int) < y.a + y.b → b' k = some y
  | [], b, b', h, k, y, hy, _, _, _ => by cases hy
  | x :: r, b, b', h, k, y, hy, h6, h1, h2 => by
    unfold grpAll at h
    cases hx : grpS x b with
    | none => rw [hx] at h; cases h
    | some b1 =>
      rw [hx] at h
      rcases List.mem_cons.1 hy with rfl | hy
      · refine grp_keep h k y ?_
        unfold grpS at hx
        rw [if_pos h6] at hx
        split at hx
        · cases hx
          unfold grpAdd
          rw [if_pos ⟨h1, h2⟩]
        · cases hx
      · exact grp_has h k y hy h6 h1 h2
theorem spoil_op {c : Cod} {l : List Ins} {x : Ins} (hl : l ∈ c.f) (hx : x ∈ l) (h : opB c.f.length c.r.length l.length x = false) : checkE c = 17 :=
  checkE_no fun hc => by have := hc.2.2.1 l hl x hx; rw [h] at this; cases this
def smG : Ins := ⟨6, 1, 1, 1, []⟩
def smF0 : List Ins := [⟨1, 5, 0, 0, []⟩, smG, ⟨18, 7, 0, 0, []⟩, ⟨3, 0, 0, 0, []⟩, ⟨1, 7, 0, 0, []⟩, ⟨7, 0, 0, 0, []⟩, ⟨19, 0, 0, 0, []⟩, ⟨15, 0, 0, 0, []⟩, ⟨25, 0, 0, 0, []⟩]
def smF1 : List Ins := [⟨3, 0, 0, 0, []⟩, ⟨4, 0, 0, 0, []⟩, ⟨16, 0, 0, 0, [43]⟩, ⟨8, 0, 0, 0, []⟩]
def smC (r : List Sta) : Cod := ⟨[smF0, smF1], r⟩
def smV0 : Lab := fun i => [(0, []), (1, []), (1, []), (1, [2]), (2, [2]), (3, [2]), (2, [2]), (2, []), (2, [])][i]?
def smV1 : Lab := fun i => [(1, []), (2, []), (3, []), (2, [])][i]?
theorem sm_valid {l : List Ins} {f : Nat} {g : Ins} (L : List Lb) (h0 : 0 < l.length) (hl : L.length = l.length) (h1 : L[0]? = some (leastV f, []))
    (h2 : ∀ i, i < L.length → ∃ s x ts, L[i]? = some s ∧ l[i]? = some x ∧ outs (fun i => L[i]?) f g i x s = some ts ∧ ∀ t ∈ ts, 0 ≤ t.1 ∧ t.1 < l.length ∧ L[t.1.toNat]? = some t.2) : ValidV l f g (fun i => L[i]?) := by
  refine ⟨h0, h1, fun i s hs => ?_⟩
  obtain ⟨s', x, ts, h3, h4, h5, h6⟩ := h2 i (List.getElem?_eq_some_iff.1 hs).1
  simp only at hs
  rw [h3] at hs
  cases hs
  exact ⟨x, ts, h4, h5, h6⟩
theorem sm_runs0 : RunsP smF0 0 ins0 := by
  refine ⟨_, sm_valid [(0, []), (1, []), (1, []), (1, [2]), (2, [2]), (3, [2]), (2, [2]), (2, []), (2, [])] (by decide) rfl rfl (fun i hi => ?_)⟩
  simp only [List.length_cons, List.length_nil] at hi
  have hc : i = 0 ∨ i = 1 ∨ i = 2 ∨ i = 3 ∨ i = 4 ∨ i = 5 ∨ i = 6 ∨ i = 7 ∨ i = 8 := by omega
  rcases hc with rfl | rfl | rfl | rfl | rfl | rfl | rfl | rfl | rfl
  · exact ⟨_, _, [(1, (1, []))], rfl, rfl, by kernel_rfl, fun t ht => by rw [List.mem_singleton.1 ht]; exact ⟨by decide, by decide, rfl⟩⟩
  · exact ⟨_, _, [(2, (1, []))], rfl, rfl, by kernel_rfl, fun t ht => by rw [List.mem_singleton.1 ht]; exact ⟨by decide, by decide, rfl⟩⟩
  · exact ⟨_, _, [(3, (1, [2])), (7, (2, []))], rfl, rfl, by kernel_rfl, fun t ht => by
      rcases List.mem_cons.1 ht with rfl | ht
      · exact ⟨by decide, by decide, rfl⟩
      · rw [List.mem_singleton.1 ht]; exact ⟨by decide, by decide, rfl⟩⟩
  · exact ⟨_, _, [(4, (2, [2]))], rfl, rfl, by kernel_rfl, fun t ht => by rw [List.mem_singleton.1 ht]; exact ⟨by decide, by decide, rfl⟩⟩
  · exact ⟨_, _, [(5, (3, [2]))], rfl, rfl, by kernel_rfl, fun t ht => by rw [List.mem_singleton.1 ht]; exact ⟨by decide, by decide, rfl⟩⟩
  · exact ⟨_, _, [(6, (2, [2]))], rfl, rfl, by kernel_rfl, fun t ht => by rw [List.mem_singleton.1 ht]; exact ⟨by decide, by decide, rfl⟩⟩
  · exact ⟨_, _, [(7, (2, []))], rfl, rfl, by kernel_rfl, fun t ht => by rw [List.mem_singleton.1 ht]; exact ⟨by decide, by decide, rfl⟩⟩
  · exact ⟨_, _, [(8, (2, []))], rfl, rfl, by kernel_rfl, fun t ht => by rw [List.mem_singleton.1 ht]; exact ⟨by decide, by decide, rfl⟩⟩
  · exact ⟨_, _, [], rfl, rfl, by kernel_rfl, fun t ht => by cases ht⟩
theorem sm_runs1 : RunsP smF1 1 smG := by
  refine ⟨_, sm_valid [(1, []), (2, []), (3, []), (2, [])] (by decide) rfl rfl (fun i hi => ?_)⟩
  simp only [List.length_cons, List.length_nil] at hi
  have hc : i = 0 ∨ i = 1 ∨ i = 2 ∨ i = 3 := by omega
  rcases hc with rfl | rfl | rfl | rfl
  · exact ⟨_, _, [(1, (2, []))], rfl, rfl, by kernel_rfl, fun t ht => by rw [List.mem_singleton.1 ht]; exact ⟨by decide, by decide, rfl⟩⟩
  · exact ⟨_, _, [(2, (3, []))], rfl, rfl, by kernel_rfl, fun t ht => by rw [List.mem_singleton.1 ht]; exact ⟨by decide, by decide, rfl⟩⟩
  · exact ⟨_, _, [(3, (2, []))], rfl, rfl, by kernel_rfl, fun t ht => by rw [List.mem_singleton.1 ht]; exact ⟨by decide, by decide, rfl⟩⟩
  · exact ⟨_, _, [], rfl, rfl, by kernel_rfl, fun t ht => by cases ht⟩
theorem sm_grp : grpAll (smF0 ++ smF1) (fun _ => none) = some (grpAdd (fun _ => none) smG) := by
  have h1 : grpAll [⟨1, 5, 0, 0, []⟩] (fun _ => none) = some (fun _ => none) := grp_free _ (by intro x hx; rw [List.mem_singleton.1 hx]; decide) _
  show grpAll ([⟨1, 5, 0, 0, []⟩] ++ smG :: (smF0.drop 2 ++ smF1)) _ = _
  rw [grpAll_append _ _ _ _ h1]
  unfold grpAll grpS
  rw [if_pos (by decide), if_pos (show grpFree (fun _ => none) smG from fun k _ _ => rfl)]
  refine grp_free _ (fun x hx => ?_) _
  simp only [smF0, smF1, List.drop_succ_cons, List.drop_zero, List.mem_append, List.mem_cons, List.not_mem_nil, or_false] at hx
  rcases hx with (rfl | rfl | rfl | rfl | rfl | rfl | rfl) | rfl | rfl | rfl | rfl <;> decide
theorem sm_yes {r : List Sta} (hr : RootedP r) : checkE (smC r) = 0 := by
  refine checkE_yes ⟨by simp [smC], hr, fun l hl x hx => ?_, _, by simp only [smC, List.flatten_cons, List.flatten_nil, List.append_nil]; exact sm_grp, fun f h3 h4 => ?_, fun i l hl => ?_⟩
  · simp only [smC, List.mem_cons, List.not_mem_nil, or_false] at hl
    rcases hl with rfl | rfl
    · simp only [smF0, List.mem_cons, List.not_mem_nil, or_false] at hx
      rcases hx with rfl | rfl | rfl | rfl | rfl | rfl | rfl | rfl | rfl <;> kernel_rfl
    · simp only [smF1, List.mem_cons, List.not_mem_nil, or_false] at hx
      rcases hx with rfl | rfl | rfl | rfl <;> kernel_rfl
  · have : f = 1 := by simp [smC] at h4; omega
    subst this
    simp [grpAdd, smG]
  · cases i with
    | zero => cases hl; exact sm_runs0
    | succ i => cases i with
      | zero => cases hl; exact sm_runs1
      | succ i => simp [smC] at hl
/-- the small code, one of its instructions another one -/
def smX (f k : Nat) (x : Ins) : Cod := if f = 0 then ⟨[smF0.set k x, smF1], []⟩ else ⟨[smF0, smF1.set k x], []⟩
def smAt (f k : Nat) : Option Ins := if f = 0 then smF0[k]? else smF1[k]?
theorem smX_no {f k : Nat} {x y : Ins} (hy : smAt f k = some y) (h : opB 2 0 9 x = false ∧ opB 2 0 4 x = false) : checkE (smX f k x) = 17 := by
  unfold smAt at hy
  unfold smX
  split at hy
  · rename_i h0
    rw [if_pos h0]
    have hk : k < 9 := (List.getElem?_eq_some_iff.1 hy).1
    refine spoil_op (l := smF0.set k x) (List.mem_cons_self ..) (List.mem_of_getElem? (i := k) (by rw [List.getElem?_set, if_pos rfl, if_pos (show k < smF0.length from hk)])) ?_
    rw [List.length_set]
    exact h.1
  · rename_i h0
    rw [if_neg h0]
    have hk : k < 4 := (List.getElem?_eq_some_iff.1 hy).1
    refine spoil_op (l := smF1.set k x) (List.mem_cons_of_mem _ (List.mem_cons_self ..)) (List.mem_of_getElem? (i := k) (by rw [List.getElem?_set, if_pos rfl, if_pos (show k < smF1.length from hk)])) ?_
    rw [List.length_set]
    exact h.2
theorem sm_at {f k : Nat} {y : Ins} (h : smAt f k = some y) : y ∈ smF0 ∨ y ∈ smF1 := by
  unfold smAt at h
  split at h
  · exact .inl (List.mem_of_getElem? h)
  · exact .inr (List.mem_of_getElem? h)
theorem smX_0 {f k : Nat} {y : Ins} (hy : smAt f k = some y) (o : UInt8) (ho : o.toNat = 0 ∨ 26 ≤ o.toNat) : checkE (smX f k { y with op := o }) = 17 := by
  refine smX_no hy ?_
  rcases ho with h | h
  · exact ⟨op_zero h, op_zero h⟩
  · exact ⟨op_high h, op_high h⟩
theorem smX_1 {f k : Nat} {y : Ins} (hy : smAt f k = some y) : checkE (smX f k { y with t := [120] }) = 17 := by
  refine smX_no hy ?_
  rcases sm_at hy with h | h
  · simp only [smF0, smG, List.mem_cons, List.not_mem_nil, or_false] at h
    rcases h with rfl | rfl | rfl | rfl | rfl | rfl | rfl | rfl | rfl <;> exact ⟨by kernel_rfl, by kernel_rfl⟩
  · simp only [smF1, List.mem_cons, List.not_mem_nil, or_false] at h
    rcases h with rfl | rfl | rfl | rfl <;> exact ⟨by kernel_rfl, by kernel_rfl⟩
theorem in0 {z : Int} (h : z ≠ 0) : inB (0, 0) z = false := by
  unfold inB
  by_cases h1 : (0 : Int) ≤ z
  · rw [decide_eq_false (p := z ≤ (0, (0 : Int)).2) (by simp only; omega), Bool.and_false]
  · rw [decide_eq_false (p := (0, (0 : Int)).1 ≤ z) (by simp only; omega), Bool.false_and]
theorem op_b0 {nF nR n : Nat} {x : Ins} (h : (opK nF nR n x x.op.toNat).map (fun r => r.2.1) = some (0, 0)) (hb : x.b ≠ 0) : opB nF nR n x = false := by
  unfold opB
  cases hq : opK nF nR n x x.op.toNat with
  | none => rfl
  | some r =>
    obtain ⟨ra, rb, rc, said⟩ := r
    rw [hq] at h
    have h1 : rb = (0, 0) := Option.some.inj h
    subst h1
    show (said && inB ra x.a && inB (0, 0) x.b && inB rc x.c) = false
    rw [in0 hb]
    simp
theorem op_c0 {nF nR n : Nat} {x : Ins} (h : (opK nF nR n x x.op.toNat).map (fun r => r.2.2.1) = some (0, 0)) (hb : x.c ≠ 0) : opB nF nR n x = false := by
  unfold opB
  cases hq : opK nF nR n x x.op.toNat with
  | none => rfl
  | some r =>
    obtain ⟨ra, rb, rc, said⟩ := r
    rw [hq] at h
    have h1 : rc = (0, 0) := Option.some.inj h
    subst h1
    show (said && inB ra x.a && inB rb x.b && inB (0, 0) x.c) = false
    rw [in0 hb]
    simp
theorem smX_2 {f k : Nat} {y : Ins} (hy : smAt f k = some y) (z : Int) (hz : z ≠ 0) (h6 : y.op.toNat ≠ 6) : checkE (smX f k { y with b := z }) = 17 := by
  refine smX_no hy ?_
  rcases sm_at hy with h | h
  · simp only [smF0, smG, List.mem_cons, List.not_mem_nil, or_false] at h
    rcases h with rfl | rfl | rfl | rfl | rfl | rfl | rfl | rfl | rfl
    all_goals first | exact absurd rfl h6 | exact ⟨op_b0 (by kernel_rfl) hz, op_b0 (by kernel_rfl) hz⟩
  · simp only [smF1, List.mem_cons, List.not_mem_nil, or_false] at h
    rcases h with rfl | rfl | rfl | rfl
    all_goals first | exact absurd rfl h6 | exact ⟨op_b0 (by kernel_rfl) hz, op_b0 (by kernel_rfl) hz⟩
theorem smX_3 {f k : Nat} {y : Ins} (hy : smAt f k = some y) (z : Int) (hz : z ≠ 0) (h6 : y.op.toNat ≠ 6) : checkE (smX f k { y with c := z }) = 17 := by
  refine smX_no hy ?_
  rcases sm_at hy with h | h
  · simp only [smF0, smG, List.mem_cons, List.not_mem_nil, or_false] at h
    rcases h with rfl | rfl | rfl | rfl | rfl | rfl | rfl | rfl | rfl
    all_goals first | exact absurd rfl h6 | exact ⟨op_c0 (by kernel_rfl) hz, op_c0 (by kernel_rfl) hz⟩
  · simp only [smF1, List.mem_cons, List.not_mem_nil, or_false] at h
    rcases h with rfl | rfl | rfl | rfl
    all_goals first | exact absurd rfl h6 | exact ⟨op_c0 (by kernel_rfl) hz, op_c0 (by kernel_rfl) hz⟩
def smN : Ins := ⟨16, 0, 0, 0, [110, 111, 98, 111, 100, 121]⟩
theorem smX_6 {f k : Nat} {y : Ins} (hy : smAt f k = some y) : checkE (smX f k smN) = 17 := smX_no hy ⟨by kernel_rfl, by kernel_rfl⟩
def sm3 : Cod := ⟨[smF0, smF1, [⟨3, 0, 0, 0, []⟩, ⟨8, 0, 0, 0, []⟩]], []⟩
theorem sm3_no : checkE sm3 = 17 := checkE_no fun hc => by
  obtain ⟨_, _, _, b, h1, h2, _⟩ := hc
  have h3 := h2 2 (by decide) (by decide)
  cases hb : b 2 with
  | none => exact h3 hb
  | some x =>
    rcases grp_of h1 2 x hb with h4 | ⟨h4, h5, h6, h7⟩
    · cases h4
    · simp only [sm3, smF0, smF1, smG, List.flatten_cons, List.flatten_nil, List.append_nil, List.mem_append, List.mem_cons, List.not_mem_nil, or_false] at h4
      rcases h4 with (rfl | rfl | rfl | rfl | rfl | rfl | rfl | rfl | rfl) | (rfl | rfl | rfl | rfl) | rfl | rfl
      all_goals first | exact absurd h5 (by decide) | exact absurd h7 (by decide)
def sm4G : Ins := ⟨6, 1, 1, 0, []⟩
def sm4 : Cod := ⟨[smF0 ++ [sm4G], smF1], []⟩
theorem sm4_no : checkE sm4 = 17 := checkE_no fun hc => by
  obtain ⟨_, _, _, b, h1, _, _⟩ := hc
  have h2 := grp_has h1 1 smG (by simp [sm4, smF0]) (by decide) (by decide) (by decide)
  have h3 := grp_has h1 1 sm4G (by simp [sm4]) (by decide) (by decide) (by decide)
  rw [h2] at h3
  exact absurd (congrArg Ins.c (Option.some.inj h3)) (by decide)
def smR : List Sta := [⟨[114], [105, 110, 116]⟩, ⟨[115], [105, 110, 116]⟩]
def smR2 : List Sta := [⟨[114], [105, 110, 116]⟩, ⟨[114], [105, 110, 116]⟩]
theorem smR_yes : checkE (smC smR) = 0 := by
  refine sm_yes ⟨by decide, fun i x hx => ?_⟩
  cases i with
  | zero => cases hx; exact ⟨fun j hj => by omega, by kernel_rfl⟩
  | succ i => cases i with
    | zero =>
      cases hx
      refine ⟨fun j hj y hy => ?_, by kernel_rfl⟩
      have : j = 0 := by omega
      subst this
      cases hy
      decide
    | succ i => simp [smR] at hx
theorem smR_no : checkE (smC smR2) = 17 := checkE_no fun hc => by
  have := (hc.2.1.2 1 _ rfl).1 0 (by decide) _ rfl
  exact this rfl
structure Ms where
  at_ : Int
  h : Int
  T : List (Int × Int)
  wrong : Bool
  done : Bool
def lowM (first : Int) (T : List (Int × Int)) : Int := match T.getLast? with | none => first | some x => max first x.2
def onM (first tk pt : Int) (m : Ms) : Ms := ⟨m.at_ + 1, m.h - tk + pt, m.T, m.wrong || decide (m.h - tk < lowM first m.T), m.done⟩
def raiseM (m : Ms) : Ms := match m.T.getLast? with
  | none => ⟨m.at_, m.h, m.T, m.wrong, true⟩
  | some x => ⟨x.1, x.2 + 1, m.T.dropLast, m.wrong || decide (m.h < x.2), m.done⟩
def someM (first tk : Int) (way : Nat) (m : Ms) : Ms := let m1 := onM first tk 1 m; if way % 5 = 4 then raiseM ⟨m1.at_, m1.h - 1, m1.T, m1.wrong, m1.done⟩ else m1
def badM (b : Bool) (m : Ms) : Ms := ⟨m.at_, m.h, m.T, m.wrong || b, m.done⟩
def ifM (way : Nat) (a : Int) (m : Ms) : Ms := if way % 2 = 1 then ⟨a, m.h, m.T, m.wrong, m.done⟩ else m
def endM (m : Ms) : Ms := match m.T.getLast? with
  | none => ⟨m.at_, m.h, m.T, true, m.done⟩
  | some x => if m.h = x.2 + 1 then ⟨m.at_ + 1, m.h, m.T.dropLast, m.wrong, m.done⟩ else ⟨m.at_, m.h, m.T, true, m.done⟩
def doneM (m : Ms) : Ms := ⟨m.at_, m.h, m.T, m.wrong, true⟩
/-- what one more instruction does -/
def nextM (f nR : Nat) (first : Int) (g : Ins) (way : Nat) (x : Ins) (m : Ms) : Ms :=
  if x.op.toNat = 3 then onM first 0 1 (badM (decide (m.h ≤ x.a)) m)
  else if x.op.toNat = 4 then onM first 0 1 (badM (decide (g.c ≤ x.a)) m)
  else if x.op.toNat = 5 then onM first 0 1 (badM (decide (g.b ≤ x.a)) m)
  else if x.op.toNat = 8 then doneM (badM (decide (f = 0 ∨ m.h ≠ 2 ∨ m.T ≠ [])) m)
  else if x.op.toNat = 25 then doneM (badM (decide (f ≠ 0 ∨ m.T ≠ [])) m)
  else if x.op.toNat = 17 then raiseM (onM first 1 0 m)
  else if x.op.toNat = 9 then ⟨x.a, m.h, m.T, m.wrong, m.done⟩
  else if x.op.toNat = 10 then ifM way x.a (onM first 1 0 m)
  else if x.op.toNat = 18 then ⟨m.at_ + 1, m.h, m.T ++ [(x.a, m.h)], m.wrong, m.done⟩
  else if x.op.toNat = 19 then endM m
  else if x.op.toNat = 23 then (let m1 := badM (decide (f ≠ 0 ∨ x.a < 0 ∨ (nR : Int) ≤ x.a)) m; if way % 2 = 1 then ⟨x.b, m1.h + 1, m1.T, m1.wrong, m1.done⟩ else ⟨m1.at_ + 1, m1.h, m1.T, m1.wrong, m1.done⟩)
  else if x.op.toNat = 24 then onM first 1 1 (badM (decide (f ≠ 0 ∨ x.a < 0 ∨ (nR : Int) ≤ x.a)) m)
  else if x.op.toNat = 7 then someM first 2 way m
  else if x.op.toNat = 16 then someM first (takesN x.t) way (badM (!takesB x.t) m)
  else onM first (movesV x).1 (movesV x).2 m
/-- the tries that are open, in the machine and in the labelling -/
inductive TrI (V : Lab) (n : Nat) : List (Int × Int) → List Nat → Prop where
  | nil : TrI V n [] []
  | snoc {T : List (Int × Int)} {ps : List Nat} {q : Nat} {t1 hh : Int} : TrI V n T ps → V q = some (hh, ps) → 0 ≤ t1 → t1 < n → V t1.toNat = some (hh + 1, ps) → TrI V n (T ++ [(t1, hh)]) (ps ++ [q])
theorem TrI.last {V : Lab} {n : Nat} {T : List (Int × Int)} {ps : List Nat} (h : TrI V n T ps) : (T = [] ∧ ps = []) ∨ ∃ (T' : List (Int × Int)) (ps' : List Nat) (q : Nat) (t1 hh : Int), T = T' ++ [(t1, hh)] ∧ ps = ps' ++ [q] ∧ TrI V n T' ps' ∧ V q = some (hh, ps') ∧ 0 ≤ t1 ∧ t1 < n ∧ V t1.toNat = some (hh + 1, ps') := by
  cases h with
  | nil => exact .inl ⟨rfl, rfl⟩
  | snoc h1 h2 h3 h4 h5 => exact .inr ⟨_, _, _, _, _, rfl, rfl, h1, h2, h3, h4, h5⟩
theorem TrI.least {V : Lab} {n : Nat} {T : List (Int × Int)} {ps : List Nat} (h : TrI V n T ps) (f : Nat) (z : Int) : lowM (leastV f) T = floorV V f (z, ps) := by
  rcases h.last with ⟨rfl, rfl⟩ | ⟨T', ps', q, t1, hh, rfl, rfl, h1, h2, h3, h4, h5⟩
  · rfl
  · unfold lowM floorV
    simp only [List.getLast?_append, List.getLast?_singleton, Option.some_or]
    have : hOf V q = hh := by unfold hOf; rw [h2]
    rw [this]
/-- how things stand in between: where it is there is a label, and it says so -/
def MGo (V : Lab) (n : Nat) (m : Ms) : Prop := ∃ (p : Nat) (s : Lb), m.at_ = p ∧ p < n ∧ V p = some s ∧ m.h = s.1 ∧ TrI V n m.T s.2
def MInv (V : Lab) (n : Nat) (m : Ms) : Prop := m.wrong = false ∧ (m.done = true ∨ MGo V n m)
theorem go_on {V : Lab} {n f : Nat} {m : Ms} {p : Nat} {s : Lb} {tk pt : Int} {ts : List (Int × Lb)} (h1 : m.at_ = p) (h2 : m.h = s.1) (hT : TrI V n m.T s.2) (hw : m.wrong = false) (ho : onV V f p s tk pt = some ts) (hts : ∀ t ∈ ts, 0 ≤ t.1 ∧ t.1 < n ∧ V t.1.toNat = some t.2) :
    (onM (leastV f) tk pt m).wrong = false ∧ MGo V n (onM (leastV f) tk pt m) := by
  obtain ⟨h3, rfl⟩ := on_of ho
  have h4 := hts _ (List.mem_singleton.2 rfl)
  have e : ((p : Int) + 1).toNat = p + 1 := by omega
  simp only [e] at h4
  refine ⟨?_, p + 1, _, ?_, ?_, h4.2.2, ?_, hT⟩
  · show (m.wrong || decide (m.h - tk < lowM (leastV f) m.T)) = false
    have e2 : floorV V f (s.1, s.2) = floorV V f s := rfl
    rw [hw, hT.least f s.1, e2, h2, decide_eq_false (by omega)]
    rfl
  · show m.at_ + 1 = _
    rw [h1]; rfl
  · have := h4.2.1; omega
  · show m.h - tk + pt = s.1 + (pt - tk)
    omega
theorem go_raise {V : Lab} {n f : Nat} {m : Ms} {ps : List Nat} {z : Int} (hw : m.wrong = false) (hT : TrI V n m.T ps) (hf : floorV V f (z, ps) ≤ m.h) : (raiseM m).wrong = false ∧ ((raiseM m).done = true ∨ MGo V n (raiseM m)) := by
  have hl := hT.least f z
  rcases hT.last with ⟨h1, rfl⟩ | ⟨T', ps', q, t1, hh, h1, rfl, h2, h3, h4, h5, h6⟩
  · unfold raiseM
    rw [h1]
    exact ⟨hw, .inl rfl⟩
  · unfold raiseM
    rw [← hl] at hf
    unfold lowM at hf
    rw [h1] at hf ⊢
    simp only [List.getLast?_append, List.getLast?_singleton, Option.some_or, List.dropLast_concat] at hf ⊢
    refine ⟨?_, .inr ⟨t1.toNat, (hh + 1, ps'), ?_, ?_, h6, rfl, h2⟩⟩
    · rw [hw, decide_eq_false (by omega)]; rfl
    · simp only; omega
    · omega
theorem go_some {V : Lab} {n f : Nat} {m : Ms} {p : Nat} {s : Lb} {tk : Int} {ts : List (Int × Lb)} (way : Nat) (h1 : m.at_ = p) (h2 : m.h = s.1) (hT : TrI V n m.T s.2) (hw : m.wrong = false) (ho : onV V f p s tk 1 = some ts) (hts : ∀ t ∈ ts, 0 ≤ t.1 ∧ t.1 < n ∧ V t.1.toNat = some t.2) :
    (someM (leastV f) tk way m).wrong = false ∧ ((someM (leastV f) tk way m).done = true ∨ MGo V n (someM (leastV f) tk way m)) := by
  obtain ⟨h3, h4⟩ := go_on h1 h2 hT hw ho hts
  obtain ⟨h5, _⟩ := on_of ho
  unfold someM
  simp only
  split
  · refine go_raise (f := f) (z := s.1) (ps := s.2) ?_ hT ?_
    · exact h3
    · show floorV V f s ≤ (m.h - tk + 1) - 1
      omega
  · exact ⟨h3, .inr h4⟩
theorem no_bad (m : Ms) : badM false m = m := by simp [badM]
theorem next_goes {V : Lab} {l : List Ins} {f nF nR : Nat} {g : Ins} (hV : ValidV l f g V) (hop : ∀ x ∈ l, opB nF nR l.length x = true) {m : Ms} (hI : MInv V l.length m) (hd : m.done = false) (way : Nat) :
    ∃ (p : Nat) (x : Ins), m.at_ = p ∧ l[p]? = some x ∧ MInv V l.length (nextM f nR (leastV f) g way x m) := by
  obtain ⟨hw, hd' | ⟨p, s, h1, h2, h3, h4, hT⟩⟩ := hI
  · rw [hd] at hd'; cases hd'
  obtain ⟨x, ts, h5, h6, hts⟩ := hV.2.2 p s h3
  refine ⟨p, x, h1, h5, ?_⟩
  have hox := hop x (List.mem_of_getElem? h5)
  unfold outs at h6
  unfold nextM MInv
  by_cases c3 : x.op.toNat = 3
  · rw [if_pos c3] at h6 ⊢
    obtain ⟨h7, h8⟩ := ite_some h6
    rw [decide_eq_false (by omega), no_bad]
    obtain ⟨h9, h10⟩ := go_on h1 h4 hT hw h8 hts
    exact ⟨h9, .inr h10⟩
  rw [if_neg c3] at h6 ⊢
  by_cases c4 : x.op.toNat = 4
  · rw [if_pos c4] at h6 ⊢
    obtain ⟨h7, h8⟩ := ite_some h6
    rw [decide_eq_false (by omega), no_bad]
    obtain ⟨h9, h10⟩ := go_on h1 h4 hT hw h8 hts
    exact ⟨h9, .inr h10⟩
  rw [if_neg c4] at h6 ⊢
  by_cases c5 : x.op.toNat = 5
  · rw [if_pos c5] at h6 ⊢
    obtain ⟨h7, h8⟩ := ite_some h6
    rw [decide_eq_false (by omega), no_bad]
    obtain ⟨h9, h10⟩ := go_on h1 h4 hT hw h8 hts
    exact ⟨h9, .inr h10⟩
  rw [if_neg c5] at h6 ⊢
  have hnil : s.2 = [] → m.T = [] := fun e => by
    rcases hT.last with ⟨e1, _⟩ | ⟨_, _, _, _, _, _, e2, _⟩
    · exact e1
    · rw [e] at e2; simp at e2
  by_cases c8 : x.op.toNat = 8
  · rw [if_pos c8] at h6 ⊢
    obtain ⟨⟨h7, h8, h9⟩, _⟩ := ite_some h6
    have h10 := hnil h9
    rw [decide_eq_false (by rintro (e | e | e) <;> first | omega | exact e h10), no_bad]
    exact ⟨hw, .inl rfl⟩
  rw [if_neg c8] at h6 ⊢
  by_cases c25 : x.op.toNat = 25
  · rw [if_pos c25] at h6 ⊢
    obtain ⟨⟨h7, h9⟩, _⟩ := ite_some h6
    have h10 := hnil h9
    rw [decide_eq_false (by rintro (e | e) <;> first | omega | exact e h10), no_bad]
    exact ⟨hw, .inl rfl⟩
  rw [if_neg c25] at h6 ⊢
  by_cases c17 : x.op.toNat = 17
  · rw [if_pos c17] at h6 ⊢
    obtain ⟨h7, _⟩ := ite_some h6
    refine go_raise (f := f) (z := s.1) (ps := s.2) ?_ hT ?_
    · show (m.wrong || decide (m.h - 1 < lowM (leastV f) m.T)) = false
      have e2 : floorV V f (s.1, s.2) = floorV V f s := rfl
      rw [hw, hT.least f s.1, e2, h4, decide_eq_false (by omega)]
      rfl
    · show floorV V f s ≤ m.h - 1 + 0
      omega
  rw [if_neg c17] at h6 ⊢
  by_cases c9 : x.op.toNat = 9
  · rw [if_pos c9] at h6 ⊢
    cases h6
    have h7 := hts _ (List.mem_singleton.2 rfl)
    exact ⟨hw, .inr ⟨x.a.toNat, s, by simp only at h7 ⊢; omega, by simp only at h7 ⊢; omega, h7.2.2, h4, hT⟩⟩
  rw [if_neg c9] at h6 ⊢
  by_cases c10 : x.op.toNat = 10
  · rw [if_pos c10] at h6 ⊢
    obtain ⟨h7, h8⟩ := ite_some h6
    cases h8
    have h9 := hts _ (List.mem_cons_self ..)
    have h10 := hts _ (List.mem_cons_of_mem _ (List.mem_singleton.2 rfl))
    have e : ((p : Int) + 1).toNat = p + 1 := by omega
    simp only [e] at h9 h10
    have hwr : (onM (leastV f) 1 0 m).wrong = false := by
      show (m.wrong || decide (m.h - 1 < lowM (leastV f) m.T)) = false
      have e2 : floorV V f (s.1, s.2) = floorV V f s := rfl
      rw [hw, hT.least f s.1, e2, h4, decide_eq_false (by omega)]
      rfl
    unfold ifM
    split
    · refine ⟨hwr, .inr ⟨x.a.toNat, _, ?_, ?_, h10.2.2, ?_, hT⟩⟩
      · simp only; omega
      · omega
      · show m.h - 1 + 0 = s.1 - 1; omega
    · refine ⟨hwr, .inr ⟨p + 1, _, ?_, ?_, h9.2.2, ?_, hT⟩⟩
      · show m.at_ + 1 = _; rw [h1]; rfl
      · have := h9.2.1; omega
      · show m.h - 1 + 0 = s.1 - 1; omega
  rw [if_neg c10] at h6 ⊢
  by_cases c18 : x.op.toNat = 18
  · rw [if_pos c18] at h6 ⊢
    cases h6
    have h9 := hts _ (List.mem_cons_self ..)
    have h10 := hts _ (List.mem_cons_of_mem _ (List.mem_singleton.2 rfl))
    have e : ((p : Int) + 1).toNat = p + 1 := by omega
    simp only [e] at h9 h10
    refine ⟨hw, .inr ⟨p + 1, _, ?_, ?_, h9.2.2, h4, ?_⟩⟩
    · show m.at_ + 1 = _; rw [h1]; rfl
    · have := h9.2.1; omega
    · rw [h4]
      exact .snoc hT h3 h10.1 h10.2.1 h10.2.2
  rw [if_neg c18] at h6 ⊢
  by_cases c19 : x.op.toNat = 19
  · rw [if_pos c19] at h6 ⊢
    rcases hT.last with ⟨e1, e2⟩ | ⟨T', ps', q, t1, hh, e1, e2, g1, g2, g3, g4, g5⟩
    · rw [e2] at h6; cases h6
    · rw [e2] at h6
      simp only [List.getLast?_append, List.getLast?_singleton, Option.some_or, List.dropLast_concat] at h6
      obtain ⟨h7, h8⟩ := ite_some h6
      cases h8
      have h9 := hts _ (List.mem_singleton.2 rfl)
      have e : ((p : Int) + 1).toNat = p + 1 := by omega
      simp only [e] at h9
      have e3 : hOf V q = hh := by unfold hOf; rw [g2]
      unfold endM
      rw [e1]
      simp only [List.getLast?_append, List.getLast?_singleton, Option.some_or, List.dropLast_concat]
      rw [if_pos (by omega)]
      refine ⟨hw, .inr ⟨p + 1, _, ?_, ?_, h9.2.2, h4, g1⟩⟩
      · show m.at_ + 1 = _; rw [h1]; rfl
      · have := h9.2.1; omega
  rw [if_neg c19] at h6 ⊢
  by_cases c23 : x.op.toNat = 23
  · rw [if_pos c23] at h6 ⊢
    obtain ⟨h7, h8⟩ := ite_some h6
    cases h8
    have h9 := hts _ (List.mem_cons_self ..)
    have h10 := hts _ (List.mem_cons_of_mem _ (List.mem_singleton.2 rfl))
    have e : ((p : Int) + 1).toNat = p + 1 := by omega
    simp only [e] at h9 h10
    rw [opB, c23] at hox
    simp [opK, opV, inB] at hox
    have hb : decide (f ≠ 0 ∨ x.a < 0 ∨ (nR : Int) ≤ x.a) = false := decide_eq_false (by omega)
    rw [hb, no_bad]
    simp only
    split
    · refine ⟨hw, .inr ⟨x.b.toNat, _, ?_, ?_, h10.2.2, ?_, hT⟩⟩
      · simp only; omega
      · omega
      · show m.h + 1 = s.1 + 1; omega
    · refine ⟨hw, .inr ⟨p + 1, _, ?_, ?_, h9.2.2, h4, hT⟩⟩
      · show m.at_ + 1 = _; rw [h1]; rfl
      · have := h9.2.1; omega
  rw [if_neg c23] at h6 ⊢
  by_cases c24 : x.op.toNat = 24
  · rw [if_pos c24] at h6 ⊢
    obtain ⟨h7, h8⟩ := ite_some h6
    rw [opB, c24] at hox
    simp [opK, opV, inB] at hox
    have hb : decide (f ≠ 0 ∨ x.a < 0 ∨ (nR : Int) ≤ x.a) = false := decide_eq_false (by omega)
    rw [hb, no_bad]
    obtain ⟨h9, h10⟩ := go_on h1 h4 hT hw h8 hts
    exact ⟨h9, .inr h10⟩
  rw [if_neg c24] at h6 ⊢
  by_cases c7 : x.op.toNat = 7
  · rw [if_pos c7]
    have e1 : movesV x = (2, 1) := by unfold movesV; rw [if_neg (by omega), if_pos c7]
    rw [e1] at h6
    exact go_some way h1 h4 hT hw h6 hts
  rw [if_neg c7]
  by_cases c16 : x.op.toNat = 16
  · rw [if_pos c16]
    have e1 : movesV x = ((takesN x.t : Int), 1) := by
      unfold movesV
      rw [if_neg (by omega), if_neg (by omega), if_neg (by omega), if_neg (by omega), if_neg (by omega), if_pos c16]
    rw [e1] at h6
    rw [opB, c16] at hox
    simp [opK, opV, inB] at hox
    have hb : (!takesB x.t) = false := by rw [hox.1.1.1]; rfl
    rw [hb, no_bad]
    exact go_some way h1 h4 hT hw h6 hts
  rw [if_neg c16]
  obtain ⟨h9, h10⟩ := go_on h1 h4 hT hw h6 hts
  exact ⟨h9, .inr h10⟩
/-- of the group that makes a function -/
def grpB (f : Nat) (x : Ins) : Bool := decide (x.op.toNat = 6) && (decide (x.a ≤ (f : Int)) && decide ((f : Int) < x.a + x.b))
def grpOf (l : List Ins) (f : Nat) : Ins := (l.find? (grpB f)).getD ins0
theorem grp_find {l : List Ins} {b : By} (h : grpAll l (fun _ => none) = some b) (f : Nat) : grpOf l f = insOr (b f) := by
  unfold grpOf insOr
  cases hf : l.find? (grpB f) with
  | some y =>
    have h1 := List.find?_some hf
    have h2 := List.mem_of_find?_eq_some hf
    unfold grpB at h1
    simp only [Bool.and_eq_true, decide_eq_true_eq] at h1
    rw [grp_has h f y h2 h1.1 h1.2.1 h1.2.2]
  | none =>
    cases hb : b f with
    | none => rfl
    | some y =>
      rcases grp_of h f y hb with h1 | ⟨h1, h2, h3, h4⟩
      · cases h1
      · have h5 := List.find?_eq_none.1 hf y h1
        exact absurd (by unfold grpB; simp only [Bool.and_eq_true, decide_eq_true_eq]; exact ⟨h2, h3, h4⟩) h5
structure MBn (z : Int) (m : Ms) : Prop where
  h0 : 0 ≤ m.h
  h1 : m.h ≤ z
  t : ∀ x ∈ m.T, 0 ≤ x.2 ∧ x.2 ≤ z
  len : (m.T.length : Int) ≤ z
theorem least_ge (first : Int) (T : List (Int × Int)) : first ≤ lowM first T := by
  unfold lowM
  split <;> omega
theorem MBn.up {z z' : Int} {m : Ms} (h : MBn z m) (hz : z ≤ z') : MBn z' m := ⟨h.h0, by have := h.h1; omega, fun x hx => by have := h.t x hx; omega, by have := h.len; omega⟩
theorem on_wrong {first tk pt : Int} {m : Ms} (hw : (onM first tk pt m).wrong = false) : m.wrong = false ∧ lowM first m.T ≤ m.h - tk := by
  have h1 : (m.wrong || decide (m.h - tk < lowM first m.T)) = false := hw
  rw [Bool.or_eq_false_iff] at h1
  have h2 := of_decide_eq_false h1.2
  exact ⟨h1.1, by omega⟩
theorem bnd_on {z first tk pt : Int} {m : Ms} (h : MBn z m) (hf : 0 ≤ first) (hw : (onM first tk pt m).wrong = false) (h1 : 0 ≤ tk) (h2 : 0 ≤ pt) (h3 : pt ≤ 65536) : MBn (z + 65536) (onM first tk pt m) := by
  have h4 := (on_wrong hw).2
  have h5 := least_ge first m.T
  have h6 := h.h1
  have h7 := h.len
  refine ⟨?_, ?_, fun x hx => ?_, ?_⟩
  · show 0 ≤ m.h - tk + pt; omega
  · show m.h - tk + pt ≤ z + 65536; omega
  · have := h.t x hx; omega
  · show (m.T.length : Int) ≤ _; omega
theorem bnd_raise {z : Int} {m : Ms} (h : MBn z m) : MBn (z + 1) (raiseM m) := by
  have h7 := h.len
  unfold raiseM
  cases hl : m.T.getLast? with
  | none => exact ⟨h.h0, by have := h.h1; show m.h ≤ _; omega, fun x hx => by have := h.t x hx; omega, by show (m.T.length : Int) ≤ _; omega⟩
  | some x =>
    have h1 := h.t x (List.mem_of_getLast? hl)
    refine ⟨by show 0 ≤ x.2 + 1; omega, by show x.2 + 1 ≤ z + 1; omega, fun y hy => ?_, ?_⟩
    · have := h.t y (List.dropLast_subset _ hy); omega
    · show (m.T.dropLast.length : Int) ≤ _
      rw [List.length_dropLast]
      omega
theorem raise_wrong {m : Ms} (h : (raiseM m).wrong = false) : m.wrong = false := by
  unfold raiseM at h
  split at h
  · exact h
  · exact (Bool.or_eq_false_iff.1 h).1
theorem bnd_some {z first tk : Int} {m : Ms} (way : Nat) (h : MBn z m) (hf : 0 ≤ first) (hw : (someM first tk way m).wrong = false) (h1 : 0 ≤ tk) : MBn (z + 65537) (someM first tk way m) := by
  unfold someM at hw ⊢
  simp only at hw ⊢
  split at hw
  · rename_i hc
    rw [if_pos hc]
    have hw2 : (onM first tk 1 m).wrong = false := raise_wrong (m := ⟨(onM first tk 1 m).at_, (onM first tk 1 m).h - 1, (onM first tk 1 m).T, (onM first tk 1 m).wrong, (onM first tk 1 m).done⟩) hw
    have h2 := bnd_on h hf hw2 h1 (by decide : (0 : Int) ≤ 1) (by decide)
    have h3 := (on_wrong hw2).2
    have h4 := least_ge first m.T
    have h5 : MBn (z + 65536) ⟨(onM first tk 1 m).at_, (onM first tk 1 m).h - 1, (onM first tk 1 m).T, (onM first tk 1 m).wrong, (onM first tk 1 m).done⟩ :=
      ⟨by show 0 ≤ m.h - tk + 1 - 1; omega, by have := h.h1; show m.h - tk + 1 - 1 ≤ _; omega, h2.t, h2.len⟩
    exact (bnd_raise h5).up (by omega)
  · rename_i hc
    rw [if_neg hc]
    exact (bnd_on h hf hw h1 (by decide : (0 : Int) ≤ 1) (by decide)).up (by omega)
theorem next_bnd {z first : Int} {m : Ms} {f nR : Nat} {g : Ins} {way : Nat} {x : Ins} (hm : Moves1 x) (h : MBn z m) (hf : 0 ≤ first) (hw : (nextM f nR first g way x m).wrong = false) : MBn (z + 65540) (nextM f nR first g way x m) := by
  have key : ∀ (b : Bool), MBn z (badM b m) := fun b => ⟨h.h0, h.h1, h.t, h.len⟩
  obtain ⟨e1, e2, e3, e4⟩ := hm
  have tN := takesN_le x.t
  unfold nextM at hw ⊢
  by_cases c3 : x.op.toNat = 3
  · rw [if_pos c3] at hw ⊢; exact (bnd_on (key _) hf hw (by decide) (by decide) (by decide)).up (by omega)
  rw [if_neg c3] at hw ⊢
  by_cases c4 : x.op.toNat = 4
  · rw [if_pos c4] at hw ⊢; exact (bnd_on (key _) hf hw (by decide) (by decide) (by decide)).up (by omega)
  rw [if_neg c4] at hw ⊢
  by_cases c5 : x.op.toNat = 5
  · rw [if_pos c5] at hw ⊢; exact (bnd_on (key _) hf hw (by decide) (by decide) (by decide)).up (by omega)
  rw [if_neg c5] at hw ⊢
  by_cases c8 : x.op.toNat = 8
  · rw [if_pos c8]; exact (show MBn z (doneM (badM _ m)) from ⟨h.h0, h.h1, h.t, h.len⟩).up (by omega)
  rw [if_neg c8] at hw ⊢
  by_cases c25 : x.op.toNat = 25
  · rw [if_pos c25]; exact (show MBn z (doneM (badM _ m)) from ⟨h.h0, h.h1, h.t, h.len⟩).up (by omega)
  rw [if_neg c25] at hw ⊢
  by_cases c17 : x.op.toNat = 17
  · rw [if_pos c17] at hw ⊢
    exact (bnd_raise (bnd_on h hf (raise_wrong hw) (by decide) (by decide) (by decide))).up (by omega)
  rw [if_neg c17] at hw ⊢
  by_cases c9 : x.op.toNat = 9
  · rw [if_pos c9]; exact (show MBn z ⟨x.a, m.h, m.T, m.wrong, m.done⟩ from ⟨h.h0, h.h1, h.t, h.len⟩).up (by omega)
  rw [if_neg c9] at hw ⊢
  by_cases c10 : x.op.toNat = 10
  · rw [if_pos c10] at hw ⊢
    have hw2 : (onM first 1 0 m).wrong = false := by unfold ifM at hw; split at hw <;> exact hw
    have h2 := bnd_on h hf hw2 (by decide) (by decide) (by decide)
    unfold ifM
    split
    · exact MBn.up (z := z + 65536) ⟨h2.h0, h2.h1, h2.t, h2.len⟩ (by omega)
    · exact h2.up (by omega)
  rw [if_neg c10] at hw ⊢
  by_cases c18 : x.op.toNat = 18
  · rw [if_pos c18]
    refine (show MBn (z + 1) ⟨m.at_ + 1, m.h, m.T ++ [(x.a, m.h)], m.wrong, m.done⟩ from ⟨h.h0, by have := h.h1; show m.h ≤ _; omega, fun y hy => ?_, ?_⟩).up (by omega)
    · rcases List.mem_append.1 hy with hy | hy
      · have := h.t y hy; omega
      · rw [List.mem_singleton.1 hy]; have := h.h0; have := h.h1; simp only; omega
    · have := h.len
      simp only [List.length_append, List.length_singleton]
      omega
  rw [if_neg c18] at hw ⊢
  by_cases c19 : x.op.toNat = 19
  · rw [if_pos c19]
    unfold endM
    split
    · exact (show MBn z ⟨m.at_, m.h, m.T, true, m.done⟩ from ⟨h.h0, h.h1, h.t, h.len⟩).up (by omega)
    · split
      · refine (show MBn z ⟨m.at_ + 1, m.h, m.T.dropLast, m.wrong, m.done⟩ from ⟨h.h0, h.h1, fun y hy => h.t y (List.dropLast_subset _ hy), ?_⟩).up (by omega)
        have := h.len
        rw [List.length_dropLast]
        omega
      · exact (show MBn z ⟨m.at_, m.h, m.T, true, m.done⟩ from ⟨h.h0, h.h1, h.t, h.len⟩).up (by omega)
  rw [if_neg c19] at hw ⊢
  by_cases c23 : x.op.toNat = 23
  · rw [if_pos c23]
    simp only
    have h9 := h.h0
    have h8 := h.h1
    split
    · exact MBn.up (z := z + 1) ⟨by show 0 ≤ m.h + 1; omega, by show m.h + 1 ≤ z + 1; omega, fun y hy => by have := h.t y hy; omega, by have := h.len; show (m.T.length : Int) ≤ _; omega⟩ (by omega)
    · exact MBn.up (z := z) ⟨h.h0, h.h1, h.t, h.len⟩ (by omega)
  rw [if_neg c23] at hw ⊢
  by_cases c24 : x.op.toNat = 24
  · rw [if_pos c24] at hw ⊢; exact (bnd_on (key _) hf hw (by decide) (by decide) (by decide)).up (by omega)
  rw [if_neg c24] at hw ⊢
  by_cases c7 : x.op.toNat = 7
  · rw [if_pos c7] at hw ⊢; exact (bnd_some way h hf hw (by decide)).up (by omega)
  rw [if_neg c7] at hw ⊢
  by_cases c16 : x.op.toNat = 16
  · rw [if_pos c16] at hw ⊢; exact (bnd_some way (key _) hf hw (by omega)).up (by omega)
  rw [if_neg c16] at hw ⊢
  exact (bnd_on h hf hw e1 e3 e4).up (by omega)
end Go.Proofs.YtoddklfblcfoiaaDoor
