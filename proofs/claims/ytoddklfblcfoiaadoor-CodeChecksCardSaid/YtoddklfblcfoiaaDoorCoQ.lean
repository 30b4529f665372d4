/-
  Whether code may be run: the plain law. A function may be run just if there is a labelling of its places that fits; whoever labels place by place finds it, or that there is none. No condition: plain laws.
-/
import Derived.Test.YtoddklfblcfoiaaDoorCoK
namespace Go.Proofs.YtoddklfblcfoiaaDoor
open Go Go.RowKit
set_option linter.unusedVariables false
set_option linter.unusedSimpArgs false

/-- how many things there are, and the open tries, the innermost last -/
abbrev Lb := Int × List Nat
abbrev Lab := Nat → Option Lb
def leastV (f : Nat) : Int := if f = 0 then 0 else 1
def hOf (K : Lab) (p : Nat) : Int := match K p with | some s => s.1 | none => 0
def floorV (K : Lab) (f : Nat) (s : Lb) : Int := match s.2.getLast? with | none => leastV f | some p => max (leastV f) (hOf K p)
def onV (K : Lab) (f at_ : Nat) (s : Lb) (takes puts : Int) : Option (List (Int × Lb)) :=
  if floorV K f s ≤ s.1 - takes then some [((at_ : Int) + 1, (s.1 + (puts - takes), s.2))] else none
def movesV (x : Ins) : Int × Int :=
  if x.op.toNat = 6 then (x.c, x.b) else if x.op.toNat = 7 then (2, 1) else if x.op.toNat = 11 then (x.a, 1)
  else if x.op.toNat = 12 ∨ x.op.toNat = 14 ∨ x.op.toNat = 15 then (1, 1) else if x.op.toNat = 13 ∨ x.op.toNat = 22 then (x.b, 1)
  else if x.op.toNat = 16 then (takesN x.t, 1) else if x.op.toNat = 20 then (x.a + 1, 1) else if x.op.toNat = 21 then (1, 0) else (0, 1)
/-- where an instruction leads to, and how things stand there -/
def outs (K : Lab) (f : Nat) (g : Ins) (at_ : Nat) (x : Ins) (s : Lb) : Option (List (Int × Lb)) :=
  if x.op.toNat = 3 then (if x.a < s.1 then onV K f at_ s 0 1 else none)
  else if x.op.toNat = 4 then (if x.a < g.c then onV K f at_ s 0 1 else none)
  else if x.op.toNat = 5 then (if x.a < g.b then onV K f at_ s 0 1 else none)
  else if x.op.toNat = 8 then (if 0 < f ∧ s.1 = 2 ∧ s.2 = [] then some [] else none)
  else if x.op.toNat = 25 then (if f = 0 ∧ s.2 = [] then some [] else none)
  else if x.op.toNat = 17 then (if floorV K f s ≤ s.1 - 1 then some [] else none)
  else if x.op.toNat = 9 then some [(x.a, s)]
  else if x.op.toNat = 10 then (if floorV K f s ≤ s.1 - 1 then some [((at_ : Int) + 1, (s.1 - 1, s.2)), (x.a, (s.1 - 1, s.2))] else none)
  else if x.op.toNat = 18 then some [((at_ : Int) + 1, (s.1, s.2 ++ [at_])), (x.a, (s.1 + 1, s.2))]
  else if x.op.toNat = 19 then (match s.2.getLast? with | none => none | some p => if s.1 = hOf K p + 1 then some [((at_ : Int) + 1, (s.1, s.2.dropLast))] else none)
  else if x.op.toNat = 23 then (if f = 0 then some [((at_ : Int) + 1, s), (x.b, (s.1 + 1, s.2))] else none)
  else if x.op.toNat = 24 then (if f = 0 then onV K f at_ s 1 1 else none)
  else onV K f at_ s (movesV x).1 (movesV x).2
def ValidV (l : List Ins) (f : Nat) (g : Ins) (V : Lab) : Prop :=
  0 < l.length ∧ V 0 = some (leastV f, []) ∧ ∀ at_ s, V at_ = some s → ∃ x ts, l[at_]? = some x ∧ outs V f g at_ x s = some ts ∧ ∀ t ∈ ts, 0 ≤ t.1 ∧ t.1 < l.length ∧ V t.1.toNat = some t.2
def RunsP (l : List Ins) (f : Nat) (g : Ins) : Prop := ∃ V, ValidV l f g V
def setK (K : Lab) (p : Nat) (s : Lb) : Lab := fun q => if q = p then some s else K q
/-- to come to a place -/
def toS (n : Nat) (z : Int × Lb) (K : Lab) (left : List Nat) : Option (Lab × List Nat) :=
  if 0 ≤ z.1 ∧ z.1 < n then (match K z.1.toNat with | some s' => if s' = z.2 then some (K, left) else none | none => some (setK K z.1.toNat z.2, left ++ [z.1.toNat])) else none
def toAll (n : Nat) : List (Int × Lb) → Lab → List Nat → Option (Lab × List Nat)
  | [], K, left => some (K, left)
  | z :: r, K, left => match toS n z K left with
    | none => none
    | some q => toAll n r q.1 q.2
def stepV (l : List Ins) (f : Nat) (g : Ins) (K : Lab) (left : List Nat) (at_ : Nat) (x : Ins) (s : Lb) : Option (Lab × List Nat) :=
  match outs K f g at_ x s with
  | none => none
  | some ts => toAll l.length ts K left
/-- how many places have no label yet -/
def unl (n : Nat) (K : Lab) : Nat := ((List.range n).filter fun i => (K i).isNone).length
theorem unl_set {n : Nat} {K : Lab} {p : Nat} {s : Lb} (hp : p < n) (hK : K p = none) : unl n (setK K p s) + 1 = unl n K := by
  unfold unl
  have h1 : ∀ m, ((List.range m).filter fun i => (setK K p s i).isNone).length + (if p < m then 1 else 0) = ((List.range m).filter fun i => (K i).isNone).length := by
    intro m
    induction m with
    | zero => simp
    | succ m ih =>
      rw [List.range_succ, List.filter_append, List.filter_append, List.length_append, List.length_append]
      by_cases hm : p = m
      · subst hm
        rw [if_neg (by omega)] at ih
        rw [if_pos (by omega)]
        have e1 : (setK K p s p).isNone = false := by simp [setK]
        have e2 : (K p).isNone = true := by rw [hK]; rfl
        simp [e1, e2] at ih ⊢
        omega
      · have e1 : (setK K p s m).isNone = (K m).isNone := by simp [setK, show ¬ m = p from fun e => hm e.symm]
        by_cases hlt : p < m
        · rw [if_pos hlt] at ih
          rw [if_pos (by omega)]
          simp [List.filter_cons, e1] at ih ⊢
          split <;> simp <;> omega
        · rw [if_neg hlt] at ih
          rw [if_neg (by omega)]
          simp [List.filter_cons, e1] at ih ⊢
          first
            | exact ih
            | (split <;> simp <;> omega)
  have := h1 n
  rw [if_pos hp] at this
  exact this
theorem unl_le (n : Nat) (K : Lab) : unl n K ≤ n := by
  unfold unl
  have := List.length_filter_le (fun i => (K i).isNone) (List.range n)
  rw [List.length_range] at this
  exact this
/-- what a labelling says of the tries that are open -/
def TriOk (K : Lab) (T : List Nat) : Prop := ∀ p ∈ T, K p ≠ none
theorem TriOk.mono {K K' : Lab} {T : List Nat} (h : TriOk K T) (hk : ∀ p s, K p = some s → K' p = some s) : TriOk K' T := fun p hp hn => by
  cases he : K p with
  | none => exact h p hp he
  | some s => rw [hk p s he] at hn; cases hn
theorem hOf_mono {K K' : Lab} {T : List Nat} (h : TriOk K T) (hk : ∀ p s, K p = some s → K' p = some s) {p : Nat} (hp : p ∈ T) : hOf K' p = hOf K p := by
  unfold hOf
  cases he : K p with
  | none => exact absurd he (h p hp)
  | some s => rw [hk p s he]
theorem floor_mono {K K' : Lab} {s : Lb} (h : TriOk K s.2) (hk : ∀ p s, K p = some s → K' p = some s) (f : Nat) : floorV K' f s = floorV K f s := by
  unfold floorV
  cases he : s.2.getLast? with
  | none => rfl
  | some p => simp only; rw [hOf_mono h hk (List.mem_of_getLast? he)]
theorem outs_mono {K K' : Lab} {s : Lb} (h : TriOk K s.2) (hk : ∀ p s, K p = some s → K' p = some s) (f : Nat) (g : Ins) (at_ : Nat) (x : Ins) : outs K' f g at_ x s = outs K f g at_ x s := by
  unfold outs onV
  rw [floor_mono h hk]
  cases he : s.2.getLast? with
  | none => rfl
  | some p => simp only; rw [hOf_mono h hk (List.mem_of_getLast? he)]
theorem ite_some {α : Type} {p : Prop} [Decidable p] {a : Option α} {t : α} (h : (if p then a else none) = some t) : p ∧ a = some t := by
  by_cases hp : p
  · rw [if_pos hp] at h; exact ⟨hp, h⟩
  · rw [if_neg hp] at h; cases h
inductive OutsOf (K : Lab) (f at_ : Nat) (x : Ins) (s : Lb) (ts : List (Int × Lb)) : Prop where
  | on (tk pt : Int) : (tk = (movesV x).1 ∧ pt = (movesV x).2) ∨ (0 ≤ tk ∧ tk ≤ 1 ∧ pt = 1) → onV K f at_ s tk pt = some ts → OutsOf K f at_ x s ts
  | none : ts = [] → OutsOf K f at_ x s ts
  | jump : ts = [(x.a, s)] → OutsOf K f at_ x s ts
  | two : floorV K f s ≤ s.1 - 1 → ts = [((at_ : Int) + 1, (s.1 - 1, s.2)), (x.a, (s.1 - 1, s.2))] → OutsOf K f at_ x s ts
  | try_ : ts = [((at_ : Int) + 1, (s.1, s.2 ++ [at_])), (x.a, (s.1 + 1, s.2))] → OutsOf K f at_ x s ts
  | end_ : ts = [((at_ : Int) + 1, (s.1, s.2.dropLast))] → OutsOf K f at_ x s ts
  | root : ts = [((at_ : Int) + 1, s), (x.b, (s.1 + 1, s.2))] → OutsOf K f at_ x s ts
theorem outs_of {K : Lab} {s : Lb} {f : Nat} {g : Ins} {at_ : Nat} {x : Ins} {ts : List (Int × Lb)} (ho : outs K f g at_ x s = some ts) : OutsOf K f at_ x s ts := by
  unfold outs at ho
  by_cases h3 : x.op.toNat = 3
  · rw [if_pos h3] at ho
    exact .on 0 1 (.inr (by omega)) (ite_some ho).2
  rw [if_neg h3] at ho
  by_cases h4 : x.op.toNat = 4
  · rw [if_pos h4] at ho
    exact .on 0 1 (.inr (by omega)) (ite_some ho).2
  rw [if_neg h4] at ho
  by_cases h5 : x.op.toNat = 5
  · rw [if_pos h5] at ho
    exact .on 0 1 (.inr (by omega)) (ite_some ho).2
  rw [if_neg h5] at ho
  by_cases h8 : x.op.toNat = 8
  · rw [if_pos h8] at ho
    exact .none (Option.some.inj (ite_some ho).2).symm
  rw [if_neg h8] at ho
  by_cases h25 : x.op.toNat = 25
  · rw [if_pos h25] at ho
    exact .none (Option.some.inj (ite_some ho).2).symm
  rw [if_neg h25] at ho
  by_cases h17 : x.op.toNat = 17
  · rw [if_pos h17] at ho
    exact .none (Option.some.inj (ite_some ho).2).symm
  rw [if_neg h17] at ho
  by_cases h9 : x.op.toNat = 9
  · rw [if_pos h9] at ho
    exact .jump (Option.some.inj ho).symm
  rw [if_neg h9] at ho
  by_cases h10 : x.op.toNat = 10
  · rw [if_pos h10] at ho
    exact .two (ite_some ho).1 (Option.some.inj (ite_some ho).2).symm
  rw [if_neg h10] at ho
  by_cases h18 : x.op.toNat = 18
  · rw [if_pos h18] at ho
    exact .try_ (Option.some.inj ho).symm
  rw [if_neg h18] at ho
  by_cases h19 : x.op.toNat = 19
  · rw [if_pos h19] at ho
    cases hl : s.2.getLast? with
    | none => rw [hl] at ho; cases ho
    | some p =>
      rw [hl] at ho
      exact .end_ (Option.some.inj (ite_some ho).2).symm
  rw [if_neg h19] at ho
  by_cases h23 : x.op.toNat = 23
  · rw [if_pos h23] at ho
    exact .root (Option.some.inj (ite_some ho).2).symm
  rw [if_neg h23] at ho
  by_cases h24 : x.op.toNat = 24
  · rw [if_pos h24] at ho
    exact .on 1 1 (.inr (by omega)) (ite_some ho).2
  rw [if_neg h24] at ho
  exact .on _ _ (.inl ⟨rfl, rfl⟩) ho
theorem on_of {K : Lab} {f at_ : Nat} {s : Lb} {tk pt : Int} {ts : List (Int × Lb)} (h : onV K f at_ s tk pt = some ts) : floorV K f s ≤ s.1 - tk ∧ ts = [((at_ : Int) + 1, (s.1 + (pt - tk), s.2))] := by
  unfold onV at h
  exact ⟨(ite_some h).1, (Option.some.inj (ite_some h).2).symm⟩
theorem outs_tri {K : Lab} {s : Lb} {f : Nat} {g : Ins} {at_ : Nat} {x : Ins} {ts : List (Int × Lb)} (ho : outs K f g at_ x s = some ts) (h : TriOk K s.2) (hat : K at_ ≠ none) : ∀ t ∈ ts, TriOk K t.2.2 := by
  intro t ht
  cases outs_of ho with
  | on tk pt h1 h2 => rw [(on_of h2).2] at ht; rw [List.mem_singleton.1 ht]; exact h
  | none h1 => rw [h1] at ht; cases ht
  | jump h1 => rw [h1] at ht; rw [List.mem_singleton.1 ht]; exact h
  | two h0 h1 =>
    rw [h1] at ht
    rcases List.mem_cons.1 ht with rfl | ht
    · exact h
    · rw [List.mem_singleton.1 ht]; exact h
  | try_ h1 =>
    rw [h1] at ht
    rcases List.mem_cons.1 ht with rfl | ht
    · intro p hp
      rcases List.mem_append.1 hp with hp | hp
      · exact h p hp
      · rw [List.mem_singleton.1 hp]; exact hat
    · rw [List.mem_singleton.1 ht]; exact h
  | end_ h1 => rw [h1] at ht; rw [List.mem_singleton.1 ht]; exact fun p hp => h p ((List.dropLast_sublist _).mem hp)
  | root h1 =>
    rw [h1] at ht
    rcases List.mem_cons.1 ht with rfl | ht
    · exact h
    · rw [List.mem_singleton.1 ht]; exact h
structure Inv (l : List Ins) (f : Nat) (g : Ins) (K : Lab) (left : List Nat) : Prop where
  pos : 0 < l.length
  start : K 0 = some (leastV f, [])
  dom : ∀ at_ s, K at_ = some s → at_ < l.length
  tri : ∀ at_ s, K at_ = some s → TriOk K s.2
  lft : ∀ p ∈ left, K p ≠ none
  done : ∀ at_ s, K at_ = some s → at_ ∉ left → ∃ x ts, l[at_]? = some x ∧ outs K f g at_ x s = some ts ∧ ∀ t ∈ ts, 0 ≤ t.1 ∧ t.1 < l.length ∧ K t.1.toNat = some t.2
  bnd : ∀ at_ s, K at_ = some s → 0 ≤ s.1 ∧ s.1 + 131072 * (unl l.length K : Nat) ≤ 131072 * (l.length : Nat)
  sub : ∀ V, ValidV l f g V → ∀ at_ s, K at_ = some s → V at_ = some s
theorem setK_mono {K : Lab} {p : Nat} {s : Lb} (h : K p = none) : ∀ q t, K q = some t → setK K p s q = some t := fun q t hq => by
  unfold setK
  split
  · rename_i e; rw [e, h] at hq; cases hq
  · exact hq
/-- what the tos come to -/
theorem toAll_spec (n : Nat) : ∀ (ts : List (Int × Lb)) (K : Lab) (left : List Nat) (K' : Lab) (left' : List Nat), toAll n ts K left = some (K', left') →
    (∀ q t, K q = some t → K' q = some t) ∧ (∀ t ∈ ts, 0 ≤ t.1 ∧ t.1 < n ∧ K' t.1.toNat = some t.2) ∧ (∃ more, left' = left ++ more ∧ ∀ p ∈ more, K p = none) ∧ (∀ q t, K' q = some t → K q = some t ∨ (q ∈ left' ∧ q < n ∧ ∃ z ∈ ts, z.2 = t ∧ z.1.toNat = q ∧ 0 ≤ z.1)) ∧ (∃ d, unl n K' + d = unl n K ∧ left'.length = left.length + d)
  | [], K, left, K', left', h => by
    cases h
    exact ⟨fun _ _ h => h, by simp, ⟨[], by simp⟩, fun q t h => .inl h, 0, rfl, rfl⟩
  | z :: r, K, left, K', left', h => by
    unfold toAll at h
    cases hz : toS n z K left with
    | none => rw [hz] at h; cases h
    | some q =>
      obtain ⟨K1, left1⟩ := q
      rw [hz] at h
      simp only at h
      obtain ⟨a1, a2, ⟨more, a3, a3'⟩, a4, d, a5, a6⟩ := toAll_spec n r K1 left1 K' left' h
      unfold toS at hz
      split at hz
      · rename_i hr
        split at hz
        · rename_i s' hs'
          split at hz
          · rename_i he
            cases hz
            refine ⟨a1, fun t ht => ?_, ⟨more, a3, a3'⟩, fun q t hq => ?_, d, a5, a6⟩
            · rcases List.mem_cons.1 ht with rfl | ht
              · exact ⟨hr.1, hr.2, by rw [a1 _ _ hs', he]⟩
              · exact a2 t ht
            · rcases a4 q t hq with h | ⟨h1, h2, y, hy, h3⟩
              · exact .inl h
              · exact .inr ⟨h1, h2, y, List.mem_cons_of_mem _ hy, h3⟩
          · cases hz
        · rename_i hs'
          cases hz
          have hp : z.1.toNat < n := by omega
          refine ⟨fun q t hq => a1 q t (setK_mono hs' q t hq), fun t ht => ?_, ⟨z.1.toNat :: more, by rw [a3]; simp, fun p hp => ?_⟩, fun q t hq => ?_, d + 1, ?_, ?_⟩
          · rcases List.mem_cons.1 ht with rfl | ht
            · exact ⟨hr.1, hr.2, a1 _ _ (by simp [setK])⟩
            · exact a2 t ht
          · rcases List.mem_cons.1 hp with rfl | hp
            · exact hs'
            · have := a3' p hp
              unfold setK at this
              split at this
              · cases this
              · exact this
          · rcases a4 q t hq with h | ⟨h1, h2, y, hy, h3⟩
            · unfold setK at h
              split at h
              · rename_i e
                cases h
                refine .inr ⟨by rw [a3, e]; simp, by omega, z, List.mem_cons_self .., rfl, e.symm, hr.1⟩
              · exact .inl h
            · exact .inr ⟨h1, h2, y, List.mem_cons_of_mem _ hy, h3⟩
          · have := unl_set (n := n) (K := K) (s := z.2) hp hs'
            omega
          · rw [a6]; simp; omega
      · cases hz
theorem toAll_valid {n : Nat} {V : Lab} : ∀ (ts : List (Int × Lb)) (K : Lab) (left : List Nat), (∀ q s, K q = some s → V q = some s) → (∀ t ∈ ts, 0 ≤ t.1 ∧ t.1 < n ∧ V t.1.toNat = some t.2) → toAll n ts K left ≠ none
  | [], K, left, hK, hV => by simp [toAll]
  | z :: r, K, left, hK, hV => by
    have hz := hV z (List.mem_cons_self ..)
    have hr : ∀ t ∈ r, 0 ≤ t.1 ∧ t.1 < n ∧ V t.1.toNat = some t.2 := fun t ht => hV t (List.mem_cons_of_mem _ ht)
    unfold toAll toS
    rw [if_pos ⟨hz.1, hz.2.1⟩]
    cases he : K z.1.toNat with
    | some s' =>
      have := hK _ _ he
      rw [hz.2.2] at this
      cases this
      simp only [if_true]
      exact toAll_valid r K left hK hr
    | none =>
      simp only
      refine toAll_valid r _ _ (fun q s hq => ?_) hr
      unfold setK at hq
      split at hq
      · rename_i e
        cases hq
        rw [e, hz.2.2]
      · exact hK q s hq
/-- a height that an instruction leaves is at most that much more -/
def Moves1 (x : Ins) : Prop := 0 ≤ (movesV x).1 ∧ (movesV x).1 ≤ 65536 ∧ 0 ≤ (movesV x).2 ∧ (movesV x).2 ≤ 65536
theorem floor_pos {K : Lab} {f : Nat} {s : Lb} : 0 ≤ floorV K f s := by
  unfold floorV leastV
  split <;> split <;> omega
theorem outs_bnd {K : Lab} {s : Lb} {f : Nat} {g : Ins} {at_ : Nat} {x : Ins} {ts : List (Int × Lb)} (ho : outs K f g at_ x s = some ts) (hm : Moves1 x) (h0 : 0 ≤ s.1) : ∀ t ∈ ts, 0 ≤ t.2.1 ∧ t.2.1 ≤ s.1 + 65536 := by
  have hf := floor_pos (K := K) (f := f) (s := s)
  obtain ⟨m1, m2, m3, m4⟩ := hm
  intro t ht
  cases outs_of ho with
  | on tk pt h1 h2 =>
    have h3 := (on_of h2).1
    rw [(on_of h2).2] at ht
    rw [List.mem_singleton.1 ht]
    simp only
    omega
  | none h1 => rw [h1] at ht; cases ht
  | jump h1 => rw [h1] at ht; rw [List.mem_singleton.1 ht]; simp only; omega
  | two h0 h1 =>
    rw [h1] at ht
    rcases List.mem_cons.1 ht with rfl | ht
    · simp only; omega
    · rw [List.mem_singleton.1 ht]; simp only; omega
  | try_ h1 =>
    rw [h1] at ht
    rcases List.mem_cons.1 ht with rfl | ht
    · simp only; omega
    · rw [List.mem_singleton.1 ht]; simp only; omega
  | end_ h1 => rw [h1] at ht; rw [List.mem_singleton.1 ht]; simp only; omega
  | root h1 =>
    rw [h1] at ht
    rcases List.mem_cons.1 ht with rfl | ht
    · show 0 ≤ s.1 ∧ s.1 ≤ s.1 + 65536; omega
    · rw [List.mem_singleton.1 ht]; simp only; omega
/-- one place is taken from those that are left -/
theorem Inv.step {l : List Ins} {f : Nat} {g : Ins} {K : Lab} {left rest : List Nat} {at_ : Nat} (h : Inv l f g K left) (hmem : ∀ p, p ∈ left ↔ p = at_ ∨ p ∈ rest) {x : Ins} (hx : l[at_]? = some x) (hm : Moves1 x) {s : Lb} (hs : K at_ = some s) {K' : Lab} {left' : List Nat} (hst : stepV l f g K rest at_ x s = some (K', left')) :
    Inv l f g K' left' ∧ 2 * unl l.length K' + left'.length ≤ 2 * unl l.length K + rest.length := by
  unfold stepV at hst
  cases ho : outs K f g at_ x s with
  | none => rw [ho] at hst; cases hst
  | some ts =>
    rw [ho] at hst
    simp only at hst
    obtain ⟨a1, a2, ⟨more, a3, a3'⟩, a4, d, a5, a6⟩ := toAll_spec _ _ _ _ _ _ hst
    have htr := outs_tri ho (h.tri at_ s hs) (by rw [hs]; simp)
    have hbd := outs_bnd ho hm (h.bnd at_ s hs).1
    have hun := unl_le l.length K
    refine ⟨⟨h.pos, a1 _ _ h.start, fun q t hq => ?_, fun q t hq => ?_, fun p hp => ?_, fun q t hq hn => ?_, fun q t hq => ?_, fun V hV q t hq => ?_⟩, by omega⟩
    · rcases a4 q t hq with h1 | ⟨_, h2, _⟩
      · exact h.dom q t h1
      · exact h2
    · rcases a4 q t hq with h1 | ⟨_, _, z, hz, rfl, _⟩
      · exact (h.tri q t h1).mono a1
      · exact (htr z hz).mono a1
    · rw [a3] at hp
      rcases List.mem_append.1 hp with hp | hp
      · intro hn
        cases hk : K p with
        | none => exact h.lft p ((hmem p).2 (.inr hp)) hk
        | some t => rw [a1 _ _ hk] at hn; cases hn
      · intro hn
        -- the new places are labelled
        have hnew : ∀ (ts : List (Int × Lb)) (K : Lab) (left : List Nat) (K' : Lab) (left' : List Nat), toAll l.length ts K left = some (K', left') → (∀ p ∈ left, K p ≠ none) → ∀ p ∈ left', K' p ≠ none := by
          intro ts
          induction ts with
          | nil => intro K left K' left' h hl p hp; cases h; exact hl p hp
          | cons z r ih =>
            intro K left K' left' h hl p hp
            unfold toAll at h
            cases hz : toS l.length z K left with
            | none => rw [hz] at h; cases h
            | some q =>
              rw [hz] at h
              refine ih q.1 q.2 K' left' h (fun p hp => ?_) p hp
              unfold toS at hz
              split at hz
              · split at hz
                · split at hz
                  · cases hz; exact hl p hp
                  · cases hz
                · rename_i hk
                  cases hz
                  rcases List.mem_append.1 hp with hp | hp
                  · have := hl p hp
                    show setK K z.1.toNat z.2 p ≠ none
                    unfold setK
                    by_cases hpz : p = z.1.toNat
                    · rw [if_pos hpz]; simp
                    · rw [if_neg hpz]; exact this
                  · rw [List.mem_singleton.1 hp]; simp [setK]
              · cases hz
        exact hnew ts K rest K' left' hst (fun p hp => h.lft p ((hmem p).2 (.inr hp))) p (by rw [a3]; exact List.mem_append.2 (.inr hp)) hn
    · by_cases hqa : q = at_
      · subst hqa
        have : t = s := by
          have := a1 _ _ hs
          rw [hq] at this
          cases this; rfl
        subst this
        exact ⟨x, ts, hx, by rw [outs_mono (h.tri _ _ hs) a1]; exact ho, a2⟩
      · rcases a4 q t hq with h1 | ⟨h1, _⟩
        · have hnl : q ∉ left := fun hl => by
            rcases (hmem q).1 hl with e | e
            · exact hqa e
            · exact hn (by rw [a3]; exact List.mem_append.2 (.inl e))
          obtain ⟨y, us, b1, b2, b3⟩ := h.done q t h1 hnl
          exact ⟨y, us, b1, by rw [outs_mono (h.tri _ _ h1) a1]; exact b2, fun u hu => ⟨(b3 u hu).1, (b3 u hu).2.1, a1 _ _ (b3 u hu).2.2⟩⟩
        · exact absurd h1 hn
    · rcases a4 q t hq with h1 | ⟨hin, hlt, z, hz, rfl, e, _⟩
      · have := h.bnd q t h1
        omega
      · rcases hkq : K q with _ | t'
        · have hb := hbd z hz
          have hs1 := h.bnd at_ s hs
          have hd : 1 ≤ d := by
            by_cases hd0 : d = 0
            · subst hd0
              exfalso
              have hu : unl l.length K' = unl l.length K := by omega
              have hlt' : unl l.length K' < unl l.length K := by
                -- q is labelled in K' and not in K
                have hmono : ∀ m, ((List.range m).filter fun i => (K' i).isNone).length + (if q < m then 1 else 0) ≤ ((List.range m).filter fun i => (K i).isNone).length := by
                  intro m
                  induction m with
                  | zero => simp
                  | succ m ih =>
                    rw [List.range_succ, List.filter_append, List.filter_append, List.length_append, List.length_append]
                    by_cases hqm : q = m
                    · subst hqm
                      rw [if_neg (by omega)] at ih
                      rw [if_pos (by omega)]
                      simp [hq, hkq] at ih ⊢
                      omega
                    · have himp : (K' m).isNone = true → (K m).isNone = true := by
                        intro h1
                        cases hkm : K m with
                        | none => rfl
                        | some u => rw [a1 _ _ hkm] at h1; cases h1
                      by_cases hlt2 : q < m
                      · rw [if_pos hlt2] at ih
                        rw [if_pos (by omega)]
                        cases h1 : (K' m).isNone with
                        | true => simp [List.filter_cons, h1, himp h1] at ih ⊢; omega
                        | false => cases h2 : (K m).isNone <;> simp [List.filter_cons, h1, h2] at ih ⊢ <;> omega
                      · rw [if_neg hlt2] at ih
                        rw [if_neg (by omega)]
                        cases h1 : (K' m).isNone with
                        | true => simp [List.filter_cons, h1, himp h1] at ih ⊢; omega
                        | false => cases h2 : (K m).isNone <;> simp [List.filter_cons, h1, h2] at ih ⊢ <;> omega
                have := hmono l.length
                rw [if_pos hlt] at this
                unfold unl
                omega
              omega
            · omega
          omega
        · have h2 := a1 _ _ hkq
          rw [hq] at h2
          cases h2
          have := h.bnd q _ hkq
          omega
    · rcases a4 q t hq with h1 | ⟨_, _, z, hz, rfl, e, _⟩
      · exact h.sub V hV q t h1
      · have hVs := h.sub V hV at_ s hs
        obtain ⟨y, us, b1, b2, b3⟩ := hV.2.2 at_ s hVs
        rw [hx] at b1
        cases b1
        rw [outs_mono (h.tri _ _ hs) (h.sub V hV), ho] at b2
        cases b2
        have := (b3 z hz).2.2
        rw [e] at this
        exact this
/-- where it cannot go on there is no labelling -/
theorem Inv.stuck {l : List Ins} {f : Nat} {g : Ins} {K : Lab} {left rest : List Nat} {at_ : Nat} (h : Inv l f g K left) {x : Ins} (hx : l[at_]? = some x) {s : Lb} (hs : K at_ = some s) (hst : stepV l f g K rest at_ x s = none) : ¬ RunsP l f g := by
  rintro ⟨V, hV⟩
  have hVs := h.sub V hV at_ s hs
  obtain ⟨y, us, b1, b2, b3⟩ := hV.2.2 at_ s hVs
  rw [hx] at b1
  cases b1
  rw [outs_mono (h.tri _ _ hs) (h.sub V hV)] at b2
  unfold stepV at hst
  rw [b2] at hst
  exact toAll_valid us K rest (h.sub V hV) b3 hst
/-- where nothing is left there is one -/
theorem Inv.ends {l : List Ins} {f : Nat} {g : Ins} {K : Lab} (h : Inv l f g K []) : RunsP l f g :=
  ⟨K, h.pos, h.start, fun at_ s hs => h.done at_ s hs (by simp)⟩
theorem Inv.begin {l : List Ins} {f : Nat} {g : Ins} (h : 0 < l.length) : Inv l f g (setK (fun _ => none) 0 (leastV f, [])) [0] := by
  have h0 : unl l.length (fun _ => none) = l.length := by
    unfold unl
    have e : (List.range l.length).filter (fun i => ((fun _ => none : Lab) i).isNone) = List.range l.length := List.filter_eq_self.2 (fun _ _ => rfl)
    rw [e, List.length_range]
  have h1 := unl_set (n := l.length) (K := fun _ => none) (s := (leastV f, [])) h rfl
  have key : ∀ {q : Nat} {t : Lb}, setK (fun _ => none) 0 (leastV f, []) q = some t → q = 0 ∧ t = (leastV f, []) := by
    intro q t hq
    unfold setK at hq
    split at hq
    · rename_i e; cases hq; exact ⟨e, rfl⟩
    · cases hq
  refine ⟨h, rfl, fun q t hq => ?_, fun q t hq => ?_, fun p hp => ?_, fun q t hq hn => ?_, fun q t hq => ?_, fun V hV q t hq => ?_⟩
  · rw [(key hq).1]; exact h
  · rw [(key hq).2]; intro p hp; cases hp
  · rw [List.mem_singleton.1 hp]; simp [setK]
  · rw [(key hq).1] at hn; simp at hn
  · rw [(key hq).2]
    simp only
    have : leastV f ≤ 1 ∧ 0 ≤ leastV f := by unfold leastV; split <;> omega
    omega
  · rw [(key hq).1, (key hq).2]; exact hV.2.1
theorem runs_none {f : Nat} {g : Ins} : ¬ RunsP [] f g := by
  rintro ⟨V, h, _⟩
  simp at h
end Go.Proofs.YtoddklfblcfoiaaDoor
