/-
  Whether code may be run: operands, groups, roots; the plain law. No condition: plain laws.
-/
import Derived.Test.YtoddklfblcfoiaaDoorCoQ
namespace Go.Proofs.YtoddklfblcfoiaaDoor
open Go Go.RowKit
set_option linter.unusedVariables false
set_option linter.unusedSimpArgs false

abbrev Rng := Int × Int
/-- what an instruction's operands may be -/
def opK (nF nR n : Nat) (x : Ins) : Nat → Option (Rng × Rng × Rng × Bool)
  | 1 => some ((-4611686018427387904, 4611686018427387903), (0, 0), (0, 0), decide (x.t = []))
  | 2 => some ((0, 0), (0, 0), (0, 0), decide (x.t.length ≤ 16384))
  | 3 => some ((0, 65535), (0, 0), (0, 0), decide (x.t = []))
  | 4 => some ((0, 65535), (0, 0), (0, 0), decide (x.t = []))
  | 5 => some ((0, 65535), (0, 0), (0, 0), decide (x.t = []))
  | 6 => some ((1, (nF : Int) - 1), (1, (nF : Int) - min (max x.a 0) nF), (0, 65535), decide (x.t = []))
  | 7 => some ((0, 0), (0, 0), (0, 0), decide (x.t = []))
  | 8 => some ((0, 0), (0, 0), (0, 0), decide (x.t = []))
  | 9 => some ((0, (n : Int) - 1), (0, 0), (0, 0), decide (x.t = []))
  | 10 => some ((0, (n : Int) - 1), (0, 0), (0, 0), decide (x.t = []))
  | 11 => some ((2, 65535), (0, 0), (0, 0), decide (x.t = []))
  | 12 => some ((0, 65535), (0, 0), (0, 0), decide (x.t = []))
  | 13 => some ((0, 65535), (0, 1), (0, 0), decide (x.t = []))
  | 14 => some ((0, 65535), (0, 0), (0, 0), decide (x.t = []))
  | 15 => some ((0, 0), (0, 0), (0, 0), decide (x.t = []))
  | 16 => some ((0, 0), (0, 0), (0, 0), takesB x.t)
  | 17 => some ((0, 0), (0, 0), (0, 0), decide (x.t = []))
  | 18 => some ((0, (n : Int) - 1), (0, 0), (0, 0), decide (x.t = []))
  | 19 => some ((0, 0), (0, 0), (0, 0), decide (x.t = []))
  | 20 => some ((0, 65535), (0, 0), (0, 0), decide (x.t = []))
  | 21 => some ((0, 0), (0, 0), (0, 0), decide (x.t = []))
  | 22 => some ((0, 65535), (0, 1), (0, 0), decide (x.t = []))
  | 23 => some ((0, (nR : Int) - 1), (0, (n : Int) - 1), (0, 0), decide (x.t = []))
  | 24 => some ((0, (nR : Int) - 1), (0, 0), (0, 0), decide (x.t = []))
  | 25 => some ((0, 0), (0, 0), (0, 0), decide (x.t = []))
  | _ => none
def inB (r : Rng) (v : Int) : Bool := decide (r.1 ≤ v) && decide (v ≤ r.2)
def opV (q : Option (Rng × Rng × Rng × Bool)) (x : Ins) : Bool := match q with
  | none => false
  | some (ra, rb, rc, said) => said && inB ra x.a && inB rb x.b && inB rc x.c
def opB (nF nR n : Nat) (x : Ins) : Bool := opV (opK nF nR n x x.op.toNat) x
theorem takesN_le (s : List UInt8) : takesN s ≤ 3 := by
  unfold takesN
  repeat' split
  all_goals omega
theorem op_zero {nF nR n : Nat} {x : Ins} (h : x.op.toNat = 0) : opB nF nR n x = false := by rw [opB, h]; rfl
theorem op_high {nF nR n : Nat} {x : Ins} (h : 26 ≤ x.op.toNat) : opB nF nR n x = false := by
  obtain ⟨k, hk⟩ : ∃ k, x.op.toNat = k + 26 := ⟨x.op.toNat - 26, by omega⟩
  rw [opB, hk]; rfl
theorem op_range {nF nR n : Nat} {x : Ins} (h : opB nF nR n x = true) : 1 ≤ x.op.toNat ∧ x.op.toNat ≤ 25 := by
  by_cases h0 : x.op.toNat = 0
  · rw [op_zero h0] at h; cases h
  · by_cases h1 : 26 ≤ x.op.toNat
    · rw [op_high h1] at h; cases h
    · omega
theorem op_moves {nF nR n : Nat} {x : Ins} (h : opB nF nR n x = true) (hF : nF ≤ 65536) : Moves1 x := by
  have ht := takesN_le x.t
  have hr := op_range h
  unfold opB at h
  unfold Moves1 movesV
  obtain ⟨k, hk⟩ : ∃ k, k = x.op.toNat := ⟨_, rfl⟩
  rw [← hk] at h hr ⊢
  clear hk
  have hc : k = 1 ∨ k = 2 ∨ k = 3 ∨ k = 4 ∨ k = 5 ∨ k = 6 ∨ k = 7 ∨ k = 8 ∨ k = 9 ∨ k = 10 ∨ k = 11 ∨ k = 12 ∨ k = 13 ∨ k = 14 ∨ k = 15 ∨ k = 16 ∨ k = 17 ∨ k = 18 ∨ k = 19 ∨ k = 20 ∨ k = 21 ∨ k = 22 ∨ k = 23 ∨ k = 24 ∨ k = 25 := by omega
  rcases hc with rfl | rfl | rfl | rfl | rfl | rfl | rfl | rfl | rfl | rfl | rfl | rfl | rfl | rfl | rfl | rfl | rfl | rfl | rfl | rfl | rfl | rfl | rfl | rfl | rfl
  all_goals
    simp [opK, opV, inB] at h ⊢
    try omega
/-! ### groups -/
abbrev By := Nat → Option Ins
def ins0 : Ins := ⟨0, 0, 0, 0, []⟩
def insOr (o : Option Ins) : Ins := o.getD ins0
def grpFree (b : By) (x : Ins) : Prop := ∀ k : Nat, x.a ≤ k → (k : Int) < x.a + x.b → b k = none
def grpAdd (b : By) (x : Ins) : By := fun k => if x.a ≤ (k : Int) ∧ (k : Int) < x.a + x.b then some x else b k
open Classical in
noncomputable def grpS (x : Ins) (b : By) : Option By := if x.op.toNat = 6 then (if grpFree b x then some (grpAdd b x) else none) else some b
noncomputable def grpAll : List Ins → By → Option By
  | [], b => some b
  | x :: r, b => match grpS x b with
    | none => none
    | some b' => grpAll r b'
theorem grpAll_append : ∀ (l m : List Ins) (b b' : By), grpAll l b = some b' → grpAll (l ++ m) b = grpAll m b'
  | [], m, b, b', h => by cases h; rfl
  | x :: r, m, b, b', h => by
    unfold grpAll at h
    cases hx : grpS x b with
    | none => rw [hx] at h; cases h
    | some b1 =>
      rw [hx] at h
      show (match grpS x b with | none => none | some b' => grpAll (r ++ m) b') = _
      rw [hx]
      exact grpAll_append r m b1 b' h
theorem grpAll_snoc {l : List Ins} {b b' : By} (h : grpAll l b = some b') (x : Ins) : grpAll (l ++ [x]) b = grpS x b' := by
  rw [grpAll_append l [x] b b' h]
  unfold grpAll
  cases grpS x b' <;> rfl
theorem grpAll_fail : ∀ (l m : List Ins) (b b' : By) (x : Ins), grpAll l b = some b' → grpS x b' = none → grpAll (l ++ x :: m) b = none := fun l m b b' x h hx => by
  rw [grpAll_append l (x :: m) b b' h]
  unfold grpAll
  rw [hx]
theorem grp_of {l : List Ins} : ∀ {b b' : By}, grpAll l b = some b' → ∀ k x, b' k = some x → b k = some x ∨ (x ∈ l ∧ x.op.toNat = 6 ∧ x.a ≤ (k : Int) ∧ (k : Int) < x.a + x.b) := by
  induction l with
  | nil => intro b b' h k x hk; cases h; exact .inl hk
  | cons y r ih =>
    intro b b' h k x hk
    unfold grpAll at h
    cases hy : grpS y b with
    | none => rw [hy] at h; cases h
    | some b1 =>
      rw [hy] at h
      rcases ih h k x hk with h1 | ⟨h1, h2⟩
      · unfold grpS at hy
        split at hy
        · rename_i h6
          split at hy
          · cases hy
            unfold grpAdd at h1
            split at h1
            · rename_i hr
              cases h1
              exact .inr ⟨List.mem_cons_self .., h6, hr⟩
            · exact .inl h1
          · cases hy
        · cases hy; exact .inl h1
      · exact .inr ⟨List.mem_cons_of_mem _ h1, h2⟩
/-! ### roots -/
def staB (x : Sta) : Bool := decide (x.n ≠ []) && decide (x.s ≠ []) && decide (x.n.length ≤ 32) && decide (x.s.length ≤ 200)
def rootAt (l : List Sta) (i : Nat) (x : Sta) : Prop := (∀ j, j < i → ∀ y, l[j]? = some y → y.n ≠ x.n) ∧ staB x = true
def RootedP (l : List Sta) : Prop := l.length ≤ 24 ∧ ∀ i x, l[i]? = some x → rootAt l i x
/-! ### all of it -/
def OpsAll (c : Cod) : Prop := ∀ l ∈ c.f, ∀ x ∈ l, opB c.f.length c.r.length l.length x = true
def MayRun (c : Cod) (b : By) : Prop := (∀ f, 0 < f → f < c.f.length → b f ≠ none) ∧ ∀ i l, c.f[i]? = some l → RunsP l i (insOr (b i))
def CheckP (c : Cod) : Prop := c.f ≠ [] ∧ RootedP c.r ∧ OpsAll c ∧ ∃ b, grpAll c.f.flatten (fun _ => none) = some b ∧ MayRun c b
open Classical in
noncomputable def checkE (c : Cod) : Int := if CheckP c then 0 else 17
theorem checkE_yes {c : Cod} (h : CheckP c) : checkE c = 0 := if_pos h
theorem checkE_no {c : Cod} (h : ¬ CheckP c) : checkE c = 17 := if_neg h
open Classical in
noncomputable def rootedV (l : List Sta) : Bool := decide (RootedP l)
open Classical in
noncomputable def runsV (l : List Ins) (f : Nat) (g : Ins) : Bool := decide (RunsP l f g)
open Classical in
theorem runsV_yes {l : List Ins} {f : Nat} {g : Ins} (h : RunsP l f g) : runsV l f g = true := decide_eq_true h
open Classical in
theorem runsV_no {l : List Ins} {f : Nat} {g : Ins} (h : ¬ RunsP l f g) : runsV l f g = false := decide_eq_false h
open Classical in
theorem runsV_spec {l : List Ins} {f : Nat} {g : Ins} {B : Bool} (h : B = runsV l f g) : (B = true ↔ RunsP l f g) := by
  rw [h]; exact decide_eq_true_iff
open Classical in
theorem rootedV_spec {l : List Sta} {B : Bool} (h : B = rootedV l) : (B = true ↔ RootedP l) := by
  rw [h]; exact decide_eq_true_iff
/-- the instructions ahead of the j-th of the i-th function -/
def preI (c : Cod) (i : Nat) (f : List Ins) (j : Nat) : List Ins := (c.f.take i).flatten ++ f.take j
theorem preI_start (c : Cod) (f : List Ins) : preI c 0 f 0 = [] := by simp [preI]
theorem preI_more {c : Cod} {i : Nat} {f : List Ins} {j : Nat} {x : Ins} (h : f[j]? = some x) : preI c i f (j + 1) = preI c i f j ++ [x] := by
  obtain ⟨h1, h2⟩ := List.getElem?_eq_some_iff.1 h
  simp [preI, List.take_add_one, h]
theorem preI_next {c : Cod} {i : Nat} {f g : List Ins} (h : c.f[i]? = some f) : preI c (i + 1) g 0 = preI c i f f.length := by
  simp [preI, List.take_add_one, h]
theorem preI_all (c : Cod) (f : List Ins) : preI c c.f.length f 0 = c.f.flatten := by simp [preI]
theorem preI_split {c : Cod} {i : Nat} {f : List Ins} {j : Nat} {x : Ins} (hf : c.f[i]? = some f) (hx : f[j]? = some x) : ∃ m, c.f.flatten = preI c i f j ++ x :: m := by
  obtain ⟨h1, h2⟩ := List.getElem?_eq_some_iff.1 hf
  obtain ⟨h3, h4⟩ := List.getElem?_eq_some_iff.1 hx
  refine ⟨f.drop (j + 1) ++ (c.f.drop (i + 1)).flatten, ?_⟩
  have e1 : c.f = c.f.take i ++ f :: c.f.drop (i + 1) := by
    rw [← h2, List.getElem_cons_drop, List.take_append_drop]
  have e2 : f = f.take j ++ x :: f.drop (j + 1) := by
    rw [← h4, List.getElem_cons_drop, List.take_append_drop]
  conv => lhs; rw [e1]
  rw [List.flatten_append, List.flatten_cons]
  conv => lhs; rw [e2]
  simp [preI]
/-- all operands up to there are right -/
def OpsTo (c : Cod) (i : Nat) (f : List Ins) (j : Nat) : Prop := (∀ q l, q < i → c.f[q]? = some l → ∀ x ∈ l, opB c.f.length c.r.length l.length x = true) ∧ ∀ x ∈ f.take j, opB c.f.length c.r.length f.length x = true
theorem OpsTo.more {c : Cod} {i : Nat} {f : List Ins} {j : Nat} {x : Ins} (h : OpsTo c i f j) (hx : f[j]? = some x) (ho : opB c.f.length c.r.length f.length x = true) : OpsTo c i f (j + 1) := by
  refine ⟨h.1, fun y hy => ?_⟩
  rw [List.take_add_one, hx] at hy
  rcases List.mem_append.1 hy with hy | hy
  · exact h.2 y hy
  · have : y = x := by simpa using hy
    rw [this]; exact ho
theorem OpsTo.next {c : Cod} {i : Nat} {f : List Ins} (h : OpsTo c i f f.length) (hf : c.f[i]? = some f) (g : List Ins) : OpsTo c (i + 1) g 0 := by
  refine ⟨fun q l hq hl x hx => ?_, fun x hx => by simp at hx⟩
  by_cases hqi : q = i
  · subst hqi
    rw [hf] at hl
    cases hl
    exact h.2 x (by rw [List.take_length]; exact hx)
  · exact h.1 q l (by omega) hl x hx
theorem OpsTo.all {c : Cod} {f : List Ins} (h : OpsTo c c.f.length f 0) : OpsAll c := by
  intro l hl x hx
  obtain ⟨q, hq, he⟩ := List.getElem_of_mem hl
  exact h.1 q l hq (by rw [List.getElem?_eq_getElem hq, he]) x hx
/-- a group's functions are there -/
theorem op_group {nF nR n : Nat} {x : Ins} (h : opB nF nR n x = true) (h6 : x.op.toNat = 6) : 1 ≤ x.a ∧ 1 ≤ x.b ∧ x.a + x.b ≤ nF ∧ 0 ≤ x.c ∧ x.c ≤ 65535 := by
  rw [opB, h6] at h
  simp [opK, opV, inB] at h
  omega
end Go.Proofs.YtoddklfblcfoiaaDoor
