/-
  A small code, and how it is spoilt: the plain law. No condition: plain laws.
-/
import Derived.Test.YtoddklfblcfoiaaDoorCqH
namespace Go.Proofs.YtoddklfblcfoiaaDoor
open Go Go.RowKit
set_option linter.unusedVariables false
set_option linter.unusedSimpArgs false

theorem grp_keep : ∀ {l : List Ins} {b b' : By}, grpAll l b = some b' → ∀ (k : Nat) (y : Ins), b k = some y → b' k = some y
  | [], b, b', h, k, y, hk => by cases h; exact hk
  | x :: r, b, b', h, k, y, hk => by
    unfold grpAll at h
    cases hx : grpS x b with
    | none => rw [hx] at h; cases h
    | some b1 =>
      rw [hx] at h
      refine grp_keep h k y ?_
      unfold grpS at hx
      split at hx
      · split at hx
        · rename_i h6 hf
          cases hx
          unfold grpAdd
          rw [if_neg (fun hc => by rw [hf k hc.1 hc.2] at hk; cases hk)]
          exact hk
        · cases hx
      · cases hx; exact hk
/-- who makes a function is who says so -/
theorem grp_has : ∀ {l : List Ins} {b b' : By}, grpAll l b = some b' → ∀ (k : Nat) (y : Ins), y ∈ l → y.op.toNat = 6 → y.a ≤ (k : Int) → (k : Int) < y.a + y.b → b' k = some y
  | [], b, b', h, k, y, hy, _, _, _ => by cases hy
  | x :: r, b, b', h, k, y, hy, h6, h1, h2 => by
    unfold grpAll at h
    cases hx : grpS x b with
    | none => rw [hx] at h; cases h
    | some b1 =>
      rw [hx] at h
      rcases List.mem_cons.1 hy with rfl | hy
      · refine grp_keep h k y ?_
        unfold grpS at hx
        rw [if_pos h6] at hx
        split at hx
        · cases hx
          unfold grpAdd
          rw [if_pos ⟨h1, h2⟩]
        · cases hx
      · exact grp_has h k y hy h6 h1 h2
theorem spoil_op {c : Cod} {l : List Ins} {x : Ins} (hl : l ∈ c.f) (hx : x ∈ l) (h : opB c.f.length c.r.length l.length x = false) : checkE c = 17 :=
  checkE_no fun hc => by have := hc.2.2.1 l hl x hx; rw [h] at this; cases this
def smG : Ins := ⟨6, 1, 1, 1, []⟩
def smF0 : List Ins := [⟨1, 5, 0, 0, []⟩, smG, ⟨18, 7, 0, 0, []⟩, ⟨3, 0, 0, 0, []⟩, ⟨1, 7, 0, 0, []⟩, ⟨7, 0, 0, 0, []⟩, ⟨19, 0, 0, 0, []⟩, ⟨15, 0, 0, 0, []⟩, ⟨25, 0, 0, 0, []⟩]
def smF1 : List Ins := [⟨3, 0, 0, 0, []⟩, ⟨4, 0, 0, 0, []⟩, ⟨16, 0, 0, 0, [43]⟩, ⟨8, 0, 0, 0, []⟩]
def smC (r : List Sta) : Cod := ⟨[smF0, smF1], r⟩
def smV0 : Lab := fun i => [(0, []), (1, []), (1, []), (1, [2]), (2, [2]), (3, [2]), (2, [2]), (2, []), (2, [])][i]?
def smV1 : Lab := fun i => [(1, []), (2, []), (3, []), (2, [])][i]?
theorem sm_valid {l : List Ins} {f : Nat} {g : Ins} (L : List Lb) (h0 : 0 < l.length) (hl : L.length = l.length) (h1 : L[0]? = some (leastV f, []))
    (h2 : ∀ i, i < L.length → ∃ s x ts, L[i]? = some s ∧ l[i]? = some x ∧ outs (fun i => L[i]?) f g i x s = some ts ∧ ∀ t ∈ ts, 0 ≤ t.1 ∧ t.1 < l.length ∧ L[t.1.toNat]? = some t.2) : ValidV l f g (fun i => L[i]?) := by
  refine ⟨h0, h1, fun i s hs => ?_⟩
  obtain ⟨s', x, ts, h3, h4, h5, h6⟩ := h2 i (List.getElem?_eq_some_iff.1 hs).1
  simp only at hs
  rw [h3] at hs
  cases hs
  exact ⟨x, ts, h4, h5, h6⟩
theorem sm_runs0 : RunsP smF0 0 ins0 := by
  refine ⟨_, sm_valid [(0, []), (1, []), (1, []), (1, [2]), (2, [2]), (3, [2]), (2, [2]), (2, []), (2, [])] (by decide) rfl rfl (fun i hi => ?_)⟩
  simp only [List.length_cons, List.length_nil] at hi
  have hc : i = 0 ∨ i = 1 ∨ i = 2 ∨ i = 3 ∨ i = 4 ∨ i = 5 ∨ i = 6 ∨ i = 7 ∨ i = 8 := by omega
  rcases hc with rfl | rfl | rfl | rfl | rfl | rfl | rfl | rfl | rfl
  · exact ⟨_, _, [(1, (1, []))], rfl, rfl, by kernel_rfl, fun t ht => by rw [List.mem_singleton.1 ht]; exact ⟨by decide, by decide, rfl⟩⟩
  · exact ⟨_, _, [(2, (1, []))], rfl, rfl, by kernel_rfl, fun t ht => by rw [List.mem_singleton.1 ht]; exact ⟨by decide, by decide, rfl⟩⟩
  · exact ⟨_, _, [(3, (1, [2])), (7, (2, []))], rfl, rfl, by kernel_rfl, fun t ht => by
      rcases List.mem_cons.1 ht with rfl | ht
      · exact ⟨by decide, by decide, rfl⟩
      · rw [List.mem_singleton.1 ht]; exact ⟨by decide, by decide, rfl⟩⟩
  · exact ⟨_, _, [(4, (2, [2]))], rfl, rfl, by kernel_rfl, fun t ht => by rw [List.mem_singleton.1 ht]; exact ⟨by decide, by decide, rfl⟩⟩
  · exact ⟨_, _, [(5, (3, [2]))], rfl, rfl, by kernel_rfl, fun t ht => by rw [List.mem_singleton.1 ht]; exact ⟨by decide, by decide, rfl⟩⟩
  · exact ⟨_, _, [(6, (2, [2]))], rfl, rfl, by kernel_rfl, fun t ht => by rw [List.mem_singleton.1 ht]; exact ⟨by decide, by decide, rfl⟩⟩
  · exact ⟨_, _, [(7, (2, []))], rfl, rfl, by kernel_rfl, fun t ht => by rw [List.mem_singleton.1 ht]; exact ⟨by decide, by decide, rfl⟩⟩
  · exact ⟨_, _, [(8, (2, []))], rfl, rfl, by kernel_rfl, fun t ht => by rw [List.mem_singleton.1 ht]; exact ⟨by decide, by decide, rfl⟩⟩
  · exact ⟨_, _, [], rfl, rfl, by kernel_rfl, fun t ht => by cases ht⟩
theorem sm_runs1 : RunsP smF1 1 smG := by
  refine ⟨_, sm_valid [(1, []), (2, []), (3, []), (2, [])] (by decide) rfl rfl (fun i hi => ?_)⟩
  simp only [List.length_cons, List.length_nil] at hi
  have hc : i = 0 ∨ i = 1 ∨ i = 2 ∨ i = 3 := by omega
  rcases hc with rfl | rfl | rfl | rfl
  · exact ⟨_, _, [(1, (2, []))], rfl, rfl, by kernel_rfl, fun t ht => by rw [List.mem_singleton.1 ht]; exact ⟨by decide, by decide, rfl⟩⟩
  · exact ⟨_, _, [(2, (3, []))], rfl, rfl, by kernel_rfl, fun t ht => by rw [List.mem_singleton.1 ht]; exact ⟨by decide, by decide, rfl⟩⟩
  · exact ⟨_, _, [(3, (2, []))], rfl, rfl, by kernel_rfl, fun t ht => by rw [List.mem_singleton.1 ht]; exact ⟨by decide, by decide, rfl⟩⟩
  · exact ⟨_, _, [], rfl, rfl, by kernel_rfl, fun t ht => by cases ht⟩
theorem sm_grp : grpAll (smF0 ++ smF1) (fun _ => none) = some (grpAdd (fun _ => none) smG) := by
  have h1 : grpAll [⟨1, 5, 0, 0, []⟩] (fun _ => none) = some (fun _ => none) := grp_free _ (by intro x hx; rw [List.mem_singleton.1 hx]; decide) _
  show grpAll ([⟨1, 5, 0, 0, []⟩] ++ smG :: (smF0.drop 2 ++ smF1)) _ = _
  rw [grpAll_append _ _ _ _ h1]
  unfold grpAll grpS
  rw [if_pos (by decide), if_pos (show grpFree (fun _ => none) smG from fun k _ _ => rfl)]
  refine grp_free _ (fun x hx => ?_) _
  simp only [smF0, smF1, List.drop_succ_cons, List.drop_zero, List.mem_append, List.mem_cons, List.not_mem_nil, or_false] at hx
  rcases hx with (rfl | rfl | rfl | rfl | rfl | rfl | rfl) | rfl | rfl | rfl | rfl <;> decide
theorem sm_yes {r : List Sta} (hr : RootedP r) : checkE (smC r) = 0 := by
  refine checkE_yes ⟨by simp [smC], hr, fun l hl x hx => ?_, _, by simp only [smC, List.flatten_cons, List.flatten_nil, List.append_nil]; exact sm_grp, fun f h3 h4 => ?_, fun i l hl => ?_⟩
  · simp only [smC, List.mem_cons, List.not_mem_nil, or_false] at hl
    rcases hl with rfl | rfl
    · simp only [smF0, List.mem_cons, List.not_mem_nil, or_false] at hx
      rcases hx with rfl | rfl | rfl | rfl | rfl | rfl | rfl | rfl | rfl <;> kernel_rfl
    · simp only [smF1, List.mem_cons, List.not_mem_nil, or_false] at hx
      rcases hx with rfl | rfl | rfl | rfl <;> kernel_rfl
  · have : f = 1 := by simp [smC] at h4; omega
    subst this
    simp [grpAdd, smG]
  · cases i with
    | zero => cases hl; exact sm_runs0
    | succ i => cases i with
      | zero => cases hl; exact sm_runs1
      | succ i => simp [smC] at hl
/-- the small code, one of its instructions another one -/
def smX (f k : Nat) (x : Ins) : Cod := if f = 0 then ⟨[smF0.set k x, smF1], []⟩ else ⟨[smF0, smF1.set k x], []⟩
def smAt (f k : Nat) : Option Ins := if f = 0 then smF0[k]? else smF1[k]?
theorem smX_no {f k : Nat} {x y : Ins} (hy : smAt f k = some y) (h : opB 2 0 9 x = false ∧ opB 2 0 4 x = false) : checkE (smX f k x) = 17 := by
  unfold smAt at hy
  unfold smX
  split at hy
  · rename_i h0
    rw [if_pos h0]
    have hk : k < 9 := (List.getElem?_eq_some_iff.1 hy).1
    refine spoil_op (l := smF0.set k x) (List.mem_cons_self ..) (List.mem_of_getElem? (i := k) (by rw [List.getElem?_set, if_pos rfl, if_pos (show k < smF0.length from hk)])) ?_
    rw [List.length_set]
    exact h.1
  · rename_i h0
    rw [if_neg h0]
    have hk : k < 4 := (List.getElem?_eq_some_iff.1 hy).1
    refine spoil_op (l := smF1.set k x) (List.mem_cons_of_mem _ (List.mem_cons_self ..)) (List.mem_of_getElem? (i := k) (by rw [List.getElem?_set, if_pos rfl, if_pos (show k < smF1.length from hk)])) ?_
    rw [List.length_set]
    exact h.2
theorem sm_at {f k : Nat} {y : Ins} (h : smAt f k = some y) : y ∈ smF0 ∨ y ∈ smF1 := by
  unfold smAt at h
  split at h
  · exact .inl (List.mem_of_getElem? h)
  · exact .inr (List.mem_of_getElem? h)
theorem smX_0 {f k : Nat} {y : Ins} (hy : smAt f k = some y) (o : UInt8) (ho : o.toNat = 0 ∨ 26 ≤ o.toNat) : checkE (smX f k { y with op := o }) = 17 := by
  refine smX_no hy ?_
  rcases ho with h | h
  · exact ⟨op_zero h, op_zero h⟩
  · exact ⟨op_high h, op_high h⟩
theorem smX_1 {f k : Nat} {y : Ins} (hy : smAt f k = some y) : checkE (smX f k { y with t := [120] }) = 17 := by
  refine smX_no hy ?_
  rcases sm_at hy with h | h
  · simp only [smF0, smG, List.mem_cons, List.not_mem_nil, or_false] at h
    rcases h with rfl | rfl | rfl | rfl | rfl | rfl | rfl | rfl | rfl <;> exact ⟨by kernel_rfl, by kernel_rfl⟩
  · simp only [smF1, List.mem_cons, List.not_mem_nil, or_false] at h
    rcases h with rfl | rfl | rfl | rfl <;> exact ⟨by kernel_rfl, by kernel_rfl⟩
theorem in0 {z : Int} (h : z ≠ 0) : inB (0, 0) z = false := by
  unfold inB
  by_cases h1 : (0 : Int) ≤ z
  · rw [decide_eq_false (p := z ≤ (0, (0 : Int)).2) (by simp only; omega), Bool.and_false]
  · rw [decide_eq_false (p := (0, (0 : Int)).1 ≤ z) (by simp only; omega), Bool.false_and]
theorem op_b0 {nF nR n : Nat} {x : Ins} (h : (opK nF nR n x x.op.toNat).map (fun r => r.2.1) = some (0, 0)) (hb : x.b ≠ 0) : opB nF nR n x = false := by
  unfold opB
  cases hq : opK nF nR n x x.op.toNat with
  | none => rfl
  | some r =>
    obtain ⟨ra, rb, rc, said⟩ := r
    rw [hq] at h
    have h1 : rb = (0, 0) := Option.some.inj h
    subst h1
    show (said && inB ra x.a && inB (0, 0) x.b && inB rc x.c) = false
    rw [in0 hb]
    simp
theorem op_c0 {nF nR n : Nat} {x : Ins} (h : (opK nF nR n x x.op.toNat).map (fun r => r.2.2.1) = some (0, 0)) (hb : x.c ≠ 0) : opB nF nR n x = false := by
  unfold opB
  cases hq : opK nF nR n x x.op.toNat with
  | none => rfl
  | some r =>
    obtain ⟨ra, rb, rc, said⟩ := r
    rw [hq] at h
    have h1 : rc = (0, 0) := Option.some.inj h
    subst h1
    show (said && inB ra x.a && inB rb x.b && inB (0, 0) x.c) = false
    rw [in0 hb]
    simp
theorem smX_2 {f k : Nat} {y : Ins} (hy : smAt f k = some y) (z : Int) (hz : z ≠ 0) (h6 : y.op.toNat ≠ 6) : checkE (smX f k { y with b := z }) = 17 := by
  refine smX_no hy ?_
  rcases sm_at hy with h | h
  · simp only [smF0, smG, List.mem_cons, List.not_mem_nil, or_false] at h
    rcases h with rfl | rfl | rfl | rfl | rfl | rfl | rfl | rfl | rfl
    all_goals first | exact absurd rfl h6 | exact ⟨op_b0 (by kernel_rfl) hz, op_b0 (by kernel_rfl) hz⟩
  · simp only [smF1, List.mem_cons, List.not_mem_nil, or_false] at h
    rcases h with rfl | rfl | rfl | rfl
    all_goals first | exact absurd rfl h6 | exact ⟨op_b0 (by kernel_rfl) hz, op_b0 (by kernel_rfl) hz⟩
theorem smX_3 {f k : Nat} {y : Ins} (hy : smAt f k = some y) (z : Int) (hz : z ≠ 0) (h6 : y.op.toNat ≠ 6) : checkE (smX f k { y with c := z }) = 17 := by
  refine smX_no hy ?_
  rcases sm_at hy with h | h
  · simp only [smF0, smG, List.mem_cons, List.not_mem_nil, or_false] at h
    rcases h with rfl | rfl | rfl | rfl | rfl | rfl | rfl | rfl | rfl
    all_goals first | exact absurd rfl h6 | exact ⟨op_c0 (by kernel_rfl) hz, op_c0 (by kernel_rfl) hz⟩
  · simp only [smF1, List.mem_cons, List.not_mem_nil, or_false] at h
    rcases h with rfl | rfl | rfl | rfl
    all_goals first | exact absurd rfl h6 | exact ⟨op_c0 (by kernel_rfl) hz, op_c0 (by kernel_rfl) hz⟩
def smN : Ins := ⟨16, 0, 0, 0, [110, 111, 98, 111, 100, 121]⟩
theorem smX_6 {f k : Nat} {y : Ins} (hy : smAt f k = some y) : checkE (smX f k smN) = 17 := smX_no hy ⟨by kernel_rfl, by kernel_rfl⟩
def sm3 : Cod := ⟨[smF0, smF1, [⟨3, 0, 0, 0, []⟩, ⟨8, 0, 0, 0, []⟩]], []⟩
theorem sm3_no : checkE sm3 = 17 := checkE_no fun hc => by
  obtain ⟨_, _, _, b, h1, h2, _⟩ := hc
  have h3 := h2 2 (by decide) (by decide)
  cases hb : b 2 with
  | none => exact h3 hb
  | some x =>
    rcases grp_of h1 2 x hb with h4 | ⟨h4, h5, h6, h7⟩
    · cases h4
    · simp only [sm3, smF0, smF1, smG, List.flatten_cons, List.flatten_nil, List.append_nil, List.mem_append, List.mem_cons, List.not_mem_nil, or_false] at h4
      rcases h4 with (rfl | rfl | rfl | rfl | rfl | rfl | rfl | rfl | rfl) | (rfl | rfl | rfl | rfl) | rfl | rfl
      all_goals first | exact absurd h5 (by decide) | exact absurd h7 (by decide)
def sm4G : Ins := ⟨6, 1, 1, 0, []⟩
def sm4 : Cod := ⟨[smF0 ++ [sm4G], smF1], []⟩
theorem sm4_no : checkE sm4 = 17 := checkE_no fun hc => by
  obtain ⟨_, _, _, b, h1, _, _⟩ := hc
  have h2 := grp_has h1 1 smG (by simp [sm4, smF0]) (by decide) (by decide) (by decide)
  have h3 := grp_has h1 1 sm4G (by simp [sm4]) (by decide) (by decide) (by decide)
  rw [h2] at h3
  exact absurd (congrArg Ins.c (Option.some.inj h3)) (by decide)
def smR : List Sta := [⟨[114], [105, 110, 116]⟩, ⟨[115], [105, 110, 116]⟩]
def smR2 : List Sta := [⟨[114], [105, 110, 116]⟩, ⟨[114], [105, 110, 116]⟩]
theorem smR_yes : checkE (smC smR) = 0 := by
  refine sm_yes ⟨by decide, fun i x hx => ?_⟩
  cases i with
  | zero => cases hx; exact ⟨fun j hj => by omega, by kernel_rfl⟩
  | succ i => cases i with
    | zero =>
      cases hx
      refine ⟨fun j hj y hy => ?_, by kernel_rfl⟩
      have : j = 0 := by omega
      subst this
      cases hy
      decide
    | succ i => simp [smR] at hx
theorem smR_no : checkE (smC smR2) = 17 := checkE_no fun hc => by
  have := (hc.2.1.2 1 _ rfl).1 0 (by decide) _ rfl
  exact this rfl
end Go.Proofs.YtoddklfblcfoiaaDoor
