/-
  Law 24's 'does' at no heap; what a row of things done makes of a heap; the anchor. Conditions: what is done reads, and is small.
-/
import Derived.Test.YtekmgffjdheifaaHpV
namespace Go.Proofs.Ytekmgffjdheifaa
open Go Go.RowKit
set_option linter.unusedVariables false
set_option linter.unusedSimpArgs false
set_option maxRecDepth 100000

/-! ### what a step keeps -/
theorem do_good {H : List Th} {m : Nat} (hg : Good H m) (q : Opn) : Good (doH m H q) m := by
  unfold doH
  split
  · exact alloc_keep hg _
  split
  · exact set_keep hg _ _ _
  split
  · exact tie_keep hg _ _
  split
  · exact untie_keep hg _
  split
  · exact fill_keep hg _ _
  split
  · exact clean_keep hg _
  split
  · exact collect_keep hg _
  · exact hg
theorem do_len {H : List Th} {m : Nat} (q : Opn) : (doH m H q).length ≤ H.length + 1 := by
  unfold doH
  split
  · unfold allocH; split <;> simp
  split
  · unfold setH; split <;> simp [putTh_len]
  split
  · unfold tieH; split <;> simp [putTh_len]
  split
  · unfold untieH; split <;> simp [putTh_len]
  split
  · unfold fillH; split <;> simp [putTh_len]
  split
  · unfold cleanH; split <;> simp [putTh_len]
  split
  · rw [collectH_len]; omega
  · omega
theorem wf_put {H : List Th} {k : Int} {x : Th} (hw : WfH H) (hx : ∀ y ∈ x.o.l, (Lit.int .i64 y.2).wf = true) : WfH (putTh H k x) := fun j y hy => by
  by_cases hk : 0 ≤ k ∧ k < H.length
  · rw [thAt_put hk.1 hk.2] at hy
    split at hy
    · exact hx y hy
    · exact hw j y hy
  · by_cases h0 : k < 0
    · by_cases hl : 0 < H.length
      · have e : putTh H k x = putTh H 0 x := by unfold putTh; rw [show k.toNat = (0 : Int).toNat by omega]
        rw [e, thAt_put (Int.le_refl _) (by omega)] at hy
        split at hy
        · exact hx y hy
        · exact hw j y hy
      · have : H = [] := List.eq_nil_of_length_eq_zero (by omega)
        subst this
        exact hw j y hy
    · have e : putTh H k x = H := by unfold putTh; exact List.set_eq_of_length_le (by omega)
      rw [e] at hy
      exact hw j y hy
theorem do_wf {H : List Th} {m : Nat} (hw : WfH H) (q : Opn) (ho : ∀ y ∈ q.o.l, (Lit.int .i64 y.2).wf = true) (hx : (Lit.int .i64 q.x.2).wf = true) : WfH (doH m H q) := by
  unfold doH
  split
  · unfold allocH
    split
    · intro j y hy
      rw [thAt_snoc] at hy
      split at hy
      · exact ho y hy
      · exact hw j y hy
    · exact hw
  split
  · unfold setH
    split
    · refine wf_put hw (fun y hy => ?_)
      rcases List.mem_or_eq_of_mem_set hy with h | h
      · exact hw _ y h
      · rw [h]; exact hx
    · exact hw
  split
  · unfold tieH
    split
    · exact wf_put hw (fun y hy => hw _ y hy)
    · exact hw
  split
  · unfold untieH
    split
    · exact wf_put hw (fun y hy => hw _ y hy)
    · exact hw
  split
  · unfold fillH
    split
    · exact wf_put hw (fun y hy => ho y hy)
    · exact hw
  split
  · unfold cleanH
    split
    · exact wf_put hw (fun y hy => hw _ y hy)
    · exact hw
  split
  · intro j y hy
    classical
    rw [collectH_at] at hy
    split at hy
    · exact hw j y hy
    · cases hy
  · exact hw
theorem newH_wf : WfH newH := fun j y hy => by rw [newH_at] at hy; cases hy
/-- behind a row of things done -/
noncomputable def playH (m : Nat) (H : List Th) (L : List Opn) : List Th := L.foldl (doH m) H
theorem play_snoc (m : Nat) (H : List Th) (L : List Opn) (i : Nat) (hi : i < L.length) : playH m H (L.take (i + 1)) = doH m (playH m H (L.take i)) (L.getD i opn0) := by
  unfold playH
  rw [List.take_succ_eq_append_getElem hi, List.foldl_append, getD_lt hi]
  rfl
structure Live24 (H : List Th) (m n : Nat) : Prop where
  good : Good H m
  wf : WfH H
  len : H.length ≤ n
theorem Live24.start (m : Nat) : Live24 newH m 1 := ⟨newH_good m, newH_wf, by decide⟩
theorem Live24.step {H : List Th} {m n : Nat} (h : Live24 H m n) {w : World} {oc : List Value} {q : Opn} {a : Option Addr} {no c : Nat} {aR : Option Addr} {nR cR : Nat} (hq : OpIn w oc q a no c aR nR cR) : Live24 (doH m H q) m (n + 1) := by
  obtain ⟨cs, ho⟩ := hq.ob
  exact ⟨do_good h.good q, do_wf h.wf q ho.wf hq.wx, by have := do_len (H := H) (m := m) q; have := h.len; omega⟩
end Go.Proofs.Ytekmgffjdheifaa
