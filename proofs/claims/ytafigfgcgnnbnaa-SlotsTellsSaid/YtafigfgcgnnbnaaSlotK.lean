/-
  What a page keeps: laws of the plain answers, and what stays true beside a slice of one's own. No condition.
-/
import Derived.Test.YtafigfgcgnnbnaaSlotL1
namespace Go.Proofs.Ytafigfgcgnnbnaa
open Go.RowKit
set_option linter.unusedVariables false
set_option linter.unusedSimpArgs false

/-- what stays true whatever is done in the memory of v itself -/
def Far (w : World) (v : Value) (Φ : World → Prop) : Prop := ∀ w', w.grownBy w' v.ownBlock → Φ w'
theorem Far.here {w : World} {v : Value} {Φ : World → Prop} (h : Far w v Φ) : Φ w := h w (World.grownBy.refl _ _)
theorem Far.below {w w' : World} {v : Value} {Φ : World → Prop} (h : Far w v Φ) (hb : Below w.heap.size w w') : Far w' v Φ :=
  fun _ hg => h _ ((grown_below hb _).trans hg)
theorem Far.grown {w w' : World} {v v' : Value} {Φ : World → Prop} (h : Far w v Φ) (hg : w.grownBy w' v.ownBlock) (hv : ∀ g, v'.ownBlock = some g → v.ownBlock = some g ∨ w.heap.size ≤ g) : Far w' v' Φ := by
  intro w2 hg2
  refine h w2 ⟨hg2.os.trans hg.os, hg2.tape.trans hg.tape, hg2.output.trans hg.output, Nat.le_trans hg.size hg2.size, fun k hk hne => ?_⟩
  refine (hg2.block k (Nat.lt_of_lt_of_le hk hg.size) ?_).trans (hg.block k hk hne)
  intro he
  rcases hv k he.symm with h | h
  · exact hne h.symm
  · omega
/-- what was made later than v's memory is apart from it -/
theorem Far.own {w0 w : World} {base0 n0 base n size : Nat} {v x : Value} {xs0 : List Value} {l : List UInt8} (hv : Own w0 base0 size v n0 xs0) (hx : Own w base 1 x n (bvs l)) (hb : w0.heap.size ≤ base) : Far w v (fun w' => Sl w' 1 x n (bvs l)) := by
  intro w' hg
  refine (hx.kept hg ?_).sl
  cases hu : x.ownBlock with
  | none => exact .inl rfl
  | some g =>
    right
    intro he
    have h1 := hx.lt g hu
    have h2 := hv.lives g he.symm
    omega
theorem trimL_trim (X : List (List UInt8)) : trimL (trimL X) = trimL X := by
  by_cases h : trimL X = []
  · rw [h]; rfl
  · refine trim_last _ h ?_
    have key : ∀ Y : List (List UInt8), ∀ h : (Y.dropWhile (·.isEmpty)) ≠ [], (Y.dropWhile (·.isEmpty)).head h ≠ [] := by
      intro Y
      induction Y with
      | nil => intro h; exact absurd rfl h
      | cons y Y ih =>
        intro h
        by_cases hy : y.isEmpty
        · simp only [List.dropWhile_cons, hy, if_true] at h ⊢
          exact ih h
        · simp only [List.dropWhile_cons, hy] at h ⊢
          intro e
          simp at e
          exact hy (by rw [e]; rfl)
    have h2 : X.reverse.dropWhile (·.isEmpty) ≠ [] := by
      intro e; apply h; unfold trimL; rw [e]; rfl
    have := key X.reverse h2
    have e1 : (trimL X).getLast h = (X.reverse.dropWhile (·.isEmpty)).head h2 := by
      have k2 : ∀ (Y : List (List UInt8)) (hY : Y ≠ []) (hr : Y.reverse ≠ []), Y.reverse.getLast hr = Y.head hY := fun Y hY hr => by simp
      exact k2 _ h2 h
    rw [e1]
    exact this
theorem write_trim (X : List (List UInt8)) : writeL (trimL X) = writeL X := by
  unfold writeL; rw [trimL_trim]
/-- a record is put -/
theorem keep_put {q r : List UInt8} {H : List (List UInt8)} (hq : readOk q = true) (hH : readL q = H) (hr : r ≠ []) :
    putIs q r = decide ((writeL (putRows H r)).length ≤ 248) ∧ (writeL (putRows H r)).length = 1 + (putRows H r).length + (H.flatten.length + r.length) ∧
    (putIs q r = true → putQ q r = writeL (putRows H r) ∧ putS q r = freeL H ∧ readOk (putQ q r) = true ∧ readL (putQ q r) = putRows H r ∧ (putQ q r).length ≤ 248) := by
  subst hH
  obtain ⟨h1, h2, h3, h4⟩ := read_parts hq
  have h5 := put_parts _ r h1 hr
  have e := putIs_eq q r
  rw [hq, decide_eq_true (List.length_pos_iff.2 hr)] at e
  simp only [Bool.true_and] at e
  refine ⟨e, ?_, fun h => ?_⟩
  · rw [write_len _ h5.1]
    unfold putRows
    split
    · simp <;> omega
    · rename_i hne
      have hle : freeL (readL q) ≤ (readL q).length := List.findIdx_le_length
      have := flat_set (readL q) (freeL (readL q)) r [] (freeL_at _ (by omega))
      simp only [List.length_nil] at this
      rw [List.length_set]
      omega
  · have hl : (writeL (putRows (readL q) r)).length ≤ 248 := by rw [h] at e; simpa using e.symm
    have h6 := read_write _ h5.1 hl
    have e2 : putQ q r = writeL (putRows (readL q) r) := by rw [putQ, if_pos h]
    refine ⟨e2, by rw [putS, if_pos h], ?_, ?_, ?_⟩
    · rw [e2]; exact h6.1
    · rw [e2]; exact h6.2
    · rw [e2]; exact hl
/-- a slot is dropped -/
theorem keep_drop {q : List UInt8} {s : Int} {H : List (List UInt8)} (hq : readOk q = true) (hH : readL q = H) (h : getIs q s = true) :
    readOk (dropQ q s) = true ∧ readL (dropQ q s) = trimL (H.set s.toNat []) ∧ (dropQ q s).length ≤ 248 := by
  subst hH
  have e : dropQ q s = writeL (trimL ((readL q).set s.toNat [])) := by rw [dropQ, if_pos h, write_trim]; rfl
  have hl := drop_len h
  rw [e] at hl ⊢
  have := read_write _ (trimL_trim _) hl
  exact ⟨this.1, this.2, hl⟩
theorem putRows_len (H : List (List UInt8)) (r : List UInt8) : (putRows H r).length = if freeL H = H.length then H.length + 1 else H.length := by
  unfold putRows; split <;> simp
end Go.Proofs.Ytafigfgcgnnbnaa
