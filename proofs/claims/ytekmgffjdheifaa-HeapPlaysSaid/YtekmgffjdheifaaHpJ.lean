/-
  A heap's Collect. Conditions: the heap reads as one; 2^20 roots at most.
-/
import Derived.Test.YtekmgffjdheifaaHpI
namespace Go.Proofs.Ytekmgffjdheifaa
open Go Go.RowKit
set_option linter.unusedVariables false
set_option linter.unusedSimpArgs false
set_option maxRecDepth 100000

/-- what is left behind a collection -/
noncomputable def collectH (H : List Th) (R : List Int) : List Th := by
  classical
  exact (List.range H.length).map fun (i : Nat) => if Live H (R ++ dirtyL H) i then H.getD i noTh else noTh
theorem collectH_len (H : List Th) (R : List Int) : (collectH H R).length = H.length := by simp [collectH]
theorem collectH_at (H : List Th) (R : List Int) (k : Int) [Decidable (Live H (R ++ dirtyL H) k)] : thAt (collectH H R) k = if Live H (R ++ dirtyL H) k then thAt H k else noTh := by
  rcases Int.lt_or_le k 0 with hk | hk
  · rw [thAt_neg hk, thAt_neg hk]; split <;> rfl
  rcases Int.lt_or_le k H.length with hl | hl
  · obtain ⟨i, rfl⟩ : ∃ i : Nat, k = i := ⟨k.toNat, by omega⟩
    have hi : i < H.length := by omega
    rw [thAt_nat, thAt_nat]
    unfold collectH
    rw [List.getD_eq_getElem?_getD, List.getElem?_map, List.getElem?_range hi]
    simp only [Option.map_some, Option.getD_some]
    by_cases h : Live H (R ++ dirtyL H) (i : Int)
    · rw [if_pos h, if_pos h]
    · rw [if_neg h, if_neg h]
  · rw [thAt_ge (by rw [collectH_len]; exact hl), thAt_ge hl]; split <;> rfl
theorem heap_ext {H H' : List Th} (hl : H.length = H'.length) (h : ∀ k, thAt H k = thAt H' k) : H = H' := by
  refine List.ext_getElem hl fun i h1 h2 => ?_
  have := h i
  rw [thAt_nat, thAt_nat, getD_lt h1, getD_lt h2] at this
  exact this
def WfH (H : List Th) : Prop := ∀ k, ∀ y ∈ (thAt H k).o.l, (Lit.int .i64 y.2).wf = true
section
variable {col col' : Nat → Nat} {w w' : World} {b m bm bt : Nat} {H : List Th} {ks ts : List Int} {at_ : Int → Option Nat} {tf : Int → Int}
/-- a thing goes -/
theorem HpIn.drop (h : HpIn col w b m H bm bt ks at_ ts tf) (hg : Good H m) {k : Int} (hk : (thAt H k).is = true) (km : St (fun y => y = 5) col w col' w')
    (row : Row w' b 80 [.int .i64 (m : Nat), .int .i64 (usedH (putTh H k noTh) : Nat), .int .i64 ((H.length : Int) - 1), .map (some bm), .map (some bt)])
    (mp : MapIs ptrE Try.prog 3 w' bm (ks.erase k) (upd at_ k none)) {ts' : List Int} {tf' : Int → Int} (tm : MapIs intE Try.prog 3 w' bt ts' tf')
    (h0 : 0 < (thAt H k).oid → ts' = ts.erase (thAt H k).oid ∧ tf' = upd tf (thAt H k).oid 0) (h1 : ¬ 0 < (thAt H k).oid → ts' = ts ∧ tf' = tf) :
    HpIn col' w' b m (putTh H k noTh) bm bt (ks.erase k) (upd at_ k none) ts' tf' := by
  obtain ⟨i, hi, hl, _⟩ := thAt_is hk
  have hp := hg.pos hk
  have e : ∀ j, thAt (putTh H k noTh) j = if j = k then noTh else thAt H j := thAt_put (by omega) (by omega)
  have hgood := drop_good hg hk
  have hmem : ∀ j, j ∈ ks.erase k ↔ j ≠ k ∧ j ∈ ks := fun j => List.Nodup.mem_erase_iff h.mp.nodup
  have hof : ∀ y, ofH (putTh H k noTh) y = if 0 < (thAt H k).oid then upd (ofH H) (thAt H k).oid 0 y else ofH H y := fun y => by
    by_cases ho : 0 < (thAt H k).oid
    · rw [if_pos ho]
      exact of_less hg hgood ho (fun j => by rw [oid_put hg hk]; rfl) y
    · rw [if_neg ho]
      refine of_same hg hgood (fun j => ?_) y
      rw [oid_put hg hk]
      split
      · rename_i hj
        rw [hj]
        show 0 = _
        have := hg.oid k
        omega
      · rfl
  refine ⟨by rw [putTh_len]; exact row, (km.ext b h.row.lt).trans h.cb, (km.ext bm h.mp.lt).trans h.cm, (km.ext bt h.tm.lt).trans h.ct, mp, tm, h.nm, h.nt, h.nn, fun j => ?_, fun j hj => ?_, fun y => ?_, fun y => ?_⟩
  · rw [e, hmem, h.keys j]
    split
    · rename_i hj
      exact ⟨fun h => absurd hj h.1, fun h => by cases h⟩
    · rename_i hj
      exact ⟨fun h => h.2, fun h => ⟨hj, h⟩⟩
  · obtain ⟨h2, h3⟩ := (hmem j).1 hj
    obtain ⟨gj, h4, h5⟩ := h.th j h3
    rw [e, if_neg h2]
    exact ⟨gj, (upd_other h2).trans h4, h5.st km (by unfold hc; omega)⟩
  · rw [hof]
    by_cases ho : 0 < (thAt H k).oid
    · rw [if_pos ho, (h0 ho).1, List.Nodup.mem_erase_iff h.tm.nodup, h.tk y]
      unfold upd
      split
      · rename_i e
        exact ⟨fun h => absurd e h.1, fun h => by omega⟩
      · rename_i e
        exact ⟨fun h => h.2, fun h => ⟨e, h⟩⟩
    · rw [if_neg ho, (h1 ho).1]
      exact h.tk y
  · rw [hof]
    by_cases ho : 0 < (thAt H k).oid
    · rw [if_pos ho, (h0 ho).2]
      unfold upd
      split
      · rfl
      · exact h.tv y
    · rw [if_neg ho, (h1 ho).2]
      exact h.tv y
theorem used_drop (hg : Good H m) {k : Int} (hk : (thAt H k).is = true) : usedH (putTh H k noTh) + sizeO (thAt H k).o = usedH H := by
  obtain ⟨i, hi, hl, _⟩ := thAt_is hk
  have hp := hg.pos hk
  have := usedH_put (H := H) (k := k) (h := noTh) (by omega) (by omega)
  rw [show sz (thAt H k) = sizeO (thAt H k).o from if_pos hk, show sz noTh = 0 from rfl] at this
  omega
end
/-- how far a collection is: the keys in l are still to come -/
structure Mid (H : List Th) (R : List Int) (m : Nat) (l : List Int) (H' : List Th) : Prop where
  good : Good H' m
  len : H'.length = H.length
  keep : ∀ j, j ∈ l ∨ Live H (R ++ dirtyL H) j → thAt H' j = thAt H j
  gone : ∀ j, j ∉ l → ¬ Live H (R ++ dirtyL H) j → thAt H' j = noTh
theorem Mid.start {H : List Th} {R : List Int} {m : Nat} {ks : List Int} (hg : Good H m) (hk : ∀ k, k ∈ ks ↔ (thAt H k).is = true) : Mid H R m ks H :=
  ⟨hg, rfl, fun _ _ => rfl, fun j h _ => hg.non j (by cases e : (thAt H j).is with | false => rfl | true => exact absurd ((hk j).2 e) h)⟩
theorem Mid.stay {H H' : List Th} {R : List Int} {m : Nat} {l : List Int} {x : Int} (h : Mid H R m l H') (hn : l.Nodup) (hx : Live H (R ++ dirtyL H) x) : Mid H R m (l.erase x) H' :=
  ⟨h.good, h.len, fun j hj => h.keep j (hj.imp_left List.mem_of_mem_erase), fun j hj hl => h.gone j (fun e => hj ((List.Nodup.mem_erase_iff hn).2 ⟨fun e2 => hl (e2 ▸ hx), e⟩)) hl⟩
theorem Mid.drop {H H' : List Th} {R : List Int} {m : Nat} {l : List Int} {x : Int} (h : Mid H R m l H') (hn : l.Nodup) (hxl : x ∈ l) (hi : (thAt H x).is = true) (hx : ¬ Live H (R ++ dirtyL H) x) : Mid H R m (l.erase x) (putTh H' x noTh) := by
  have hi' : (thAt H' x).is = true := by rw [h.keep x (.inl hxl)]; exact hi
  obtain ⟨i, he, hl, _⟩ := thAt_is hi'
  have hp := h.good.pos hi'
  have e : ∀ j, thAt (putTh H' x noTh) j = if j = x then noTh else thAt H' j := thAt_put (by omega) (by omega)
  refine ⟨drop_good h.good hi', by rw [putTh_len]; exact h.len, fun j hj => ?_, fun j hj hl => ?_⟩
  · have hne : j ≠ x := fun e2 => by
      rcases hj with hj | hj
      · exact ((List.Nodup.mem_erase_iff hn).1 hj).1 e2
      · exact hx (e2 ▸ hj)
    rw [e, if_neg hne]
    exact h.keep j (hj.imp_left List.mem_of_mem_erase)
  · rw [e]
    split
    · rfl
    · rename_i hne
      exact h.gone j (fun e2 => hj ((List.Nodup.mem_erase_iff hn).2 ⟨hne, e2⟩)) hl
theorem Mid.done {H H' : List Th} {R : List Int} {m : Nat} (h : Mid H R m [] H') : H' = collectH H R := by
  classical
  refine heap_ext (by rw [h.len, collectH_len]) fun k => ?_
  rw [collectH_at]
  split
  · rename_i hk
    exact h.keep k (.inr hk)
  · rename_i hk
    exact h.gone k (by simp) hk
theorem collect_keep {H : List Th} {m : Nat} (hg : Good H m) (R : List Int) : Good (collectH H R) m := by
  classical
  -- all that goes, one by one
  have key : ∀ (l : List Int) (H' : List Th), l.Nodup → (∀ k ∈ l, (thAt H k).is = true) → Mid H R m l H' → ∃ H'', Mid H R m [] H'' := by
    intro l
    induction l with
    | nil => exact fun H' _ _ h => ⟨H', h⟩
    | cons x l ih =>
      intro H' hn hk h
      by_cases hx : Live H (R ++ dirtyL H) x
      · have := h.stay hn hx
        rw [List.erase_cons_head] at this
        exact ih H' (List.nodup_cons.1 hn).2 (fun k hkl => hk k (by simp [hkl])) this
      · have := h.drop hn (by simp) (hk x (by simp)) hx
        rw [List.erase_cons_head] at this
        exact ih _ (List.nodup_cons.1 hn).2 (fun k hkl => hk k (by simp [hkl])) this
  obtain ⟨H'', h⟩ := key (keysL H) H (keysL_nodup H) (fun k hk => (mem_keysL H k).1 hk) (Mid.start hg (mem_keysL H))
  rw [← h.done]
  exact h.good
end Go.Proofs.Ytekmgffjdheifaa
