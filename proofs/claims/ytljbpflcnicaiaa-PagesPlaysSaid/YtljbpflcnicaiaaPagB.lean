/-
  Parts of a map: part, Lay (both), Equal at words. Conditions: a map reads as one, bytes of 2^20 at most.
-/
import Derived.Test.YtljbpflcnicaiaaPagA
import Derived.Test.YtljbpflcnicaiaaOctR
import Derived.Lib.SliceRun
namespace Go.Proofs.Ytljbpflcnicaiaa
open Go.RowKit
set_option linter.unusedVariables false
set_option linter.unusedSimpArgs false

/-! ### clear -/
theorem Row.setCells {e : TypeId} (g : Nat) : ∀ (cs : List Value) (p : Nat) (w : World) (l : List Value), Row w g e l → p + cs.length ≤ l.length → Row (w.setCells g p cs) g e (splice l p cs) ∧ w.grownBy (w.setCells g p cs) (some g)
  | [], p, w, l, h, _ => ⟨by simpa [splice, World.setCells] using h, ⟨rfl, rfl, rfl, Nat.le_refl _, fun _ _ _ => rfl⟩⟩
  | v :: r, p, w, l, h, hk => by
    simp only [List.length_cons] at hk
    have h2 := Row.setCells g r (p + 1) (w.setCell ⟨g, p, none⟩ v) (l.set p v) (h.set p v) (by simp; omega)
    rw [World.setCells]
    rw [← splice_cons l p v r (by omega)]
    exact ⟨h2.1, ((Mods.grown (grown_setCell w g p v)).trans (Mods.grown h2.2)).os, ((Mods.grown (grown_setCell w g p v)).trans (Mods.grown h2.2)).tape, ((Mods.grown (grown_setCell w g p v)).trans (Mods.grown h2.2)).output, ((Mods.grown (grown_setCell w g p v)).trans (Mods.grown h2.2)).size, fun i hi hn => ((Mods.grown (grown_setCell w g p v)).trans (Mods.grown h2.2)).block i hi (fun e => hn e.symm)⟩
theorem wpL_clear {P : Program} {w : World} {ops : Array Oper} {rest : List Oper} {o : Oper} {a : Act} {Q : Exit → Act → World → Prop} {t : TypeId}
    (hgd : o.guard = none) (s : Operand) (ho : o.op = .call { callee := .builtin .clear, args := #[s], argTypes := #[t] }) {v u : Value} {w' : World} (hs : a.eval s = v)
    (hr : (Builtin.clear_ #[t] o.type #[v]).run P w = .ok u w') (h : wpList P ops Q rest (a.put o.dst u) w') : wpList P ops Q (o :: rest) a w := by
  refine wpList_plain hgd fun K hK => ?_
  unfold Oper.wp
  simp [execOp, ho, resolve, invoke, builtin, hs, hr, Result.andThen]
  exact hK _ _ h

/-! ### parts -/
def partN (i : Nat) : Nat := if i = 8 then 32 else 124
def partL (S : List Nat) (i : Nat) : List Nat := (S.drop (124 * i)).take 124
theorem part_len {S : List Nat} (h : Good S) (i : Nat) (hi : i < 9) : (partL S i).length = partN i := by
  rw [partL, List.length_take, List.length_drop, h.1, partN]; split <;> omega
theorem partN_le (i : Nat) : 32 ≤ partN i ∧ partN i ≤ 124 := by unfold partN; split <;> omega
theorem part_end (i : Nat) (hi : i < 9) : 124 * i + partN i ≤ 1024 ∧ partN i ≤ 1024 - 124 * i := by unfold partN; split <;> omega
theorem part_row {w : World} {b e : Nat} {k : IntKind} {S : List Nat} (h : Row w b e (secs k S)) (hg : Good S) (i : Nat) (hi : i < 9) :
    Sl w 1 (.slice (some ⟨b, 124 * i, none⟩) (partN i) (1024 - 124 * i)) (partN i) (secs k (partL S i)) := by
  have hp := part_end i hi
  refine ⟨by rw [secs_len, part_len hg i hi, Nat.mul_one], _, _, rfl, hp.2, by simp [maxLen]; omega, by simp, fun j u hu => ⟨b, _, rfl, ?_⟩⟩
  have hj := (List.getElem?_eq_some_iff.1 hu).1
  rw [secs_len, part_len hg i hi] at hj
  rw [h.cell, ← hu]
  have := (partN_le i).2
  simp only [secs, partL, List.getElem?_map]
  rw [List.getElem?_take_of_lt (by omega), List.getElem?_drop]
set_option maxRecDepth 100000 in
set_option maxHeartbeats 400000 in
theorem part_ok (b : Nat) (i : Nat) (w : World) (hi : i < 9) :
    Calls Try.prog 33 #[.pointer (some ⟨b, 0, none⟩), .int .i64 (i : Int)] w fun e w' => e = .returned (.slice (some ⟨b, 124 * i, none⟩) (partN i) (1024 - 124 * i)) ∧ w = w' := by
  have h : i = 0 ∨ i = 1 ∨ i = 2 ∨ i = 3 ∨ i = 4 ∨ i = 5 ∨ i = 6 ∨ i = 7 ∨ i = 8 := by omega
  clear hi
  rcases h with rfl | rfl | rfl | rfl | rfl | rfl | rfl | rfl | rfl <;> (go_enter Try.func33, Try.ntmps33; go_wp2_with fail; go_ret; exact ⟨rfl, rfl⟩)
theorem part_bad (b : Nat) (i : Int) (w : World) (hi : i < 0 ∨ 9 ≤ i) :
    Calls Try.prog 33 #[.pointer (some ⟨b, 0, none⟩), .int .i64 i] w fun e w' => e = .returned (.slice none 0 0) ∧ w = w' := by
  rcases hi with hi | hi
  · go_enter Try.func33, Try.ntmps33
    go_wp2_with fail
    go_ret
    exact ⟨rfl, rfl⟩
  · have h0 : ¬ i < 0 := by omega
    go_enter Try.func33, Try.ntmps33
    go_wp2_with fail
    go_ret
    exact ⟨rfl, rfl⟩
theorem part_nil (i : Int) (w : World) :
    Calls Try.prog 33 #[.pointer none, .int .i64 i] w fun e w' => e = .returned (.slice none 0 0) ∧ w = w' := by
  go_enter Try.func33, Try.ntmps33
  go_wp2_with fail
  go_ret
  exact ⟨rfl, rfl⟩

/-! ### what is laid -/
def wordsL : List UInt8 → List Nat
  | x :: y :: r => (x.toNat + 256 * y.toNat) :: wordsL r
  | _ => []
theorem words_len : ∀ b : List UInt8, (wordsL b).length = b.length / 2
  | [] => rfl
  | [_] => by simp [wordsL]
  | x :: y :: r => by simp [wordsL, words_len r]; omega
theorem words_get : ∀ (b : List UInt8) (k : Nat), 2 * k + 1 < b.length → (wordsL b).getD k 0 = (b.getD (2 * k) 0).toNat + 256 * (b.getD (2 * k + 1) 0).toNat
  | [], k, h => by simp at h
  | [_], k, h => by simp at h
  | x :: y :: r, 0, h => rfl
  | x :: y :: r, k + 1, h => by
    have ih := words_get r k (by simp at h; omega)
    have e1 : 2 * (k + 1) = (2 * k) + 1 + 1 := by omega
    rw [wordsL, List.getD_cons_succ, ih, e1, List.getD_cons_succ, List.getD_cons_succ, List.getD_cons_succ, List.getD_cons_succ]
theorem words_lt (b : List UInt8) (k : Nat) : (wordsL b).getD k 0 < 65536 := by
  by_cases h : 2 * k + 1 < b.length
  · rw [words_get b k h]
    have h1 := (b.getD (2 * k) 0).toNat_lt
    have h2 := (b.getD (2 * k + 1) 0).toNat_lt
    omega
  · rw [List.getD_eq_getElem?_getD, List.getElem?_eq_none (by rw [words_len]; omega)]; exact Nat.zero_lt_succ _
def endZ (b : List UInt8) : Bool := decide (0 < b.length) && decide (b.getD (b.length - 1) 0 = 0) && decide (b.getD (b.length - 2) 0 = 0)
def layIs (i : Int) (b : List UInt8) : Bool := decide (0 ≤ i) && decide (i < 9) && decide (b.length % 2 = 0) && decide (b.length ≤ 2 * partN i.toNat) && !endZ b
def laidL (i : Nat) (b : List UInt8) : List Nat := wordsL b ++ List.replicate (partN i - b.length / 2) 0
def layS (S : List Nat) (i : Int) (b : List UInt8) : List Nat := if layIs i b then splice S (124 * i.toNat) (laidL i.toNat b) else S
theorem secs_splice (k : IntKind) (S T : List Nat) (p : Nat) : splice (secs k S) p (secs k T) = secs k (splice S p T) := by
  unfold splice secs
  simp [List.map_take, List.map_drop]
theorem splice_set {α : Type} (S T : List α) (p j : Nat) (v : α) (hp : p + T.length ≤ S.length) (hj : j < T.length) : (splice S p T).set (p + j) v = splice S p (T.set j v) := by
  unfold splice
  have h1 : (S.take p).length = p := by rw [List.length_take]; omega
  rw [List.set_append_right _ _ (by omega), h1, show p + j - p = j by omega, List.set_append_left _ _ hj, List.length_set]
theorem splice_snoc {α : Type} (S T : List α) (p : Nat) (v : α) (hp : p + T.length < S.length) : (splice S p T).set (p + T.length) v = splice S p (T ++ [v]) := by
  unfold splice
  have h1 : (S.take p).length = p := by rw [List.length_take]; omega
  rw [List.set_append_right _ _ (by omega)]
  have h2 : S.drop (p + T.length) = S[p + T.length] :: S.drop (p + T.length + 1) := List.drop_eq_getElem_cons hp
  rw [h2, h1, show p + T.length - p = T.length by omega, List.set_append_right _ _ (Nat.le_refl _), Nat.sub_self, List.set_cons_zero, List.length_append, List.length_singleton]
  simp [Nat.add_assoc]
theorem good_splice {S T : List Nat} (h : Good S) (p : Nat) (hp : p + T.length ≤ 1024) (hT : ∀ j, T.getD j 0 < 65536) : Good (splice S p T) := by
  refine ⟨by rw [length_splice _ _ _ (by rw [h.1]; exact hp)]; exact h.1, fun i => ?_⟩
  have h0 := h.1
  unfold splice
  have h1 : (S.take p).length = p := by rw [List.length_take]; omega
  rw [List.getD_eq_getElem?_getD]
  by_cases hi : i < p
  · rw [List.getElem?_append_left (by omega), List.getElem?_take_of_lt hi, ← List.getD_eq_getElem?_getD]; exact h.2 i
  · rw [List.getElem?_append_right (by omega), h1]
    by_cases hj : i - p < T.length
    · rw [List.getElem?_append_left hj, ← List.getD_eq_getElem?_getD]; exact hT _
    · rw [List.getElem?_append_right (by omega), List.getElem?_drop, ← List.getD_eq_getElem?_getD]; exact h.2 _
theorem laid_len (i : Nat) (b : List UInt8) (h : b.length ≤ 2 * partN i) : (laidL i b).length = partN i := by
  rw [laidL, List.length_append, words_len, List.length_replicate]; omega
theorem laid_lt (i : Nat) (b : List UInt8) (j : Nat) : (laidL i b).getD j 0 < 65536 := by
  rw [laidL, List.getD_eq_getElem?_getD]
  by_cases hj : j < (wordsL b).length
  · rw [List.getElem?_append_left hj, ← List.getD_eq_getElem?_getD]; exact words_lt b j
  · rw [List.getElem?_append_right (by omega), List.getElem?_replicate]; split <;> exact Nat.zero_lt_succ _
theorem good_lay {S : List Nat} (h : Good S) (i : Int) (b : List UInt8) : Good (layS S i b) := by
  unfold layS
  split
  · rename_i hl
    simp only [layIs, Bool.and_eq_true, decide_eq_true_eq] at hl
    have := part_end i.toNat (by omega)
    exact good_splice h _ (by rw [laid_len _ _ hl.1.2]; omega) (laid_lt _ _)
  · exact h
/-- how bytes may end -/
theorem lay_cases (i : Int) (b : List UInt8) (n : Nat) (hn : b.length = n) : ((i < 0 ∨ 9 ≤ i) ∧ layIs i b = false) ∨ ∃ k : Nat, i = k ∧ k < 9 ∧ ((n % 2 = 1 ∧ layIs i b = false) ∨ (n % 2 = 0 ∧ 2 * partN k < n ∧ layIs i b = false) ∨ (n = 0 ∧ layIs i b = true) ∨
    ∃ j, n = j + 2 ∧ n % 2 = 0 ∧ n ≤ 2 * partN k ∧ layIs i b = !(decide ((b.getD (j + 1) 0).toNat = 0) && decide ((b.getD j 0).toNat = 0))) := by
  by_cases h1 : i < 0 ∨ 9 ≤ i
  · left
    refine ⟨h1, ?_⟩
    rcases h1 with h1 | h1
    · rw [layIs, decide_eq_false (by omega : ¬ 0 ≤ i)]; rfl
    · rw [layIs, decide_eq_false (by omega : ¬ i < 9)]; simp
  · right
    refine ⟨i.toNat, by omega, by omega, ?_⟩
    have e : layIs i b = (decide (b.length % 2 = 0) && decide (b.length ≤ 2 * partN i.toNat) && !endZ b) := by
      rw [layIs, decide_eq_true (by omega : 0 ≤ i), decide_eq_true (by omega : i < 9)]; rfl
    rw [e, hn]
    by_cases h2 : n % 2 = 1
    · left; exact ⟨h2, by rw [decide_eq_false (by omega : ¬ n % 2 = 0)]; rfl⟩
    right
    have h3 : n % 2 = 0 := by omega
    by_cases h4 : 2 * partN i.toNat < n
    · left; exact ⟨h3, h4, by rw [decide_eq_false (by omega : ¬ n ≤ 2 * partN i.toNat)]; simp⟩
    right
    rw [decide_eq_true h3, decide_eq_true (by omega : n ≤ 2 * partN i.toNat)]
    by_cases h5 : n = 0
    · left; exact ⟨h5, by rw [endZ, hn, h5]; rfl⟩
    right
    refine ⟨n - 2, by omega, h3, by omega, ?_⟩
    rw [endZ, hn, decide_eq_true (by omega : 0 < n), show n - 2 + 1 = n - 1 by omega]
    have z : ∀ x : UInt8, decide (x = 0) = decide (x.toNat = 0) := by
      intro x
      rw [decide_eq_decide]
      constructor
      · intro h; rw [h]; rfl
      · intro h; exact UInt8.toNat_inj.1 h
    simp only [z, Bool.true_and]

/-! ### Lay -/
theorem zeros_set (W : List Nat) (k P : Nat) (hk : k < W.length) (hP : k < P) : (W.take k ++ List.replicate (P - k) 0).set k (W.getD k 0) = W.take (k + 1) ++ List.replicate (P - (k + 1)) 0 := by
  have h1 : (W.take k).length = k := by rw [List.length_take]; omega
  rw [List.set_append_right _ _ (by omega), h1, Nat.sub_self, show P - k = (P - (k + 1)) + 1 by omega, List.replicate_succ, List.set_cons_zero, List.take_succ_eq_append_getElem hk, List.append_assoc, List.getD_eq_getElem?_getD, List.getElem?_eq_getElem hk]
  simp
theorem get2 (b : List UInt8) (k : Nat) (h : 2 * k + 1 < b.length) : getN b ((2 * k : Nat) : Int) 2 = (wordsL b).getD k 0 := by
  rw [words_get b k h]
  have e : getIs b ((2 * k : Nat) : Int) 2 = true := by
    simp [getIs, cutIs, saysB]; omega
  rw [getN, if_pos e, cutL, if_pos (by simp [cutIs]; omega)]
  have h2 : (b.drop (2 * k)).take 2 = [b[2 * k], b[2 * k + 1]] := by
    rw [List.drop_eq_getElem_cons (by omega : 2 * k < b.length), List.drop_eq_getElem_cons h]; rfl
  rw [Int.toNat_natCast, show (2 : Int).toNat = 2 from rfl, h2]
  simp [leN, List.getD_eq_getElem?_getD, h, show 2 * k < b.length by omega]
end Go.Proofs.Ytljbpflcnicaiaa
