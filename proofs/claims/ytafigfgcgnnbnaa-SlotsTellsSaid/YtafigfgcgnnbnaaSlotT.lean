/-
  The document's Right, Slots, Get, Drop, and what is read of what was written. Conditions: slices of bytes of 2^20 at most.
-/
import Derived.Test.YtafigfgcgnnbnaaSlotS
namespace Go.Proofs.Ytafigfgcgnnbnaa
open Go.RowKit
set_option linter.unusedVariables false
set_option linter.unusedSimpArgs false

/-! ### what was written is read -/
theorem trim_last (X : List (List UInt8)) (h : X ≠ []) (hl : X.getLast h ≠ []) : trimL X = X := by
  rw [← List.dropLast_concat_getLast h, trimL_snoc _ _ hl]
theorem last_of_trim (X : List (List UInt8)) (h : X ≠ []) (ht : trimL X = X) : X.getLast h ≠ [] := by
  intro he
  have h1 := trimL_snoc_nil X.dropLast
  have e := List.dropLast_concat_getLast h
  rw [he] at e
  rw [e, ht] at h1
  have h2 := trimL_le X.dropLast
  rw [← h1] at h2
  have h3 : 0 < X.length := List.length_pos_iff.2 h
  simp at h2; omega
theorem eachGo_write (p : List UInt8) : ∀ (X : List (List UInt8)) (q : Nat), p.drop q = X.flatten → (∀ r ∈ X, r.length ≤ 255) → eachGo p (lensL X) q = X
  | [], q, _, _ => by simp [lensL, eachGo]
  | r :: X, q, h, hr => by
    have h1 : r.length ≤ 255 := hr r (by simp)
    have e : (UInt8.ofNat r.length).toNat = r.length := by rw [UInt8.toNat_ofNat']; omega
    have hl : p.length - q = r.length + X.flatten.length := by
      have := congrArg List.length h
      simpa using this
    have hc : ¬ p.length - q < (UInt8.ofNat r.length).toNat := by rw [e]; omega
    have e2 : lensL (r :: X) = UInt8.ofNat r.length :: lensL X := rfl
    rw [e2]
    unfold eachGo
    rw [if_neg hc, e]
    congr 1
    · rw [h]; simp
    · refine eachGo_write p X (q + r.length) ?_ (fun x hx => hr x (by simp [hx]))
      rw [← List.drop_drop, h]; simp
theorem mem_le_flat (X : List (List UInt8)) (r : List UInt8) (h : r ∈ X) : r.length ≤ X.flatten.length := by
  induction X with
  | nil => cases h
  | cons x X ih =>
    rw [List.flatten_cons, List.length_append]
    rcases List.mem_cons.1 h with rfl | h
    · omega
    · have := ih h; omega
theorem write_len (X : List (List UInt8)) (ht : trimL X = X) : (writeL X).length = 1 + X.length + X.flatten.length := by
  simp only [writeL, lensL, ht, List.length_append, List.length_cons, List.length_map]; omega
theorem read_write (X : List (List UInt8)) (ht : trimL X = X) (h : (writeL X).length ≤ 248) : readOk (writeL X) = true ∧ readL (writeL X) = X := by
  have hl := write_len X ht
  have hX : X.length ≤ 247 := by omega
  have e0 : (UInt8.ofNat X.length).toNat = X.length := by rw [UInt8.toNat_ofNat']; omega
  have hw : writeL X = UInt8.ofNat X.length :: (lensL X ++ X.flatten) := by unfold writeL; rw [ht]; rfl
  have hll : (lensL X).length = X.length := by simp [lensL]
  have e : eachL (writeL X) = X := by
    rw [hw]
    simp only [eachL]
    rw [if_neg (by rw [e0]; simp [hll]; omega), e0]
    have e2 : (lensL X ++ X.flatten).take X.length = lensL X := by rw [← hll]; exact List.take_left
    rw [e2]
    refine eachGo_write _ X _ ?_ (fun r hr => by have := mem_le_flat X r hr; omega)
    rw [Nat.add_comm, List.drop_succ_cons, ← hll]
    exact List.drop_left
  have e1 : readOk (writeL X) = true := by
    rw [readOk, e, decide_eq_true h]; simp
  exact ⟨e1, by rw [readL_ok e1, e]⟩
theorem read_parts {p : List UInt8} (h : readOk p = true) : trimL (readL p) = readL p ∧ writeL (readL p) = p ∧ p.length = 1 + (readL p).length + (readL p).flatten.length ∧ p.length ≤ 248 := by
  obtain ⟨h1, h2, h3, h4, h5, h6⟩ := readOk_parts h
  rw [readL_ok h]
  refine ⟨h5, h6, ?_, h1⟩
  have := write_len _ h5
  rw [h6] at this
  exact this
theorem flat_set (X : List (List UInt8)) (k : Nat) (r s : List UInt8) (h : X[k]? = some s) : (X.set k r).flatten.length + s.length = X.flatten.length + r.length := by
  induction X generalizing k with
  | nil => simp at h
  | cons x X ih =>
    cases k with
    | zero => simp at h; subst h; simp; omega
    | succ k => have := ih k (by simpa using h); simp only [List.set_cons_succ, List.flatten_cons, List.length_append] at *; omega
theorem freeL_at (X : List (List UInt8)) (h : freeL X < X.length) : X[freeL X]? = some [] := by
  unfold freeL at *
  have h1 := List.findIdx_getElem (w := h)
  rw [List.getElem?_eq_getElem h]
  rw [List.isEmpty_iff.1 h1]
theorem put_parts (E : List (List UInt8)) (r : List UInt8) (ht : trimL E = E) (hr : r ≠ []) : trimL (putRows E r) = putRows E r ∧ (writeL (putRows E r)).length = (writeL E).length + r.length + (if freeL E = E.length then 1 else 0) := by
  by_cases hf : freeL E = E.length
  · have e : putRows E r = E ++ [r] := by rw [putRows, if_pos hf]
    have ht2 := trimL_snoc E r hr
    rw [e]
    refine ⟨ht2, ?_⟩
    rw [write_len _ ht2, write_len _ ht, if_pos hf]
    simp; omega
  · have hle : freeL E ≤ E.length := List.findIdx_le_length
    have hlt : freeL E < E.length := by omega
    have e : putRows E r = E.set (freeL E) r := by rw [putRows, if_neg hf]
    have hne : E.set (freeL E) r ≠ [] := by intro h; have := congrArg List.length h; simp at this; subst this; simp at hlt
    have hE : E ≠ [] := by intro h; subst h; simp at hlt
    have ht2 : trimL (E.set (freeL E) r) = E.set (freeL E) r := by
      refine trim_last _ hne ?_
      rw [List.getLast_eq_getElem, List.getElem_set]
      split
      · exact hr
      · have := last_of_trim E hE ht
        rw [List.getLast_eq_getElem] at this
        simpa using this
    rw [e]
    refine ⟨ht2, ?_⟩
    have := flat_set E (freeL E) r [] (freeL_at E hlt)
    rw [write_len _ ht2, write_len _ ht, if_neg hf]
    simp at this ⊢; omega
theorem put_fits {p r : List UInt8} (h : readOk p = true) (hr : r ≠ []) : (writeL (putRows (readL p) r)).length = p.length + r.length + (if freeL (readL p) = (readL p).length then 1 else 0) := by
  obtain ⟨h1, h2, h3, h4⟩ := read_parts h
  rw [(put_parts _ r h1 hr).2, h2]
/-- whether it is put, as the document says -/
theorem putIs_eq (p r : List UInt8) : putIs p r = (readOk p && decide (0 < r.length) && decide ((writeL (putRows (readL p) r)).length ≤ 248)) := by
  by_cases hr : r = []
  · subst hr; simp [putIs]
  · have hpos : 0 < r.length := List.length_pos_iff.2 hr
    cases h : readOk p
    · have e : roomN p = -1 := by rw [roomN, if_pos (.inl h)]
      rw [putIs, e, decide_eq_false (by omega : ¬ (r.length : Int) ≤ -1)]; simp
    · have hf := put_fits h hr
      obtain ⟨h1, h2, h3, h4⟩ := read_parts h
      rw [putIs, hf, decide_eq_true hpos]
      simp only [Bool.true_and]
      congr 1
      rw [eq_iff_iff, roomN, leftN, h]
      constructor
      · intro hh
        split at hh <;> split at hh <;> simp_all <;> omega
      · intro hh
        split at hh <;> split <;> simp_all <;> omega

theorem grown_set (w : World) (b o : Nat) (v : Value) : w.grownBy (w.setCell ⟨b, o, none⟩ v) (some b) :=
  let h := (Below.refl b w).setCell (p := ⟨b, o, none⟩) (Nat.le_refl _) v
  ⟨h.os, h.tape, h.output, h.size, fun k _ hk => Below.heap_setCell _ _ _ k (fun e => hk (by rw [e]))⟩

/-! ### the walks -/
theorem rright_any (a : Option Addr) (n c : Nat) (p : List UInt8) (w : World) (hp : Sl w 1 (.slice a n c) n (bvs p)) (hsz : n ≤ 1048576) :
    Calls Try.prog 25 #[.slice a n c] w fun e w' => e = .returned (.bool (readOk p)) ∧ Below w.heap.size w w' := by
  go_enter Try.func25, Try.ntmps25
  go_wp2_with fail
  refine (rread_any a n c p w hp hsz).mono ?_
  rintro e w1 ⟨v1, cells, rfl, ho, hr, hb⟩
  obtain ⟨a1, c1, rfl⟩ := ho.form
  go_wp2_with fail
  go_ret
  exact ⟨rfl, hb⟩

set_option maxHeartbeats 800000 in
theorem rslots_any (a : Option Addr) (n c : Nat) (p : List UInt8) (w : World) (hp : Sl w 1 (.slice a n c) n (bvs p)) (hsz : n ≤ 1048576) :
    Calls Try.prog 28 #[.slice a n c] w fun e w' => ∃ v, e = .returned v ∧ Own w' w.heap.size 1 v (slotsL p).length (ints (slotsL p)) ∧ Below w.heap.size w w' := by
  obtain ⟨L, hL⟩ : ∃ L, L = slotsL p := ⟨_, rfl⟩
  rw [← hL]
  obtain ⟨E, hE⟩ : ∃ E, E = readL p := ⟨_, rfl⟩
  have hE2 : E.length ≤ 255 := by rw [hE]; exact readL_len p
  have hr0 := rread_any a n c p w hp hsz
  rw [← hE] at hr0
  have HLE : Hid (L = slotsTo E E.length) := by show _ = _; rw [hL, hE]; rfl
  have HR0 := Lib.hid hr0
  clear hL hE hr0
  go_enter Try.func28, Try.ntmps28
  go_wp2_with fail
  refine HR0.out.mono ?_
  rintro e w1 ⟨v1, cells, rfl, ho, hra, hb⟩
  have hr := hra.rows
  obtain ⟨a1, c1, rfl⟩ := ho.form
  obtain ⟨m, hm⟩ : ∃ m, m = E.length := ⟨_, rfl⟩
  rw [← hm] at ho
  have HM := Lib.hid hm
  rw [← hm] at hE2
  clear hra
  rw [← hm]
  clear hm
  go_wp2_with fail
  go_loopw [5, 6] (fun v5 v6 wr => ∃ k : Nat, k ≤ m ∧ v6 = .int .i64 k ∧ Own wr w1.heap.size 1 v5 (slotsTo E k).length (ints (slotsTo E k)) ∧ Below w1.heap.size w1 wr) (fun _ v6 _ => m - (intOf v6).toNat)
  case atStart => exact ⟨0, Nat.zero_le _, rfl, Own.nil _ _ _, Below.refl _ _⟩
  case round =>
    obtain ⟨k, hk, rfl, ho2, hb2⟩ := hrel
    obtain ⟨a2, c2, rfl⟩ := ho2.form
    have hle := slotsTo_len E k
    obtain ⟨N, hN⟩ : ∃ N, N = (slotsTo E k).length := ⟨_, rfl⟩
    rw [← hN] at ho2 hle
    have HN := Lib.hid hN
    rw [← hN]
    clear hN
    by_cases hkm : k = m
    · subst hkm
      go_wp2_with fail
      go_ret
      refine ⟨_, rfl, ?_, hb.trans (hb2.mono hb.size)⟩
      have e : L = slotsTo E k := by rw [HLE.out, ← HM.out]
      rw [e, ← HN.out]
      exact ho2.mono hb.size
    · have hlt : k < m := by omega
      have hlt' : (k : Int) < m := by omega
      obtain ⟨b3, o3, av, cv, r, ha3, hri, hc, hsl⟩ := row_at (ho.below hb2).sl (hr.below hb2) k hlt
      cases ha3
      have hst := slotsTo_succ E k
      have hgd : E.getD k [] = r := by rw [List.getD_eq_getElem?_getD, hri]; rfl
      rw [hgd] at hst
      by_cases h0 : r = []
      · subst h0
        have HST := Lib.hid hst
        rw [List.length_nil] at hc
        clear hst hri hgd hsl
        go_wp2_with fail
        refine ⟨⟨k + 1, by omega, by go_num, ?_, hb2⟩, by simp [intOf]; omega⟩
        rw [HST.out]
        simp only [List.isEmpty_nil, if_true, List.append_nil]
        rw [← HN.out]
        exact ho2
      · have hpos : 0 < r.length := List.length_pos_iff.2 h0
        have he : r.isEmpty = false := by simpa using h0
        rw [he] at hst
        have HST := Lib.hid hst
        obtain ⟨q, hq⟩ : ∃ q, q = r.length := ⟨_, rfl⟩
        rw [← hq] at hc hpos
        have hpos' : (0 : Int) < q := by omega
        have ho3 := ho2.alloc (.cells #[.int .i64 (k : Int)] 3)
        have hs3 := Sl.one wr (.int .i64 (k : Int)) 3
        have hb3 := hb2.alloc hb2.size (.cells #[.int .i64 (k : Int)] 3)
        clear hst hri hgd hsl he hq h0
        go_wp2_with (at_builtin; refine wpL_append etI rfl _ _ rfl ho3 rfl hs3 rfl (by simp [Value.oneCell']) (by omega) (by simp [maxLen]; omega) hb3.size ?_; intro v4 w4 ho4 hg4; have hb4 := below_own hb3 ho3 hg4 (Nat.le_refl _) hb3.size; clear hg4)
        refine ⟨⟨k + 1, by omega, by go_num, ?_, hb4⟩, by simp [intOf]; omega⟩
        rw [HST.out]
        simp only [Bool.false_eq_true, if_false, List.length_append, List.length_singleton]
        rw [← HN.out, ints_append]
        exact ho4

theorem get_cases (E : List (List UInt8)) (slot : Int) : slot < 0 ∨ (0 ≤ slot ∧ (E.length : Int) ≤ slot) ∨ ∃ (k : Nat) (r : List UInt8), slot = k ∧ k < E.length ∧ E[k]? = some r ∧ E.getD k [] = r := by
  by_cases h1 : slot < 0
  · exact .inl h1
  by_cases h2 : (E.length : Int) ≤ slot
  · exact .inr (.inl ⟨by omega, h2⟩)
  obtain ⟨k, rfl⟩ : ∃ k : Nat, slot = k := ⟨slot.toNat, by omega⟩
  have hk : k < E.length := by omega
  exact .inr (.inr ⟨k, E[k], rfl, hk, List.getElem?_eq_getElem hk, by rw [List.getD_eq_getElem?_getD, List.getElem?_eq_getElem hk]; rfl⟩)

set_option maxHeartbeats 800000 in
theorem rget_any (a : Option Addr) (n c : Nat) (p : List UInt8) (w : World) (slot : Int) (hp : Sl w 1 (.slice a n c) n (bvs p)) (hsz : n ≤ 1048576) :
    Calls Try.prog 24 #[.slice a n c, .int .i64 slot] w fun e w' => ∃ v, e = .returned (.tuple #[v, .bool (getIs p slot)]) ∧ Sl w' 1 v (getR p slot).length (bvs (getR p slot)) ∧ Below w.heap.size w w' := by
  have hr0 := rread_any a n c p w hp hsz
  obtain ⟨E, hE⟩ : ∃ E, E = readL p := ⟨_, rfl⟩
  obtain ⟨G, hG⟩ : ∃ G, G = getIs p slot := ⟨_, rfl⟩
  obtain ⟨X, hX⟩ : ∃ X, X = getR p slot := ⟨_, rfl⟩
  rw [← hG, ← hX]
  have HG : Hid (G = (decide (0 ≤ slot) && decide (slot < E.length) && !(E.getD slot.toNat []).isEmpty)) := by show _ = _; rw [hG, hE]; rfl
  have HX : Hid (X = if G then E.getD slot.toNat [] else []) := by show _ = _; rw [hX, hG, hE]; rfl
  rw [← hE] at hr0
  have HR0 := Lib.hid hr0
  have hcases := get_cases E slot
  obtain ⟨m, hm⟩ : ∃ m, m = E.length := ⟨_, rfl⟩
  rw [← hm] at HR0 HG hcases
  clear hr0 hE hG hX hm
  rcases hcases with h1 | ⟨h1, h2⟩ | ⟨k, r, rfl, hk, hri, hgd⟩
  · have hG0 : G = false := by rw [HG.out, decide_eq_false (by omega : ¬ 0 ≤ slot)]; rfl
    have HX0 : Hid (G = false ∧ X = []) := ⟨hG0, by rw [HX.out, hG0]; rfl⟩
    clear hG0
    go_enter Try.func24, Try.ntmps24
    go_wp2_with fail
    refine HR0.out.mono ?_
    rintro e w1 ⟨v1, cells, rfl, ho, hr, hb⟩
    obtain ⟨a1, c1, rfl⟩ := ho.form
    go_wp2_with fail
    go_ret2
    rw [HX0.out.1, HX0.out.2]
    exact ⟨_, rfl, Sl.nil _ _, hb⟩
  · have hG0 : G = false := by rw [HG.out, decide_eq_false (by omega : ¬ slot < m), Bool.and_false]; rfl
    have HX0 : Hid (G = false ∧ X = []) := ⟨hG0, by rw [HX.out, hG0]; rfl⟩
    clear hG0
    go_enter Try.func24, Try.ntmps24
    go_wp2_with fail
    refine HR0.out.mono ?_
    rintro e w1 ⟨v1, cells, rfl, ho, hr, hb⟩
    obtain ⟨a1, c1, rfl⟩ := ho.form
    go_wp2_with fail
    go_ret2
    rw [HX0.out.1, HX0.out.2]
    exact ⟨_, rfl, Sl.nil _ _, hb⟩
  · have hk' : (k : Int) < m := by omega
    have HRI := Lib.hid hri
    have hGr : G = !r.isEmpty := by
      rw [HG.out, decide_eq_true (by omega : (0 : Int) ≤ (k : Int)), decide_eq_true hk', Int.toNat_natCast, hgd]; rfl
    have hXr : X = r := by
      rw [HX.out, Int.toNat_natCast, hgd]
      cases hb : G
      · have h1 : r.isEmpty = true := by rw [hb] at hGr; simpa using hGr.symm
        rw [List.isEmpty_iff.1 h1]; rfl
      · rfl
    by_cases h0 : r = []
    · subst h0
      have HX0 : Hid (G = false ∧ X = []) := ⟨hGr, hXr⟩
      clear hGr hXr hri hgd
      go_enter Try.func24, Try.ntmps24
      go_wp2_with fail
      refine HR0.out.mono ?_
      rintro e w1 ⟨v1, cells, rfl, ho, hra, hb⟩
      obtain ⟨a1, c1, rfl⟩ := ho.form
      obtain ⟨b3, o3, av, cv, r3, ha3, hri3, hc, hsl⟩ := row_at ho.sl hra.rows k hk
      rw [HRI.out] at hri3
      cases hri3
      cases ha3
      rw [List.length_nil] at hc
      go_wp2_with fail
      go_ret2
      rw [HX0.out.1, HX0.out.2]
      exact ⟨_, rfl, Sl.nil _ _, hb⟩
    · have HX0 : Hid (G = true ∧ X = r) := ⟨by rw [hGr]; simpa using h0, hXr⟩
      have hpos : 0 < r.length := List.length_pos_iff.2 h0
      obtain ⟨q, hq⟩ : ∃ q, q = r.length := ⟨_, rfl⟩
      rw [← hq] at hpos
      have hq0 : ((q : Int) == 0) = false := by rw [beq_eq_false_iff_ne]; omega
      have HQ := Lib.hid hq
      clear hGr hXr hq hri hgd
      go_enter Try.func24, Try.ntmps24
      go_wp2_with fail
      refine HR0.out.mono ?_
      rintro e w1 ⟨v1, cells, rfl, ho, hra, hb⟩
      obtain ⟨a1, c1, rfl⟩ := ho.form
      obtain ⟨b3, o3, av, cv, r3, ha3, hri3, hc, hsl⟩ := row_at ho.sl hra.rows k hk
      rw [HRI.out] at hri3
      cases hri3
      cases ha3
      rw [← HQ.out] at hc hsl
      go_wp2_with fail
      go_ret2
      rw [HX0.out.1, HX0.out.2, ← HQ.out]
      exact ⟨_, rfl, hsl, hb⟩

set_option maxHeartbeats 800000 in
theorem rdrop_any (a : Option Addr) (n c : Nat) (p : List UInt8) (w : World) (slot : Int) (hp : Sl w 1 (.slice a n c) n (bvs p)) (hsz : n ≤ 1048576) :
    Calls Try.prog 17 #[.slice a n c, .int .i64 slot] w fun e w' => ∃ v, e = .returned (.tuple #[v, .bool (getIs p slot)]) ∧ Own w' w.heap.size 1 v (dropQ p slot).length (bvs (dropQ p slot)) ∧ Below w.heap.size w w' := by
  have hr0 := rread_any a n c p w hp hsz
  have hfl := readL_flat p
  have hpn := hp.len.1
  obtain ⟨E, hE⟩ : ∃ E, E = readL p := ⟨_, rfl⟩
  have hE2 : E.length ≤ 255 := by rw [hE]; exact readL_len p
  obtain ⟨O, hO⟩ : ∃ O, O = readOk p := ⟨_, rfl⟩
  obtain ⟨G, hG⟩ : ∃ G, G = getIs p slot := ⟨_, rfl⟩
  obtain ⟨X, hX⟩ : ∃ X, X = dropQ p slot := ⟨_, rfl⟩
  rw [← hG, ← hX]
  have HG : Hid (G = (decide (0 ≤ slot) && decide (slot < E.length) && !(E.getD slot.toNat []).isEmpty)) := by show _ = _; rw [hG, hE]; rfl
  have HX : Hid (X = if G then writeL (dropRows E slot.toNat) else []) := by show _ = _; rw [hX, hG, hE]; rfl
  have hO2 : O = false → E = [] := fun h => by rw [hE]; exact readL_not (by rw [← hO]; exact h)
  rw [← hE, ← hO] at hr0
  rw [← hE] at hfl
  have HR0 := Lib.hid hr0
  have hcases := get_cases E slot
  have hEf : E.flatten.length ≤ 1048576 := by omega
  obtain ⟨m, hm⟩ : ∃ m, m = E.length := ⟨_, rfl⟩
  have HM := Lib.hid hm
  rw [← hm] at HR0 HG hcases hE2
  have HO2 := Lib.hid hO2
  clear hr0 hE hG hX hm hpn hfl hO hO2
  cases O with
  | false =>
    have e := HO2.out rfl
    have hm0 : m = 0 := by rw [HM.out, e]; rfl
    have hG0 : G = false := by
      rw [HG.out, hm0]
      by_cases h : 0 ≤ slot
      · rw [decide_eq_false (by omega : ¬ slot < ((0 : Nat) : Int)), Bool.and_false]; rfl
      · rw [decide_eq_false h]; rfl
    have HX0 : Hid (G = false ∧ X = []) := ⟨hG0, by rw [HX.out, hG0]; rfl⟩
    clear hG0 e hm0 hcases
    go_enter Try.func17, Try.ntmps17
    go_wp2_with fail
    refine HR0.out.mono ?_
    rintro e w1 ⟨v1, cells, rfl, ho, hr, hb⟩
    obtain ⟨a1, c1, rfl⟩ := ho.form
    go_wp2_with fail
    go_ret2
    rw [HX0.out.1, HX0.out.2]
    exact ⟨_, rfl, Own.nil _ _ _, hb⟩
  | true =>
  rcases hcases with h1 | ⟨h1, h2⟩ | ⟨k, r, rfl, hk, hri, hgd⟩
  · have hG0 : G = false := by rw [HG.out, decide_eq_false (by omega : ¬ 0 ≤ slot)]; rfl
    have HX0 : Hid (G = false ∧ X = []) := ⟨hG0, by rw [HX.out, hG0]; rfl⟩
    clear hG0
    go_enter Try.func17, Try.ntmps17
    go_wp2_with fail
    refine HR0.out.mono ?_
    rintro e w1 ⟨v1, cells, rfl, ho, hr, hb⟩
    obtain ⟨a1, c1, rfl⟩ := ho.form
    go_wp2_with fail
    go_ret2
    rw [HX0.out.1, HX0.out.2]
    exact ⟨_, rfl, Own.nil _ _ _, hb⟩
  · have hG0 : G = false := by rw [HG.out, decide_eq_false (by omega : ¬ slot < m), Bool.and_false]; rfl
    have HX0 : Hid (G = false ∧ X = []) := ⟨hG0, by rw [HX.out, hG0]; rfl⟩
    clear hG0
    go_enter Try.func17, Try.ntmps17
    go_wp2_with fail
    refine HR0.out.mono ?_
    rintro e w1 ⟨v1, cells, rfl, ho, hr, hb⟩
    obtain ⟨a1, c1, rfl⟩ := ho.form
    go_wp2_with fail
    go_ret2
    rw [HX0.out.1, HX0.out.2]
    exact ⟨_, rfl, Own.nil _ _ _, hb⟩
  · have hk' : (k : Int) < m := by omega
    have HRI := Lib.hid hri
    have hGr : G = !r.isEmpty := by
      rw [HG.out, decide_eq_true (by omega : (0 : Int) ≤ (k : Int)), decide_eq_true hk', Int.toNat_natCast, hgd]; rfl
    by_cases h0 : r = []
    · subst h0
      have HX0 : Hid (G = false ∧ X = []) := ⟨hGr, by rw [HX.out, hGr]; rfl⟩
      clear hGr hri hgd
      go_enter Try.func17, Try.ntmps17
      go_wp2_with fail
      refine HR0.out.mono ?_
      rintro e w1 ⟨v1, cells, rfl, ho, hra, hb⟩
      obtain ⟨a1, c1, rfl⟩ := ho.form
      obtain ⟨b3, o3, av, cv, r3, ha3, hri3, hc, hsl⟩ := row_at ho.sl hra.rows k hk
      rw [HRI.out] at hri3
      cases hri3
      cases ha3
      rw [List.length_nil] at hc
      go_wp2_with fail
      go_ret2
      rw [HX0.out.1, HX0.out.2]
      exact ⟨_, rfl, Own.nil _ _ _, hb⟩
    · have hGt : G = true := by rw [hGr]; simpa using h0
      have HX0 : Hid (G = true ∧ X = writeL (dropRows E k)) := ⟨hGt, by rw [HX.out, hGt, Int.toNat_natCast]; rfl⟩
      have hpos : 0 < r.length := List.length_pos_iff.2 h0
      obtain ⟨q, hq⟩ : ∃ q, q = r.length := ⟨_, rfl⟩
      rw [← hq] at hpos
      have hq0 : ((q : Int) == 0) = false := by rw [beq_eq_false_iff_ne]; omega
      have HQ := Lib.hid hq
      clear hGr hGt hq hri hgd
      go_enter Try.func17, Try.ntmps17
      go_wp2_with fail
      refine HR0.out.mono ?_
      rintro e w1 ⟨v1, cells, rfl, ho, hra, hb⟩
      obtain ⟨g, off, cap, rfl, hg1, hg2, hg3, hg4, hg5⟩ := ho.open (by omega) (by decide)
      obtain ⟨b3, o3, av, cv, r3, ha3, hri3, hc, hsl⟩ := row_at ho.sl hra.rows k hk
      rw [HRI.out] at hri3
      cases hri3
      cases ha3
      rw [← HQ.out] at hc hsl
      have hf := ho.free k (by omega)
      have HL := Lib.hid hg5
      clear hg5
      go_wp2_with fail
      have hb3 : Below w.heap.size w (w1.setCell ⟨g, off + k, none⟩ (.slice none 0 0)) := hb.setCell (p := ⟨g, off + k, none⟩) hg1 _
      have hr3 : RowsOf (w1.setCell ⟨g, off + k, none⟩ (.slice none 0 0)) (cells.set k (.slice none 0 0)) (dropRows E k) := by
        have h := hra (w1.setCell ⟨g, off + k, none⟩ (.slice none 0 0)) (grown_set _ _ _ _)
        exact h.set k rfl (Sl.nil _ _)
      have ho3 := ho.set k (.slice none 0 0)
      refine (rwrite_any _ m cap (cells.set k (.slice none 0 0)) (dropRows E k) _ ho3.sl hr3 (by have := set_flat E k []; simp only [List.length_nil] at this; unfold dropRows; omega) (by omega)).mono ?_
      rintro e w4 ⟨v4, rfl, ho4, hb4⟩
      go_wp2_with fail
      go_ret2
      rw [HX0.out.1, HX0.out.2]
      exact ⟨_, rfl, ho4.mono hb3.size, hb3.trans (hb4.mono hb3.size)⟩
end Go.Proofs.Ytafigfgcgnnbnaa
