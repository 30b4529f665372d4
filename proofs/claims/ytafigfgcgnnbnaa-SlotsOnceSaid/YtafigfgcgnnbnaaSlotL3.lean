/-
  SlotsOnce, walked.
-/
import Derived.Test.YtafigfgcgnnbnaaSlotK
namespace Go.Proofs.Ytafigfgcgnnbnaa
open Go.RowKit
set_option linter.unusedVariables false
set_option linter.unusedSimpArgs false

/-! ### what is chosen of the first numbers -/
def sel (P : Nat → Bool) (y : Nat) : List Int := ((List.range y).filter P).map Int.ofNat
theorem sel_succ (P : Nat → Bool) (y : Nat) : sel P (y + 1) = sel P y ++ if P y then [(y : Int)] else [] := by
  unfold sel
  rw [List.range_succ, List.filter_append, List.map_append]
  congr 1
  by_cases h : P y <;> simp [h]
theorem sel_len (P : Nat → Bool) (y : Nat) : (sel P y).length ≤ y := by
  unfold sel
  rw [List.length_map]
  exact Nat.le_trans (List.length_filter_le _ _) (by simp)
theorem sel_prefix (P : Nat → Bool) (y d : Nat) : ∃ t, sel P (y + d) = sel P y ++ t := by
  induction d with
  | zero => exact ⟨[], by simp⟩
  | succ d ih =>
    obtain ⟨t, ht⟩ := ih
    exact ⟨_, by rw [← Nat.add_assoc, sel_succ, ht, List.append_assoc]⟩
theorem sel_next (P : Nat → Bool) (n k : Nat) : ∀ (d y : Nat), y + d = n → sel P y = (sel P n).take k → k < (sel P n).length →
    ∃ s, y ≤ s ∧ s < n ∧ (sel P n)[k]? = some (s : Int) ∧ P s = true ∧ (∀ j, y ≤ j → j < s → P j = false) ∧ sel P (s + 1) = (sel P n).take (k + 1)
  | 0, y, hy, h, hk => by
    obtain rfl : y = n := by omega
    have := congrArg List.length h
    rw [List.length_take] at this
    omega
  | d + 1, y, hy, h, hk => by
    have hs := sel_succ P y
    by_cases hP : P y = true
    · rw [if_pos hP] at hs
      obtain ⟨t, ht⟩ := sel_prefix P (y + 1) d
      rw [show y + 1 + d = n by omega, hs] at ht
      have hlk : (sel P y).length = k := by
        have := congrArg List.length h
        rw [List.length_take] at this
        omega
      refine ⟨y, Nat.le_refl _, by omega, ?_, hP, fun j h1 h2 => by omega, ?_⟩
      · rw [ht, List.append_assoc, List.getElem?_append_right (by omega), hlk, Nat.sub_self]; rfl
      · rw [hs, ht, ← hlk, List.take_append_of_le_length (by simp), List.take_of_length_le (by simp)]
    · have hP' : P y = false := by simpa using hP
      rw [if_neg hP, List.append_nil] at hs
      obtain ⟨s, h1, h2, h3, h4, h5, h6⟩ := sel_next P n k d (y + 1) (by omega) (by rw [hs]; exact h) hk
      refine ⟨s, by omega, h2, h3, h4, fun j hj hj2 => ?_, h6⟩
      by_cases e : j = y
      · subst e; exact hP'
      · exact h5 j (by omega) hj2
theorem sel_done (P : Nat → Bool) (n y : Nat) (hy : y ≤ n) (h : sel P y = sel P n) : ∀ j, y ≤ j → j < n → P j = false := by
  intro j h1 h2
  cases hP : P j
  · rfl
  have hs := sel_succ P j
  rw [if_pos hP] at hs
  obtain ⟨t, ht⟩ := sel_prefix P (j + 1) (n - (j + 1))
  obtain ⟨u, hu⟩ := sel_prefix P y (j - y)
  rw [show j + 1 + (n - (j + 1)) = n by omega, hs] at ht
  rw [show y + (j - y) = j by omega] at hu
  have h3 := congrArg List.length ht
  rw [hu, ← h] at h3
  simp at h3
/-- does a slot have a record? -/
def hasR (E : List (List UInt8)) (i : Nat) : Bool := !(E.getD i []).isEmpty
def noR (E : List (List UInt8)) (i : Nat) : Bool := (E.getD i []).isEmpty
theorem slots_sel (p : List UInt8) : slotsL p = sel (hasR (readL p)) (readL p).length := rfl

/-! ### every free slot filled -/
def fillL (E : List (List UInt8)) : List (List UInt8) := E.map fun r => if r.isEmpty then [1] else r
theorem fill_full (E : List (List UInt8)) : ∀ r ∈ fillL E, r ≠ [] := by
  intro r hr
  obtain ⟨s, hs, rfl⟩ := List.mem_map.1 hr
  by_cases h : s.isEmpty
  · rw [if_pos h]; simp
  · rw [if_neg h]; intro e; exact h (by rw [e]; rfl)
theorem fill_snoc (E : List (List UInt8)) (y : Nat) (hy : y < E.length) : fillL (E.take (y + 1)) = fillL (E.take y) ++ [if (E.getD y []).isEmpty then [1] else E.getD y []] := by
  rw [List.take_succ_eq_append_getElem hy, fillL, List.map_append]
  simp [fillL, List.getD_eq_getElem?_getD, List.getElem?_eq_getElem hy]
theorem once_put {q r : List UInt8} {F : List (List UInt8)} (hq : readOk q = true) (hF : readL q = F) (hfull : ∀ x ∈ F, x ≠ []) (hr : r ≠ []) (h : putIs q r = true) :
    putS q r = F.length ∧ readOk (putQ q r) = true ∧ readL (putQ q r) = F ++ [r] ∧ (putQ q r).length ≤ 248 := by
  obtain ⟨h1, h2, h3⟩ := keep_put hq hF hr
  obtain ⟨h4, h5, h6, h7, h8⟩ := h3 h
  have hf : freeL F = F.length := freeL_end F fun j hj => by
    have := hfull F[j] (List.getElem_mem hj)
    simpa using this
  refine ⟨by rw [h5, hf], h6, ?_, h8⟩
  rw [h7, putRows, if_pos hf]
def fillFrom (E : List (List UInt8)) (y : Nat) : List (List UInt8) := E.mapIdx fun j r => if y ≤ j ∧ r.isEmpty = true then [1] else r
theorem from_zero (E : List (List UInt8)) : fillFrom E 0 = fillL E := by
  unfold fillFrom fillL
  apply List.ext_getElem
  · simp
  · intro i h1 h2; simp
theorem from_end (E : List (List UInt8)) (y : Nat) (h : ∀ j, y ≤ j → j < E.length → noR E j = false) : fillFrom E y = E := by
  unfold fillFrom
  apply List.ext_getElem
  · simp
  · intro i h1 h2
    rw [List.getElem_mapIdx]
    by_cases hy : y ≤ i
    · have := h i hy h2
      rw [noR, List.getD_eq_getElem?_getD, List.getElem?_eq_getElem h2] at this
      simp only [Option.getD_some] at this
      rw [if_neg (by rw [this]; simp)]
    · rw [if_neg (by omega)]
theorem from_get (E : List (List UInt8)) (y s : Nat) (h : s < E.length) : (fillFrom E y)[s]? = some (if y ≤ s ∧ E[s].isEmpty = true then [1] else E[s]) := by
  unfold fillFrom
  rw [List.getElem?_mapIdx, List.getElem?_eq_getElem h]; rfl
theorem from_step (E : List (List UInt8)) (y s : Nat) (hy : y ≤ s) (hs : s < E.length) (he : noR E s = true) (h : ∀ j, y ≤ j → j < s → noR E j = false) : (fillFrom E y).set s [] = fillFrom E (s + 1) := by
  apply List.ext_getElem?
  intro i
  rw [List.getElem?_set]
  have hl : (fillFrom E y).length = E.length := by simp [fillFrom]
  by_cases hi : i < E.length
  · by_cases e : s = i
    · subst e
      rw [if_pos rfl, if_pos (by rw [hl]; exact hs), from_get E _ s hs, if_neg (by omega)]
      rw [noR, List.getD_eq_getElem?_getD, List.getElem?_eq_getElem hs] at he
      simp only [Option.getD_some, List.isEmpty_iff] at he
      rw [he]
    · rw [if_neg e, from_get E _ i hi, from_get E _ i hi]
      by_cases hyi : y ≤ i
      · by_cases his : i < s
        · have h2 := h i hyi his
          rw [noR, List.getD_eq_getElem?_getD, List.getElem?_eq_getElem hi] at h2
          simp only [Option.getD_some] at h2
          rw [if_neg (by rw [h2]; simp), if_neg (by omega)]
        · have hsi : s + 1 ≤ i := by omega
          by_cases h3 : E[i].isEmpty = true
          · rw [if_pos ⟨hyi, h3⟩, if_pos ⟨hsi, h3⟩]
          · rw [if_neg (fun h => h3 h.2), if_neg (fun h => h3 h.2)]
      · rw [if_neg (by omega), if_neg (by omega)]
  · have h4 : (fillFrom E (s + 1)).length = E.length := by simp [fillFrom]
    rw [if_neg (by omega), List.getElem?_eq_none (by omega), List.getElem?_eq_none (by omega)]
theorem from_trim (E : List (List UInt8)) (y : Nat) (ht : trimL E = E) : trimL (fillFrom E y) = fillFrom E y := by
  by_cases h0 : E = []
  · subst h0; rfl
  have hl : (fillFrom E y).length = E.length := by simp [fillFrom]
  have hp : 0 < E.length := List.length_pos_iff.2 h0
  have hne : fillFrom E y ≠ [] := by intro h; rw [h] at hl; simp at hl; omega
  refine trim_last _ hne ?_
  have h1 := last_of_trim E h0 ht
  rw [List.getLast_eq_getElem] at h1 ⊢
  have h2 := from_get E y (E.length - 1) (by omega)
  rw [if_neg (by intro h; exact h1 (by simpa using h.2))] at h2
  intro h3
  apply h1
  have h4 : (fillFrom E y)[E.length - 1]? = some [] := by
    rw [List.getElem?_eq_getElem (by omega)]
    congr 1
    simpa only [hl] using h3
  rw [h4] at h2
  exact (Option.some.inj h2).symm
theorem once_drop {q : List UInt8} {E : List (List UInt8)} {y s : Nat} (ht : trimL E = E) (hq : readOk q = true) (hF : readL q = fillFrom E y) (hy : y ≤ s) (hs : s < E.length) (he : noR E s = true) (h : ∀ j, y ≤ j → j < s → noR E j = false) :
    getIs q s = true ∧ readOk (dropQ q s) = true ∧ readL (dropQ q s) = fillFrom E (s + 1) ∧ (dropQ q s).length ≤ 248 := by
  have hl : (fillFrom E y).length = E.length := by simp [fillFrom]
  have hg := from_get E y s hs
  rw [noR, List.getD_eq_getElem?_getD, List.getElem?_eq_getElem hs] at he
  simp only [Option.getD_some] at he
  rw [if_pos ⟨hy, he⟩] at hg
  have h1 : getIs q s = true := by
    unfold getIs
    rw [hF, hl, Int.toNat_natCast, List.getD_eq_getElem?_getD, hg, decide_eq_true (by omega : (0 : Int) ≤ s), decide_eq_true (by omega : (s : Int) < E.length)]
    rfl
  obtain ⟨h2, h3, h4⟩ := keep_drop hq hF h1
  refine ⟨h1, h2, ?_, h4⟩
  rw [h3, Int.toNat_natCast, from_step E y s hy hs (by rw [noR, List.getD_eq_getElem?_getD, List.getElem?_eq_getElem hs]; exact he) h, from_trim E _ ht]

/-! ### the contracts, what they answer behind names -/
theorem put_h (a : Option Addr) (n c : Nat) (p : List UInt8) (a2 : Option Addr) (m c2 : Nat) (r : List UInt8) (w : World) (hp : Sl w 1 (.slice a n c) n (bvs p)) (hsz : n ≤ 1048576) (hr2 : Sl w 1 (.slice a2 m c2) m (bvs r)) (hsz2 : m ≤ 1048576) :
    Calls Try.prog 11 #[.slice a n c, .slice a2 m c2] w fun e w' => ∃ (v : Value) (Q : List UInt8) (N : Nat) (S : Int) (B : Bool), e = .returned (.tuple #[v, .int .i64 S, .bool B]) ∧ Hid (Q = putQ p r ∧ N = Q.length ∧ S = putS p r ∧ B = putIs p r) ∧ Own w' w.heap.size 1 v N (bvs Q) ∧ Below w.heap.size w w' :=
  (put_any a n c p a2 m c2 r w hp hsz hr2 hsz2).mono fun e w' ⟨v, he, ho, hb⟩ => ⟨v, _, _, _, _, he, Lib.hid ⟨rfl, rfl, rfl, rfl⟩, ho, hb⟩
theorem drop_h (a : Option Addr) (n c : Nat) (p : List UInt8) (w : World) (slot : Int) (hp : Sl w 1 (.slice a n c) n (bvs p)) (hsz : n ≤ 1048576) :
    Calls Try.prog 16 #[.slice a n c, .int .i64 slot] w fun e w' => ∃ (v : Value) (Q : List UInt8) (N : Nat) (B : Bool), e = .returned (.tuple #[v, .bool B]) ∧ Hid (Q = dropQ p slot ∧ N = Q.length ∧ B = getIs p slot) ∧ Own w' w.heap.size 1 v N (bvs Q) ∧ Below w.heap.size w w' :=
  (drop_any a n c p w slot hp hsz).mono fun e w' ⟨v, he, ho, hb⟩ => ⟨v, _, _, _, he, Lib.hid ⟨rfl, rfl, rfl⟩, ho, hb⟩
theorem get_h (a : Option Addr) (n c : Nat) (p : List UInt8) (w : World) (slot : Int) (hp : Sl w 1 (.slice a n c) n (bvs p)) (hsz : n ≤ 1048576) :
    Calls Try.prog 22 #[.slice a n c, .int .i64 slot] w fun e w' => ∃ (v : Value) (R : List UInt8) (N : Nat) (B : Bool), e = .returned (.tuple #[v, .bool B]) ∧ Hid (R = getR p slot ∧ N = R.length ∧ B = getIs p slot) ∧ Own w' w.heap.size 1 v N (bvs R) ∧ Below w.heap.size w w' :=
  (get_any a n c p w slot hp hsz).mono fun e w' ⟨v, he, ho, hb⟩ => ⟨v, _, _, _, he, Lib.hid ⟨rfl, rfl, rfl⟩, ho, hb⟩
theorem slots_h (a : Option Addr) (n c : Nat) (p : List UInt8) (w : World) (hp : Sl w 1 (.slice a n c) n (bvs p)) (hsz : n ≤ 1048576) :
    Calls Try.prog 27 #[.slice a n c] w fun e w' => ∃ (v : Value) (L : List Int) (m : Nat), e = .returned v ∧ Hid (L = slotsL p ∧ m = L.length) ∧ m ≤ 255 ∧ Own w' w.heap.size 1 v m (ints L) ∧ Below w.heap.size w w' :=
  (slots_any a n c p w hp hsz).mono fun e w' ⟨v, he, ho, hb⟩ => ⟨v, _, _, he, Lib.hid ⟨rfl, rfl⟩, Nat.le_trans (slotsTo_len _ _) (readL_len p), ho, hb⟩
theorem right_h (a : Option Addr) (n c : Nat) (p : List UInt8) (w : World) (hp : Sl w 1 (.slice a n c) n (bvs p)) (hsz : n ≤ 1048576) :
    Calls Try.prog 23 #[.slice a n c] w fun e w' => ∃ B : Bool, e = .returned (.bool B) ∧ Hid (B = readOk p) ∧ Below w.heap.size w w' :=
  (right_any a n c p w hp hsz).mono fun e w' ⟨he, hb⟩ => ⟨_, he, Lib.hid rfl, hb⟩
theorem room_h (a : Option Addr) (n c : Nat) (p : List UInt8) (w : World) (hp : Sl w 1 (.slice a n c) n (bvs p)) (hsz : n ≤ 1048576) :
    Calls Try.prog 20 #[.slice a n c] w fun e w' => ∃ R : Int, e = .returned (.int .i64 R) ∧ Hid (R = roomN p) ∧ Below w.heap.size w w' :=
  (room_any a n c p w hp hsz).mono fun e w' ⟨he, hb⟩ => ⟨_, he, Lib.hid rfl, hb⟩
theorem sel_int {E : List (List UInt8)} {k : Nat} {L : List Int} {s : Nat} (h : L[k]? = some (s : Int)) : L.getD k 0 = (s : Int) := by
  rw [List.getD_eq_getElem?_getD, h]; rfl

set_option maxRecDepth 100000 in
set_option maxHeartbeats 4000000 in
theorem slotsOnce_walk (a : Option Addr) (n c : Nat) (p : List UInt8) (w : World) (hp : Sl w 1 (.slice a n c) n (bvs p)) :
    Calls Try.prog 8 #[.slice a n c] w fun e w' => e = .returned (.bool true) ∧ Below w.heap.size w w' := by
  have hn := hp.len
  have hn2 := hn.2.1
  have HN := Lib.hid hn.1
  clear hn
  by_cases hbig : 1024 < n
  · have hbig' : (1024 : Int) < n := by omega
    go_enter Try.func8, Try.ntmps8
    go_wp2_with fail
    refine (works_any w).mono ?_
    rintro e w2 ⟨rfl, hb2⟩
    go_wp2_with fail
    go_ret
    exact ⟨rfl, hb2⟩
  have hbig' : ¬ (1024 : Int) < n := by omega
  have hsz : n ≤ 1048576 := by omega
  go_enter Try.func8, Try.ntmps8
  go_wp2_with fail
  refine (slots_h a n c p w hp hsz).mono ?_
  rintro e w1 ⟨v1, L, m, rfl, HL, hm, ho1, hb1⟩
  obtain ⟨a1, c1, rfl⟩ := ho1.form
  go_wp2_with fail
  refine (right_h a n c p w1 (hp.below hb1) hsz).mono ?_
  rintro e w2 ⟨B, rfl, HB, hb2⟩
  have hB2 := hb1.trans (hb2.mono hb1.size)
  cases B with
  | false =>
    obtain rfl : m = 0 := by
      rw [HL.out.2, HL.out.1, slotsL, readL_not HB.out.symm]; rfl
    go_wp2_with fail
    refine (room_h a n c p w2 (hp.below hB2) hsz).mono ?_
    rintro e w3 ⟨R, rfl, HR, hb3⟩
    have hB3 := hB2.trans (hb3.mono hB2.size)
    obtain rfl : R = -1 := by rw [HR.out, roomN, if_pos (.inl HB.out.symm)]
    go_wp2_with fail
    refine (works_any w3).mono ?_
    rintro e w4 ⟨rfl, hb4⟩
    go_wp2_with fail
    go_ret
    exact ⟨rfl, hB3.trans (hb4.mono hB3.size)⟩
  | true =>
  obtain ⟨E, hE⟩ : ∃ E, E = readL p := ⟨_, rfl⟩
  obtain ⟨M, hM⟩ : ∃ M, M = E.length := ⟨_, rfl⟩
  have HE : Hid (trimL E = E ∧ writeL E = p ∧ L = sel (hasR E) M ∧ m = L.length ∧ (∀ s : Nat, s < M → getIs p s = hasR E s ∧ (hasR E s = true → getR p s = E.getD s [] ∧ (E.getD s []).length ≤ 1024))) := by
    obtain ⟨k1, k2, k3, k4⟩ := read_parts HB.out.symm
    rw [← hE] at k1 k2
    refine ⟨k1, k2, by rw [HL.out.1, slots_sel, ← hE, ← hM], HL.out.2, fun s hs => ?_⟩
    have e1 : getIs p s = hasR E s := by
      rw [getIs, ← hE, ← hM, decide_eq_true (by omega : (0 : Int) ≤ s), decide_eq_true (by omega : (s : Int) < M)]; rfl
    refine ⟨e1, fun h => ⟨by rw [getR, if_pos (by rw [e1]; exact h), ← hE]; rfl, ?_⟩⟩
    rw [← hE] at k3
    have h2 : E.getD s [] ∈ E := by
      rw [List.getD_eq_getElem?_getD, List.getElem?_eq_getElem (by rw [← hM]; exact hs)]
      exact List.getElem_mem _
    have := mem_le_flat _ _ h2
    omega
  have hM255 : M ≤ 255 := by rw [hM, hE]; exact readL_len p
  have HM : Hid (M = E.length) := hM
  clear hE hM HL
  go_wp2_with fail
  refine (empty_any w2).mono ?_
  rintro e w3 ⟨v3, rfl, ho3, hb3⟩
  obtain ⟨a3, c3, rfl⟩ := ho3.form
  have hl3 := (ho1.below hb2).below hb3
  have hp3 := hp.below (hB2.trans (hb3.mono hB2.size))
  have hB3 := hB2.trans (hb3.mono hB2.size)
  clear ho1
  go_wp2_with fail
  go_loopw [4, 5, 6, 7, 8, 9, 10, 11, 12, 13, 14, 15] (fun v4 v5 v6 v7 v8 v9 v10 v11 v12 v13 v14 v15 wr => ∃ k y N NF : Nat, ∃ q : List UInt8, k ≤ m ∧ y ≤ M ∧ v7 = .int .i64 k ∧ v5 = .int .i64 y ∧ N ≤ 248 ∧ NF ≤ 255 ∧ Own wr w3.heap.size 1 v6 NF (ints (sel (noR E) y)) ∧ Far wr v6 (fun w' => Sl w' 1 v4 N (bvs q)) ∧ Below w3.heap.size w3 wr ∧
      Hid (readOk q = true ∧ readL q = fillL (E.take y) ∧ sel (hasR E) y = L.take k)) (fun _ _ _ v7 _ _ _ _ _ _ _ _ _ => m - (intOf v7).toNat)
  case atStart =>
    exact ⟨0, 0, 1, 0, [0], Nat.zero_le _, Nat.zero_le _, rfl, rfl, by omega, by omega, Own.nil _ _ _, (fun w' hg => (ho3.below (below_of_grown0 (by simpa [Value.ownBlock] using hg))).sl), Below.refl _ _, Lib.hid ⟨by decide, rfl, by simp [sel]⟩⟩
  case round =>
    obtain ⟨k, y, N, NF, q, hk, hy, rfl, rfl, hN, hNF, hof, hsq, hB, HQ⟩ := hrel
    obtain ⟨w4, rfl⟩ : ∃ x, x = wr := ⟨_, rfl⟩
    have hs4 := hsq.here
    obtain ⟨a4, c4, rfl⟩ := hs4.form
    obtain ⟨a6, c6, rfl⟩ := hof.form
    have hBB := hB3.trans (hB.mono hB3.size)
    by_cases hkm : k = m
    · subst hkm
      have hyM : y = M := by
        have h1 : sel (hasR E) y = sel (hasR E) M := by
          rw [HQ.out.2.2, HE.out.2.2.2.1, List.take_length, ← HE.out.2.2.1]
        have h2 := sel_done (hasR E) M y hy h1
        rcases Nat.lt_or_ge y M with h3 | h3
        · exfalso
          have h4 := h2 (M - 1) (by omega) (by omega)
          have h5 : E ≠ [] := by intro h; have := HM.out; rw [h] at this; simp at this; omega
          have h6 := last_of_trim E h5 HE.out.1
          rw [List.getLast_eq_getElem] at h6
          rw [hasR, HM.out, List.getD_eq_getElem?_getD, List.getElem?_eq_getElem (by have := HM.out; omega)] at h4
          simp at h4
          exact h6 h4
        · omega
      have HQ0 : Hid (readOk q = true ∧ readL q = fillFrom E 0) := by
        refine ⟨HQ.out.1, ?_⟩
        rw [HQ.out.2.1, hyM, HM.out, List.take_length, from_zero]
      have hNFl := hof.sl.intLen
      have HNF : Hid ((sel (noR E) M).length = NF) := by rw [← hyM]; exact hNFl.1
      have hNF2 := hNFl.2
      rw [hyM] at hof
      clear hNFl HQ
      subst hyM
      go_wp2_with fail
      go_loopw [4, 16, 17, 18] (fun v4 v16 v17 v18 wr2 => ∃ i z N2 : Nat, ∃ q2 : List UInt8, i ≤ NF ∧ z ≤ y ∧ v16 = .int .i64 i ∧ Sl wr2 1 v4 N2 (bvs q2) ∧ N2 ≤ 248 ∧ Below w4.heap.size w4 wr2 ∧ Hid (readOk q2 = true ∧ readL q2 = fillFrom E z ∧ sel (noR E) z = (sel (noR E) y).take i)) (fun _ v16 _ _ _ => NF - (intOf v16).toNat)
      case atStart => exact ⟨0, 0, N, q, Nat.zero_le _, Nat.zero_le _, rfl, hs4, hN, Below.refl _ _, Lib.hid ⟨HQ0.out.1, HQ0.out.2, by simp [sel]⟩⟩
      case round =>
        obtain ⟨i, z, N2, q2, hi, hz, rfl, hs, hN2, hb9, HQ2⟩ := hrel
        obtain ⟨a5, c5, rfl⟩ := hs.form
        have hB9 := hBB.trans (hb9.mono hBB.size)
        by_cases hiN : i = NF
        · subst hiN
          have HP : Hid (p = q2) := by
            have h1 : sel (noR E) z = sel (noR E) y := by rw [HQ2.out.2.2, ← HNF.out, List.take_length]
            have h2 := sel_done (noR E) y z hz h1
            have h3 := from_end E z (fun j h4 h5 => h2 j h4 (by rw [HM.out]; exact h5))
            obtain ⟨k1, k2, k3, k4⟩ := read_parts HQ2.out.1
            show p = q2
            rw [← k2, HQ2.out.2.1, h3]; exact HE.out.2.1.symm
          go_wp2_with fail
          refine (eqb_any a n c a5 N2 c5 p q2 wr (hp.below hB9) hs (by omega) (by omega)).mono ?_
          rintro e w9 ⟨rfl, hb10⟩
          rw [decide_eq_true HP.out]
          have hB10 := hB9.trans (hb10.mono hB9.size)
          go_wp2_with fail
          refine (works_any w9).mono ?_
          rintro e w10 ⟨rfl, hb11⟩
          go_wp2_with fail
          go_ret
          exact ⟨rfl, hB10.trans (hb11.mono hB10.size)⟩
        · have hlt : i < NF := by omega
          have hlt' : (i : Int) < NF := by omega
          obtain ⟨s, g1, g2, g3, g4, g5, g6⟩ := sel_next (noR E) y i (y - z) z (by omega) HQ2.out.2.2 (by rw [HNF.out]; exact hlt)
          obtain ⟨b7, o7, ha7, hc7⟩ := (hof.sl.below hb9).intAt hlt
          rw [sel_int (E := E) g3] at hc7
          cases ha7
          have hod := once_drop HE.out.1 HQ2.out.1 HQ2.out.2.1 g1 (by rw [← HM.out]; exact g2) g4 g5
          have HOD := Lib.hid hod
          have HG6 := Lib.hid g6
          clear hod g3 g4 g5 g6
          go_wp2_with fail
          refine (drop_h a5 N2 c5 q2 wr s hs (by omega)).mono ?_
          rintro e w9 ⟨v9, Q9, N9, B9, rfl, H9, ho9, hb10⟩
          obtain rfl : B9 = true := by rw [H9.out.2.2]; exact HOD.out.1
          go_wp2_with fail
          exact ⟨⟨i + 1, s + 1, N9, Q9, by omega, by omega, by go_num, ho9.sl, by rw [H9.out.2.1, H9.out.1]; exact HOD.out.2.2.2, hb9.trans (hb10.mono hb9.size), Lib.hid ⟨by rw [H9.out.1]; exact HOD.out.2.1, by rw [H9.out.1]; exact HOD.out.2.2.1, HG6.out⟩⟩, by simp [intOf]; omega⟩
    · have hlt : k < m := by omega
      have hlt' : (k : Int) < m := by omega
      obtain ⟨s, g1, g2, g3, g4, g5, g6⟩ := sel_next (hasR E) M k (M - y) y (by omega) (by rw [← HE.out.2.2.1]; exact HQ.out.2.2) (by rw [← HE.out.2.2.1, ← HE.out.2.2.2.1]; exact hlt)
      rw [← HE.out.2.2.1] at g3 g6
      have hcl : ∀ W, Below w3.heap.size w3 W → ∃ b off, a1 = some ⟨b, off, none⟩ ∧ W.cell? ⟨b, off + k, none⟩ = some (.int .i64 (s : Int)) := by
        intro W hW
        obtain ⟨b7, o7, ha7, hc7⟩ := (hl3.sl.below hW).intAt hlt
        rw [sel_int (E := E) g3] at hc7
        exact ⟨b7, o7, ha7, hc7⟩
      have HG := Lib.hid (And.intro g4 (And.intro g5 g6))
      have HCL := Lib.hid hcl
      have HQ1 : Hid (readOk q = true ∧ readL q = fillL (E.take y)) := ⟨HQ.out.1, HQ.out.2.1⟩
      obtain ⟨b1, o1, rfl, hc1⟩ := hcl w4 hB
      clear hcl hc1 g3 g4 g5 g6 HQ hs4
      have hs255 : s ≤ 254 := by omega
      go_wp2_with fail
      go_loopw [4, 5, 6, 8, 9, 10] (fun v4 v5 v6 v8 v9 v10 wr' => ∃ z N NF : Nat, ∃ q : List UInt8, y ≤ z ∧ z ≤ s ∧ v5 = .int .i64 z ∧ N ≤ 248 ∧ NF ≤ 255 ∧ Own wr' w3.heap.size 1 v6 NF (ints (sel (noR E) z)) ∧ Far wr' v6 (fun w' => Sl w' 1 v4 N (bvs q)) ∧ Below w3.heap.size w3 wr' ∧ Hid (readOk q = true ∧ readL q = fillL (E.take z))) (fun _ v5 _ _ _ _ _ => s - (intOf v5).toNat)
      case atStart => exact ⟨y, N, NF, q, Nat.le_refl _, g1, rfl, hN, hNF, hof, hsq, hB, HQ1⟩
      case round =>
        clear hN hNF hof hsq hB HQ1 hBB
        obtain ⟨z, N, NF, q, hyz, hzs, rfl, hN, hNF, hof, hsq, hB, HQ⟩ := hrel
        have hs4 := hsq.here
        obtain ⟨a4, c4, rfl⟩ := hs4.form
        obtain ⟨a6, c6, rfl⟩ := hof.form
        have hBB := hB3.trans (hB.mono hB3.size)
        obtain ⟨b8, o8, ha8, hc8⟩ := HCL.out _ hB
        cases ha8
        have HF : Hid (∀ x ∈ fillL (E.take z), x ≠ []) := fill_full _
        have HFL : Hid ((fillL (E.take z)).length = z) := by
          show _ = _
          rw [fillL, List.length_map, List.length_take, ← HM.out]; omega
        by_cases hzs2 : z = s
        · subst hzs2
          have HS : Hid (fillL (E.take (z + 1)) = fillL (E.take z) ++ [E.getD z []] ∧ sel (noR E) (z + 1) = sel (noR E) z ∧ E.getD z [] ≠ [] ∧ getIs p z = true ∧ getR p z = E.getD z [] ∧ (E.getD z []).length ≤ 1024) := by
            have k1 : noR E z = false := by
              have := HG.out.1
              rw [hasR] at this
              simpa [noR] using this
            obtain ⟨k2, k3⟩ := HE.out.2.2.2.2 z g2
            obtain ⟨k4, k5⟩ := k3 HG.out.1
            refine ⟨?_, ?_, ?_, by rw [k2]; exact HG.out.1, k4, k5⟩
            · rw [fill_snoc E z (by rw [← HM.out]; exact g2)]
              rw [noR] at k1
              rw [if_neg (by rw [k1]; simp)]
            · rw [sel_succ, k1]; simp
            · intro h; rw [noR, h] at k1; cases k1
          go_wp2_with fail
          refine (get_h a n c p wr z (hp.below hBB) hsz).mono ?_
          rintro e w5 ⟨v5, R, NR, B5, rfl, H5, ho5, hb5⟩
          obtain ⟨a5, c5, rfl⟩ := ho5.form
          obtain rfl : B5 = true := by rw [H5.out.2.2]; exact HS.out.2.2.2.1
          have hNR : NR ≤ 1024 := by rw [H5.out.2.1, H5.out.1, HS.out.2.2.2.2.1]; exact HS.out.2.2.2.2.2
          have hB5 := hB.trans (hb5.mono hB.size)
          have hof5 := hof.below hb5
          have hsq5 := hsq.below hb5
          go_wp2_with fail
          refine (put_h a4 N c4 q a5 NR c5 R w5 hsq5.here (by omega) ho5.sl (by omega)).mono ?_
          rintro e w6 ⟨v6, Q, NQ, S, B6, rfl, H6, ho6, hb6⟩
          obtain ⟨a7, c7, rfl⟩ := ho6.form
          have hB6 := hB5.trans (hb6.mono hB5.size)
          cases B6 with
          | false =>
            go_wp2_with fail
            refine (works_any w6).mono ?_
            rintro e w7 ⟨rfl, hb7⟩
            go_wp2_with fail
            go_ret
            exact ⟨rfl, (hB3.trans (hB6.mono hB3.size)).trans (hb7.mono (hB3.trans (hB6.mono hB3.size)).size)⟩
          | true =>
            have HP : Hid (S = (z : Int) ∧ readOk Q = true ∧ readL Q = fillL (E.take (z + 1)) ∧ NQ ≤ 248) := by
              have h1 := once_put HQ.out.1 HQ.out.2 HF.out (r := R) (by rw [H5.out.1, HS.out.2.2.2.2.1]; exact HS.out.2.2.1) H6.out.2.2.2.symm
              rw [HFL.out, ← H6.out.1, ← H6.out.2.1, ← H6.out.2.2.1] at h1
              refine ⟨h1.1, h1.2.1, ?_, h1.2.2.2⟩
              rw [h1.2.2.1, HS.out.1, H5.out.1, HS.out.2.2.2.2.1]
            obtain rfl : S = (z : Int) := HP.out.1
            obtain ⟨b9, o9, ha9, hc9⟩ := HCL.out _ hB6
            cases ha9
            have hNQ : NQ ≤ 248 := HP.out.2.2.2
            go_wp2_with fail
            refine ⟨⟨k + 1, z + 1, NQ, NF, Q, by omega, by omega, by go_num, by go_num, hNQ, hNF, ?_, Far.own hof5 ho6 (Nat.le_refl _), hB6, Lib.hid ⟨HP.out.2.1, HP.out.2.2.1, HG.out.2.2⟩⟩, by simp [intOf]; omega⟩
            rw [HS.out.2.1]
            exact hof5.below hb6
        · have hz1 : z < s := by omega
          have hz1' : (z : Int) < s := by omega
          have HS : Hid (fillL (E.take (z + 1)) = fillL (E.take z) ++ [[1]] ∧ sel (noR E) (z + 1) = sel (noR E) z ++ [(z : Int)]) := by
            have k0 := HG.out.2.1 z hyz hz1
            have k1 : noR E z = true := by
              rw [hasR] at k0
              simpa [noR] using k0
            refine ⟨?_, ?_⟩
            · rw [fill_snoc E z (by rw [← HM.out]; omega)]
              rw [noR] at k1
              rw [if_pos k1]
            · rw [sel_succ, k1]; simp
          have hs5 := Sl.one wr (.int .u8 1) 5
          have hb5 : Below wr.heap.size wr (wr.alloc (.cells #[.int .u8 1] 5)) := (Below.refl _ _).alloc (Nat.le_refl _) _
          have hsq5 := hsq.below hb5
          have hof5 := hof.below hb5
          have hB5 := hB.trans (hb5.mono hB.size)
          go_wp2_with fail
          refine (put_h a4 N c4 q _ 1 1 [1] _ hsq5.here (by omega) hs5 (by omega)).mono ?_
          rintro e w6 ⟨v6, Q, NQ, S, B6, rfl, H6, ho6, hb6⟩
          obtain ⟨a7, c7, rfl⟩ := ho6.form
          have hof6 := hof5.below hb6
          have hB6 := hB5.trans (hb6.mono hB5.size)
          have hsq6 : Far w6 (.slice a6 NF c6) (fun w' => Sl w' 1 (.slice a7 NQ c7) NQ (bvs Q)) := Far.own hof5 ho6 (Nat.le_refl _)
          clear hof hsq hof5 hsq5 hs5
          cases B6 with
          | false =>
            go_wp2_with fail
            refine (works_any w6).mono ?_
            rintro e w7 ⟨rfl, hb7⟩
            go_wp2_with fail
            go_ret
            exact ⟨rfl, (hB3.trans (hB6.mono hB3.size)).trans (hb7.mono (hB3.trans (hB6.mono hB3.size)).size)⟩
          | true =>
            have HP : Hid (S = (z : Int) ∧ readOk Q = true ∧ readL Q = fillL (E.take (z + 1)) ∧ NQ ≤ 248) := by
              have h1 := once_put HQ.out.1 HQ.out.2 HF.out (r := [1]) (by simp) H6.out.2.2.2.symm
              rw [HFL.out, ← H6.out.1, ← H6.out.2.1, ← H6.out.2.2.1] at h1
              refine ⟨h1.1, h1.2.1, ?_, h1.2.2.2⟩
              rw [h1.2.2.1, HS.out.1]
            obtain rfl : S = (z : Int) := HP.out.1
            have hNQ : NQ ≤ 248 := HP.out.2.2.2
            have ho8 := hof6.alloc (.cells #[.int .i64 (z : Int)] 3)
            have hs8 := Sl.one w6 (.int .i64 (z : Int)) 3
            have hB8 := hB6.alloc hB6.size (.cells #[.int .i64 (z : Int)] 3)
            have hsq8 := hsq6.below ((Below.refl _ _).alloc (Nat.le_refl _) (.cells #[.int .i64 (z : Int)] 3))
            have hNz : Hid (NF = (sel (noR E) z).length) := hof6.sl.intLen.1.symm
            have hNz2 : NF ≤ z := by have := sel_len (noR E) z; have := hNz.out; omega
            go_wp2_with (at_builtin; refine wpL_appendX etI rfl _ _ rfl ho8 rfl hs8 rfl (by simp [Value.oneCell']) (by omega) (by simp [maxLen]; omega) hB8.size ?_; intro v9 w9 ho9 hg9 hv9; have hB9 := below_own hB8 ho8 hg9 (Nat.le_refl _) hB8.size; have hsq9 := hsq8.grown hg9 hv9; clear hg9 hv9)
            refine ⟨⟨z + 1, NQ, NF + 1, Q, by omega, by omega, by go_num, hNQ, by omega, ?_, hsq9, hB9, Lib.hid ⟨HP.out.2.1, HP.out.2.2.1⟩⟩, by simp [intOf]; omega⟩
            rw [HS.out.2, ints_append]
            exact ho9
theorem slotsOnce_go (a : Option Addr) (n c : Nat) (w : World) (l : List UInt8) (hl : SlOf VByte 1 w (.slice a n c) l) :
    Calls Try.prog 8 #[.slice a n c] w fun e w' => e = .returned (.bool true) ∧ Below w.heap.size w w' := by
  have hn := hl.len
  obtain rfl : n = l.length := hn.1
  exact slotsOnce_walk a _ c l w hl.bytes
theorem opensB : Opens Try.prog 5 1 VByte := opens_byte Try.underlying5 (by kernel_rfl)
end Go.Proofs.Ytafigfgcgnnbnaa
