/-
  The document's heap: what is dirty, and the oids. Conditions: the heap reads as one.
-/
import Derived.Test.YtekmgffjdheifaaHqN
namespace Go.Proofs.Ytekmgffjdheifaa
open Go Go.RowKit
set_option linter.unusedVariables false
set_option linter.unusedSimpArgs false
set_option maxRecDepth 100000

def dirTo (H : List Th) (q : Nat) : List Int := ((List.range q).filter fun i => (H.getD i noTh).is && (H.getD i noTh).dirty).map Int.ofNat
theorem dirTo_all (H : List Th) : dirTo H H.length = dirtyL H := rfl
theorem dirTo_next (H : List Th) (q : Nat) : dirTo H (q + 1) = dirTo H q ++ if (H.getD q noTh).is && (H.getD q noTh).dirty then [(q : Int)] else [] := by
  unfold dirTo
  rw [List.range_succ, List.filter_append, List.map_append]
  congr 1
  rw [List.filter_cons, List.filter_nil]
  cases h : (H.getD q noTh).is && (H.getD q noTh).dirty <;> rfl
theorem dirTo_len (H : List Th) (q : Nat) : (dirTo H q).length ≤ q := by
  unfold dirTo
  rw [List.length_map]
  exact Nat.le_trans (List.length_filter_le _ _) (by simp)
def DrR (w : World) (H : List Th) (n : Nat) (v3 v4 : Value) (wr : World) : Prop :=
  ∃ (i : Nat) (a : Option Addr) (N c : Nat), i ≤ n ∧ N ≤ i ∧ v4 = .int .i64 (i : Nat) ∧ v3 = .slice a N c ∧ Hid (N = (dirTo H i).length ∧ Own wr w.heap.size 1 (.slice a N c) N (ints (dirTo H i)) ∧ Below w.heap.size w wr)
theorem DrR.mk {w : World} {H : List Th} {n : Nat} {v3 v4 : Value} {wr : World} (i : Nat) (a : Option Addr) (N c : Nat) (h1 : i ≤ n) (h2 : N ≤ i) (h3 : v4 = .int .i64 (i : Nat)) (h4 : v3 = .slice a N c) (h5 : N = (dirTo H i).length ∧ Own wr w.heap.size 1 (.slice a N c) N (ints (dirTo H i)) ∧ Below w.heap.size w wr) : DrR w H n v3 v4 wr := ⟨i, a, N, c, h1, h2, h3, h4, Lib.hid h5⟩
section
variable {col : Nat → Nat} {w : World} {r m gl ol cl : Nat} {H : List Th} {cs : List Value} {vs : Nat → Value}
set_option maxHeartbeats 1600000 in
theorem dirtyR_p (h : RfIn col w r m H gl ol cl cs vs) (hn9 : H.length ≤ 1000000) (N : Nat) (hN : Hid (N = (dirtyL H).length)) :
    Calls Try.prog 40 #[.pointer (some ⟨r, 0, none⟩)] w fun e w' => ∃ a c, e = .returned (.slice a N c) ∧ Own w' w.heap.size 1 (.slice a N c) N (ints (dirtyL H)) ∧ Below w.heap.size w w' := by
  have HH := Lib.hid h
  clear h
  obtain ⟨n, hn⟩ : ∃ n, n = H.length := ⟨_, rfl⟩
  have HN := Lib.hid hn
  rw [← hn] at hn9
  clear hn
  go_enter Try.func40, Try.ntmps40
  go_wp2_with fail
  go_loopw [3, 4] (fun v3 v4 wr => DrR w H n v3 v4 wr) (fun _ v4 _ => n - (intOf v4).toNat)
  case atStart => exact DrR.mk 0 none 0 0 (Nat.zero_le _) (Nat.le_refl _) rfl rfl ⟨rfl, Own.nil _ _ _, Below.refl _ _⟩
  case round =>
    obtain ⟨i, a, M, c, hi, hM, rfl, rfl, HS⟩ := hrel
    have HR := Lib.hid (HH.out.fresh HS.out.2.2)
    have c1 := HR.out.c1
    rw [← HN.out] at c1
    by_cases hin : i = n
    · subst hin
      have HE : Hid (dirTo H i = dirtyL H) := Lib.hid (by rw [HN.out]; rfl)
      have hk : M = N := by rw [hN.out, ← HE.out]; exact HS.out.1
      subst hk
      go_wp2_with fail
      go_ret
      exact ⟨a, c, rfl, by rw [← HE.out]; exact HS.out.2.1, HS.out.2.2⟩
    have hlt : i < n := by omega
    have hlt' : (i : Int) < n := by omega
    obtain ⟨d0, d1, d2, d3, d4, d5, d6⟩ := HR.out.all (k := i) (by rw [← HN.out]; exact hlt)
    have HX := Lib.hid (dirTo_next H i)
    generalize (H.getD i noTh).is = I at d4 HX
    generalize (H.getD i noTh).dirty = D at d6 HX
    clear d0 d1 d2 d3 d5
    cases I with
    | false =>
      go_wp2_with fail
      exact ⟨DrR.mk (i + 1) a M c hlt (by omega) (by go_num) rfl ⟨by rw [HX.out, HS.out.1]; simp, by rw [HX.out]; simpa using HS.out.2.1, HS.out.2.2⟩, by simp [intOf]; omega⟩
    | true =>
      cases D with
      | false =>
        go_wp2_with fail
        exact ⟨DrR.mk (i + 1) a M c hlt (by omega) (by go_num) rfl ⟨by rw [HX.out, HS.out.1]; simp, by rw [HX.out]; simpa using HS.out.2.1, HS.out.2.2⟩, by simp [intOf]; omega⟩
      | true =>
        have ho8 := HS.out.2.1.alloc (.cells #[.int .i64 (i : Nat)] 3)
        have hs8 : Sl (wr.alloc (.cells #[.int .i64 (i : Nat)] 3)) 1 (.slice (some ⟨wr.heap.size, 0, none⟩) 1 1) 1 [.int .i64 (i : Nat)] := Sl.one wr _ _
        have hb8 : Below w.heap.size w (wr.alloc (.cells #[.int .i64 (i : Nat)] 3)) := HS.out.2.2.alloc HS.out.2.2.size _
        go_wp2_with (at_builtin; refine wpL_append etI rfl _ _ rfl ho8 rfl hs8 rfl (by simp [Value.oneCell']) (by omega) (by simp [maxLen]; omega) (by have := HS.out.2.2.size; simp; omega) ?_; intro v9 w9 ho9 hg9; obtain ⟨a9, c9, rfl⟩ := ho9.form)
        have hb9' := hb8.grown hg9 hb8.size (fun k e => by have := ho8.lt k e; omega)
        exact ⟨DrR.mk (i + 1) a9 (M + 1) c9 hlt (by omega) (by go_num) rfl ⟨by rw [HX.out, HS.out.1]; simp, by rw [HX.out]; simpa [ints] using ho9, hb9'⟩, by simp [intOf]; omega⟩
end
/-! ### Oids: put in where they belong -/
def oidTo (H : List Th) (q : Nat) : List Int := ((H.take q).filter fun h => decide (0 < h.oid)).map (·.oid)
theorem oidTo_next {H : List Th} {q : Nat} (hq : q < H.length) : oidTo H (q + 1) = oidTo H q ++ if 0 < (H.getD q noTh).oid then [(H.getD q noTh).oid] else [] := by
  unfold oidTo
  rw [List.take_succ_eq_append_getElem hq, List.filter_append, List.map_append, getD_lt hq]
  congr 1
  by_cases h : 0 < H[q].oid <;> simp [h]
/-- a number put in at a place that fits -/
theorem put_in {l : List Int} {k : Nat} {x : Int} (hs : l.Pairwise (· ≤ ·)) (hk : k ≤ l.length) (h1 : ∀ j, j < k → l.getD j 0 ≤ x) (h2 : ∀ j, k ≤ j → j < l.length → x < l.getD j 0) : (l.take k ++ [x] ++ l.drop k).Pairwise (· ≤ ·) := by
  rw [List.append_assoc, List.pairwise_append]
  refine ⟨hs.sublist (List.take_sublist _ _), ?_, fun a ha b hb => ?_⟩
  · rw [List.singleton_append, List.pairwise_cons]
    refine ⟨fun b hb => ?_, hs.sublist (List.drop_sublist _ _)⟩
    obtain ⟨j, hj, rfl⟩ := List.mem_iff_getElem.1 hb
    rw [List.length_drop] at hj
    have := h2 (k + j) (by omega) (by omega)
    rw [getD_lt (by omega)] at this
    rw [List.getElem_drop]
    omega
  · obtain ⟨j, hj, rfl⟩ := List.mem_iff_getElem.1 ha
    rw [List.length_take] at hj
    have e1 := h1 j (by omega)
    rw [getD_lt (by omega)] at e1
    rw [List.getElem_take]
    rw [List.singleton_append, List.mem_cons] at hb
    rcases hb with rfl | hb
    · exact e1
    · obtain ⟨p, hp, rfl⟩ := List.mem_iff_getElem.1 hb
      rw [List.length_drop] at hp
      have e2 := h2 (k + p) (by omega) (by omega)
      rw [getD_lt (by omega)] at e2
      rw [List.getElem_drop]
      omega
theorem put_perm {l L : List Int} {k : Nat} {x : Int} (h : l.Perm L) : (l.take k ++ [x] ++ l.drop k).Perm (L ++ [x]) := by
  refine List.Perm.trans ?_ (h.append_right [x])
  rw [List.append_assoc]
  refine List.Perm.trans (List.Perm.append_left _ List.perm_append_comm) ?_
  rw [← List.append_assoc, List.take_append_drop]
structure Ins (H : List Th) (i : Nat) (l : List Int) : Prop where
  perm : l.Perm (oidTo H i)
  rise : l.Pairwise (· ≤ ·)
theorem Ins.len {H : List Th} {i : Nat} {l : List Int} (h : Ins H i l) : l.length ≤ i := by
  rw [h.perm.length_eq, oidTo, List.length_map]
  exact Nat.le_trans (List.length_filter_le _ _) (by rw [List.length_take]; omega)
theorem Ins.all {H : List Th} {l : List Int} (h : Ins H H.length l) : l = oidsL H := by
  rw [oidsL, rise_eq (l' := l) ?_ h.rise]
  have := h.perm
  rw [oidTo, List.take_length] at this
  exact this.symm
theorem Ins.skip {H : List Th} {i : Nat} {l : List Int} (h : Ins H i l) (hi : i < H.length) (h0 : (H.getD i noTh).oid = 0) : Ins H (i + 1) l :=
  ⟨by rw [oidTo_next hi, if_neg (by omega), List.append_nil]; exact h.perm, h.rise⟩
theorem Ins.put {H : List Th} {i k : Nat} {l : List Int} {x : Int} (h : Ins H i l) (hi : i < H.length) (hx : (H.getD i noTh).oid = x) (h0 : 0 < x) (hk : k ≤ l.length) (h1 : ∀ j, j < k → l.getD j 0 ≤ x) (h2 : ∀ j, k ≤ j → j < l.length → x < l.getD j 0) : Ins H (i + 1) (l.take k ++ [x] ++ l.drop k) :=
  ⟨by rw [oidTo_next hi, hx, if_pos h0]; exact put_perm h.perm, put_in h.rise hk h1 h2⟩
theorem sorted_le {l : List Int} (h : l.Pairwise (· ≤ ·)) {i j : Nat} (hij : i ≤ j) (hj : j < l.length) : l.getD i 0 ≤ l.getD j 0 := by
  rcases Nat.lt_or_ge i j with hl | hl
  · rw [getD_lt (by omega), getD_lt hj]
    exact List.pairwise_iff_getElem.1 h i j (by omega) hj hl
  · obtain rfl : i = j := by omega
    exact Int.le_refl _
def OdR (w : World) (H : List Th) (n : Nat) (v3 v4 : Value) (wr : World) : Prop :=
  ∃ (i : Nat) (a : Option Addr) (N c : Nat) (l : List Int), i ≤ n ∧ N ≤ i ∧ v4 = .int .i64 (i : Nat) ∧ v3 = .slice a N c ∧ Hid (Ins H i l ∧ N = l.length ∧ Own wr w.heap.size 1 (.slice a N c) N (ints l) ∧ Below w.heap.size w wr)
theorem OdR.mk {w : World} {H : List Th} {n : Nat} {v3 v4 : Value} {wr : World} (i : Nat) (a : Option Addr) (N c : Nat) (l : List Int) (h1 : i ≤ n) (h2 : N ≤ i) (h3 : v4 = .int .i64 (i : Nat)) (h4 : v3 = .slice a N c) (h5 : Ins H i l ∧ N = l.length ∧ Own wr w.heap.size 1 (.slice a N c) N (ints l) ∧ Below w.heap.size w wr) : OdR w H n v3 v4 wr := ⟨i, a, N, c, l, h1, h2, h3, h4, Lib.hid h5⟩
section
variable {col : Nat → Nat} {w : World} {r m gl ol cl : Nat} {H : List Th} {cs : List Value} {vs : Nat → Value}
set_option maxHeartbeats 4000000 in
theorem oidsR_p (h : RfIn col w r m H gl ol cl cs vs) (hg : Hid (Good H m)) (hn9 : H.length ≤ 1000000) (N : Nat) (hN : Hid (N = (oidsL H).length)) :
    Calls Try.prog 41 #[.pointer (some ⟨r, 0, none⟩)] w fun e w' => ∃ a c, e = .returned (.slice a N c) ∧ Own w' w.heap.size 1 (.slice a N c) N (ints (oidsL H)) ∧ Below w.heap.size w w' := by
  have HH := Lib.hid h
  clear h
  obtain ⟨n, hn⟩ : ∃ n, n = H.length := ⟨_, rfl⟩
  have HN := Lib.hid hn
  rw [← hn] at hn9
  clear hn
  go_enter Try.func41, Try.ntmps41
  go_wp2_with fail
  go_loopw [3, 4] (fun v3 v4 wr => OdR w H n v3 v4 wr) (fun _ v4 _ => n - (intOf v4).toNat)
  case atStart => exact OdR.mk 0 none 0 0 [] (Nat.zero_le _) (Nat.le_refl _) rfl rfl ⟨⟨List.Perm.refl _, List.Pairwise.nil⟩, rfl, Own.nil _ _ _, Below.refl _ _⟩
  case round =>
    obtain ⟨i, a, M, c, l, hi, hM, rfl, rfl, HS⟩ := hrel
    have HR := Lib.hid (HH.out.fresh HS.out.2.2.2)
    have c1 := HR.out.c1
    rw [← HN.out] at c1
    by_cases hin : i = n
    · subst hin
      have HE : Hid (l = oidsL H) := Lib.hid (by have := HS.out.1; rw [HN.out] at this; exact this.all)
      have hk : M = N := by rw [hN.out, ← HE.out]; exact HS.out.2.1
      subst hk
      go_wp2_with fail
      go_ret
      exact ⟨a, c, rfl, by rw [← HE.out]; exact HS.out.2.2.1, HS.out.2.2.2⟩
    have hlt : i < n := by omega
    have hlt' : (i : Int) < n := by omega
    have HLT : Hid (i < H.length) := Lib.hid (by rw [← HN.out]; exact hlt)
    obtain ⟨d0, d1, d2, d3, d4, d5, d6⟩ := HR.out.all (k := i) HLT.out
    have HP : Hid (0 ≤ (H.getD i noTh).oid) := Lib.hid (by rw [← thAt_nat]; exact (hg.out.oid i).1)
    obtain ⟨x, hx⟩ : ∃ x, x = (H.getD i noTh).oid := ⟨_, rfl⟩
    rw [← hx] at d5
    have HX := Lib.hid hx
    clear hx d0 d1 d2 d3 d4 d6
    by_cases hx0 : x = 0
    · subst hx0
      go_wp2_with fail
      exact ⟨OdR.mk (i + 1) a M c l hlt (by omega) (by go_num) rfl ⟨HS.out.1.skip HLT.out HX.out.symm, HS.out.2.1, HS.out.2.2⟩, by simp [intOf]; omega⟩
    have hxp : 0 < x := by have := HP.out; rw [← HX.out] at this; omega
    have hx1 : (x == 0) = false := by simp [hx0]
    go_wp2_with fail
    go_loopw [6] (fun v6 wr2 => ∃ k : Nat, k ≤ M ∧ v6 = .int .i64 (k : Nat) ∧ wr2 = wr ∧ Hid (∀ j, k ≤ j → j < l.length → x < l.getD j 0)) (fun v6 _ => (intOf v6).toNat)
    case atStart => exact ⟨M, Nat.le_refl _, rfl, rfl, Lib.hid (fun j h1 h2 => by have := HS.out.2.1; omega)⟩
    case round =>
      obtain ⟨k, hk, rfl, rfl, HK⟩ := hrel
      by_cases hk0 : k = 0
      · have HC : Hid (∀ j, j < k → l.getD j 0 ≤ x) := Lib.hid (fun j hj => by omega)
        have hk0' : ¬ (0 : Int) < (k : Int) := by omega
        clear hk0
        have HS1 := Lib.hid HS.out.2.2.1.sl
        have hcap := HS1.out.cap
        have hML : Hid (M = l.length) := Lib.hid HS.out.2.1
        have hb0 := Lib.hid HS.out.2.2.2
        have hNew : Hid (Ins H (i + 1) (l.take k ++ [x] ++ l.drop k)) := Lib.hid (HS.out.1.put HLT.out HX.out.symm hxp (by have := HS.out.2.1; omega) HC.out HK.out)
        have hkc : k ≤ c := by omega
        clear HS HC HK hcap
        go_upto_region 12 with (first
          | (refine wpL_cut etI rfl (.tmp 43) none _ none rfl 0 k c HS1.out rfl (bounds_h _ _ _ _ _ hkc) (Nat.zero_le _) hk hkc (Nat.le_refl _) ?_; simp only [Nat.sub_zero, List.drop_zero]; intro av hav; have HA := Lib.hid hav; clear hav)
          | (at_builtin; refine wpL_appendN etI rfl _ _ rfl wr.heap.size rfl HA.out rfl (fun u hu => ints_one l u (List.mem_of_mem_take hu)) (by omega) (by simp [maxLen]; omega) (Nat.le_refl _) ?_; intro v7 w7 ho7 hb7; obtain ⟨a7, c7, rfl⟩ := ho7.form; have HO7 := Lib.hid ho7; have HB7 := Lib.hid hb7; clear ho7 hb7))
        have ho8 := HO7.out.alloc (.cells #[.int .i64 x] 3)
        have hs8 : Sl (w7.alloc (.cells #[.int .i64 x] 3)) 1 (.slice (some ⟨w7.heap.size, 0, none⟩) 1 1) 1 [.int .i64 x] := Sl.one w7 _ _
        have hb8 : Below wr.heap.size wr (w7.alloc (.cells #[.int .i64 x] 3)) := HB7.out.alloc HB7.out.size _
        go_upto_region 13 with (at_builtin; refine wpL_append etI rfl _ _ rfl ho8 rfl hs8 rfl (by simp [Value.oneCell']) (by omega) (by simp [maxLen]; omega) (by have := HB7.out.size; simp; omega) ?_; intro v9 w9 ho9 hg9; obtain ⟨a9, c9, rfl⟩ := ho9.form)
        have HB9 : Hid (Below wr.heap.size wr w9) := Lib.hid (hb8.grown hg9 hb8.size (fun k e => by have := ho8.lt k e; omega))
        have HS9 := Lib.hid (HS1.out.below HB9.out)
        have HO9 := Lib.hid ho9
        clear ho8 hs8 hb8 ho9 hg9 HS1 HO7 HB7 HA
        have hMc : M ≤ c := by have := HS9.out.cap; omega
        go_upto_block 2 with (first
          | (refine wpL_cut etI rfl (.tmp 52) _ none none rfl k M c HS9.out rfl (bounds_l _ _ _ _ _ hk) hk (Nat.le_refl _) hMc (Nat.le_refl _) ?_; intro aw haw; have HA := Lib.hid haw; clear haw)
          | (at_builtin; refine wpL_append etI rfl _ _ rfl HO9.out rfl HA.out rfl (fun u hu => ints_one l u (List.mem_of_mem_drop (List.mem_of_mem_take hu))) (by omega) (by simp [maxLen]; omega) HB9.out.size ?_; intro vA wA hoA hgA; obtain ⟨aA, cA, rfl⟩ := hoA.form; have HOA := Lib.hid hoA; have HGA := Lib.hid hgA; clear hoA hgA))
        have hbF : Below w.heap.size w wA := (hb0.out.trans (HB9.out.mono hb0.out.size)).grown HGA.out (Nat.le_trans hb0.out.size HB9.out.size) (fun q e => Nat.le_trans hb0.out.size (HO9.out.lt q e))
        have eL : ints (l.take k ++ [x] ++ l.drop k) = List.take k (ints l) ++ [.int .i64 x] ++ List.take (M - k) (List.drop k (ints l)) := by
          rw [ints_append, ints_append, List.take_of_length_le (l := List.drop k (ints l)) (by rw [List.length_drop, ints_length, hML.out]; exact Nat.le_refl _)]
          simp [ints, List.map_take, List.map_drop]
        have hoF : Own wA w.heap.size 1 (.slice aA (k + 1 + (M - k)) cA) (k + 1 + (M - k)) (ints (l.take k ++ [x] ++ l.drop k)) := by rw [eL]; exact HOA.out.mono hb0.out.size
        exact ⟨OdR.mk (i + 1) aA (k + 1 + (M - k)) cA _ hlt (by omega) (by go_num) rfl ⟨hNew.out, by have := hML.out; simp only [List.length_append, List.length_take, List.length_drop, List.length_cons, List.length_nil]; omega, hoF, hbF⟩, by simp [intOf]; omega⟩
      obtain ⟨p, rfl⟩ : ∃ p, k = p + 1 := ⟨k - 1, by omega⟩
      have hpl : p < l.length := by have := HS.out.2.1; omega
      obtain ⟨b1, o1, u1, ha, hu, hcell⟩ := HS.out.2.2.1.sl.at (k := p) (by omega)
      rw [ints_get _ _ hpl] at hu
      cases hu
      subst ha
      obtain ⟨y, hy⟩ : ∃ y, y = l.getD p 0 := ⟨_, rfl⟩
      rw [← hy] at hcell
      have HY := Lib.hid hy
      have e1 : ((p + 1 : Nat) : Int) - 1 = (p : Nat) := by omega
      have hp0 : (0 : Int) < ((p + 1 : Nat) : Int) := by omega
      have hpM : (p : Int) < M := by omega
      clear hy hpl
      by_cases hxy : x < y
      · go_wp2_with fail
        exact ⟨⟨p, by omega, by go_num, trivial, Lib.hid (fun j h1 h2 => by
          by_cases e : j = p
          · rw [e, ← HY.out]; exact hxy
          · exact HK.out j (by omega) h2)⟩, by first | (simp [intOf]; omega) | simp [intOf]⟩
      · have HC : Hid (∀ j, j < p + 1 → l.getD j 0 ≤ x) := Lib.hid (fun j hj => by
          have h1 := sorted_le HS.out.1.rise (show j ≤ p by omega) (by have := HS.out.2.1; omega)
          rw [← HY.out] at h1
          omega)
        have HS1 := Lib.hid HS.out.2.2.1.sl
        have hcap := HS1.out.cap
        have hML : Hid (M = l.length) := Lib.hid HS.out.2.1
        have hb0 := Lib.hid HS.out.2.2.2
        have hNew : Hid (Ins H (i + 1) (l.take (p + 1) ++ [x] ++ l.drop (p + 1))) := Lib.hid (HS.out.1.put HLT.out HX.out.symm hxp (by have := HS.out.2.1; omega) HC.out HK.out)
        have hkc : (p + 1) ≤ c := by omega
        clear HS HC HK hcap
        go_upto_region 12 with (first
          | (refine wpL_cut etI rfl (.tmp 43) none _ none rfl 0 (p + 1) c HS1.out rfl (bounds_h _ _ _ _ _ hkc) (Nat.zero_le _) hk hkc (Nat.le_refl _) ?_; simp only [Nat.sub_zero, List.drop_zero]; intro av hav; have HA := Lib.hid hav; clear hav)
          | (at_builtin; refine wpL_appendN etI rfl _ _ rfl wr.heap.size rfl HA.out rfl (fun u hu => ints_one l u (List.mem_of_mem_take hu)) (by omega) (by simp [maxLen]; omega) (Nat.le_refl _) ?_; intro v7 w7 ho7 hb7; obtain ⟨a7, c7, rfl⟩ := ho7.form; have HO7 := Lib.hid ho7; have HB7 := Lib.hid hb7; clear ho7 hb7))
        have ho8 := HO7.out.alloc (.cells #[.int .i64 x] 3)
        have hs8 : Sl (w7.alloc (.cells #[.int .i64 x] 3)) 1 (.slice (some ⟨w7.heap.size, 0, none⟩) 1 1) 1 [.int .i64 x] := Sl.one w7 _ _
        have hb8 : Below wr.heap.size wr (w7.alloc (.cells #[.int .i64 x] 3)) := HB7.out.alloc HB7.out.size _
        go_upto_region 13 with (at_builtin; refine wpL_append etI rfl _ _ rfl ho8 rfl hs8 rfl (by simp [Value.oneCell']) (by omega) (by simp [maxLen]; omega) (by have := HB7.out.size; simp; omega) ?_; intro v9 w9 ho9 hg9; obtain ⟨a9, c9, rfl⟩ := ho9.form)
        have HB9 : Hid (Below wr.heap.size wr w9) := Lib.hid (hb8.grown hg9 hb8.size (fun k e => by have := ho8.lt k e; omega))
        have HS9 := Lib.hid (HS1.out.below HB9.out)
        have HO9 := Lib.hid ho9
        clear ho8 hs8 hb8 ho9 hg9 HS1 HO7 HB7 HA
        have hMc : M ≤ c := by have := HS9.out.cap; omega
        go_upto_block 2 with (first
          | (refine wpL_cut etI rfl (.tmp 52) _ none none rfl (p + 1) M c HS9.out rfl (bounds_l _ _ _ _ _ hk) hk (Nat.le_refl _) hMc (Nat.le_refl _) ?_; intro aw haw; have HA := Lib.hid haw; clear haw)
          | (at_builtin; refine wpL_append etI rfl _ _ rfl HO9.out rfl HA.out rfl (fun u hu => ints_one l u (List.mem_of_mem_drop (List.mem_of_mem_take hu))) (by omega) (by simp [maxLen]; omega) HB9.out.size ?_; intro vA wA hoA hgA; obtain ⟨aA, cA, rfl⟩ := hoA.form; have HOA := Lib.hid hoA; have HGA := Lib.hid hgA; clear hoA hgA))
        have hbF : Below w.heap.size w wA := (hb0.out.trans (HB9.out.mono hb0.out.size)).grown HGA.out (Nat.le_trans hb0.out.size HB9.out.size) (fun q e => Nat.le_trans hb0.out.size (HO9.out.lt q e))
        have eL : ints (l.take (p + 1) ++ [x] ++ l.drop (p + 1)) = List.take (p + 1) (ints l) ++ [.int .i64 x] ++ List.take (M - (p + 1)) (List.drop (p + 1) (ints l)) := by
          rw [ints_append, ints_append, List.take_of_length_le (l := List.drop (p + 1) (ints l)) (by rw [List.length_drop, ints_length, hML.out]; exact Nat.le_refl _)]
          simp [ints, List.map_take, List.map_drop]
        have hoF : Own wA w.heap.size 1 (.slice aA ((p + 1) + 1 + (M - (p + 1))) cA) ((p + 1) + 1 + (M - (p + 1))) (ints (l.take (p + 1) ++ [x] ++ l.drop (p + 1))) := by rw [eL]; exact HOA.out.mono hb0.out.size
        exact ⟨OdR.mk (i + 1) aA ((p + 1) + 1 + (M - (p + 1))) cA _ hlt (by omega) (by go_num) rfl ⟨hNew.out, by have := hML.out; simp only [List.length_append, List.length_take, List.length_drop, List.length_cons, List.length_nil]; omega, hoF, hbF⟩, by simp [intOf]; omega⟩
end
end Go.Proofs.Ytekmgffjdheifaa
