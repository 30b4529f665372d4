/-
  The library's Grow and Concat at bytes; slots' write. Conditions: rows of bytes, of less than 2^30 in all.
-/
import Derived.Test.YtafigfgcgnnbnaaSlotA
namespace Go.Proofs.Ytafigfgcgnnbnaa
open Go.RowKit
set_option linter.unusedVariables false
set_option linter.unusedSimpArgs false

/-- 'append(nil[:0], make([]byte, k)...)' -/
theorem run_zeros (w : World) (k : Nat) (h0 : 0 < k) (hk : k ≤ 1073741824) : ∃ c w', (Builtin.append_ #[22, 3] 22 #[.slice none 0 0, .int .i64 k]).run Try.prog w = .ok (.slice (some ⟨w.heap.size, 0, none⟩) k c) w' ∧ Own w' w.heap.size 1 (.slice (some ⟨w.heap.size, 0, none⟩) 0 c) 0 [] ∧ k ≤ c ∧ Below w.heap.size w w' := by
  obtain ⟨i, hi, hz0, hz1, hz2⟩ := info_parts etB.info
  have hg := Lib.run_append_grow_zeros (P := Try.prog) w 22 3 22 5 i (.int .u8 0) .i64 .i64 etB.und Try.underlying3 hi hz0 none 0 0 [] (by simp [Builtin.firstCells]) k h0 (by omega) (by omega) (by omega) (by rw [hz2]; omega) (by rw [hz2]; exact growslice_fits (by omega) (by omega))
  simp only [Nat.zero_add] at hg
  have hge := grownCap_ge w k 0 5
  have hcm : grownCap w k 0 5 ≤ maxLen := grownCap_le_maxLen w k 0 5 (by simp [maxLen]; omega)
  refine ⟨_, _, hg, Own.block 1 (heap_alloc_new w.drew _) (Nat.le_refl _) (by simp) (fun j _ => by simp) ?_ (by omega) hcm (fun j u hu => by simp at hu), hge, ⟨rfl, rfl, rfl, by simp, fun j hj => Below.heap_alloc w.drew _ j hj⟩⟩
  simp only [Array.size_append, size_zeroCells]
  simp [Value.cells]
  omega

set_option maxHeartbeats 400000 in
theorem grow_any (k : Nat) (hk : k ≤ 1073741824) (w : World) : Calls Try.prog 44 #[.slice none 0 0, .int .i64 k] w fun e w' => ∃ v, e = .returned v ∧ Own w' w.heap.size 1 v 0 [] ∧ Below w.heap.size w w' := by
  by_cases h0 : k = 0
  · subst h0
    go_enter Try.func44, Try.ntmps44
    go_wp2_with fail
    go_ret
    exact ⟨_, rfl, Own.nil _ _ _, Below.refl _ _⟩
  · obtain ⟨c, w1, hz, ho, hc, hb⟩ := run_zeros w k (by omega) hk
    have hk0 : (0 : Int) < k := by omega
    have HZ := Lib.hid hz
    clear hz
    go_enter Try.func44, Try.ntmps44
    go_wp2_with (at_builtin; refine Lib.wpList_append_run w rfl (.tmp 20) (.tmp 21) 22 3 rfl _ _ rfl rfl _ _ HZ.out ?_)
    go_ret
    exact ⟨_, rfl, ho, hb⟩

theorem flat_snoc (rs : List (List UInt8)) (k : Nat) (r : List UInt8) (h : rs[k]? = some r) : (rs.take (k + 1)).flatten = (rs.take k).flatten ++ r := by
  obtain ⟨hk, e⟩ := List.getElem?_eq_some_iff.1 h
  rw [List.take_succ_eq_append_getElem hk, List.flatten_append, e]; simp
theorem flat_le (rs : List (List UInt8)) (k : Nat) : (rs.take k).flatten.length ≤ rs.flatten.length := by
  conv => rhs; rw [← List.take_append_drop k rs, List.flatten_append, List.length_append]
  omega
set_option maxHeartbeats 800000 in
theorem concat_any (a : Option Addr) (n c : Nat) (cells : List Value) (rs : List (List UInt8)) (w : World) (hs : Sl w 1 (.slice a n c) n cells) (hr : RowsOf w cells rs) (ht : rs.flatten.length ≤ 1073741824) :
    Calls Try.prog 42 #[.slice a n c] w fun e w' => ∃ v, e = .returned v ∧ Own w' w.heap.size 1 v rs.flatten.length (bvs rs.flatten) ∧ Below w.heap.size w w' := by
  have hn := rows_len hs hr
  have HN := Lib.hid hn.1
  have hn2 : n ≤ 9223372036854775807 := by omega
  clear hn
  go_enter Try.func42, Try.ntmps42
  go_wp2_with fail
  go_loop [3, 5, 11] (fun v3 v5 v11 => ∃ k q : Nat, k ≤ n ∧ v11 = .int .i64 k ∧ v3 = .int .i64 q ∧ q = (rs.take k).flatten.length) (fun _ _ v11 => n - (intOf v11).toNat)
  case atStart => exact ⟨0, 0, Nat.zero_le _, rfl, rfl, by simp⟩
  case round =>
    obtain ⟨k, q, hk, rfl, rfl, hq⟩ := hrel
    have hq2 : q ≤ 1073741824 := by have := flat_le rs k; omega
    by_cases hkn : k = n
    · subst hkn
      rw [← HN.out, List.take_length] at hq
      have HQ := Lib.hid hq
      clear hq
      go_wp2_with fail
      refine (grow_any q hq2 w).mono ?_
      rintro e w1 ⟨v6, rfl, ho, hb⟩
      go_wp2_with fail
      go_loopw [6, 8, 27] (fun v6 v8 v27 wr => ∃ j p : Nat, j ≤ k ∧ v27 = .int .i64 j ∧ p = (rs.take j).flatten.length ∧ Own wr w.heap.size 1 v6 p (bvs (rs.take j).flatten) ∧ Below w.heap.size w wr) (fun _ _ v27 _ => k - (intOf v27).toNat)
      case atStart => exact ⟨0, 0, Nat.zero_le _, rfl, by simp, by simpa [bvs] using ho, hb⟩
      case round =>
        obtain ⟨j, p, hj, rfl, hp, ho2, hb2⟩ := hrel
        obtain ⟨a6, c6, rfl⟩ := ho2.form
        have HP := Lib.hid hp
        have hp2 : p ≤ 1073741824 := by have := flat_le rs j; omega
        clear hp
        by_cases hjk : j = k
        · subst hjk
          go_wp2_with fail
          go_ret
          have e : p = rs.flatten.length := by rw [HP.out, ← HN.out, List.take_length]
          rw [← HN.out, List.take_length] at ho2
          rw [← e]
          exact ⟨_, rfl, ho2, hb2⟩
        · have hlt : j < k := by omega
          have hlt' : (j : Int) < k := by omega
          obtain ⟨b, off, av, cv, r, rfl, hri, hc, hsl⟩ := row_at (hs.below hb2) (hr.below hb2) j hlt
          have HF := Lib.hid (flat_snoc rs j r hri)
          have hle : p + r.length ≤ 1073741824 := by
            have h1 := flat_le rs (j + 1)
            rw [HF.out, List.length_append, ← HP.out] at h1
            omega
          obtain ⟨L, hL⟩ : ∃ L, L = r.length := ⟨_, rfl⟩
          rw [← hL] at hc hsl hle
          have HL := Lib.hid hL
          clear hri hL
          go_wp2_with (at_builtin; refine wpL_append etB rfl _ _ rfl ho2 rfl hsl rfl (bvs_one _) (by omega) (by simp [maxLen]; omega) hb2.size ?_; intro v7 w7 ho7 hg7; have hb7 := below_own hb2 ho2 hg7 (Nat.le_refl _) hb2.size; clear hg7)
          refine ⟨⟨j + 1, p + L, by omega, by go_num, by rw [HF.out, List.length_append, ← HP.out, HL.out], ?_, hb7⟩, by simp [intOf]; omega⟩
          rw [HF.out, bvs_append]
          exact ho7
    · have hlt : k < n := by omega
      have hlt' : (k : Int) < n := by omega
      obtain ⟨b, off, av, cv, r, rfl, hri, hc, hsl⟩ := row_at hs hr k hlt
      have HF := Lib.hid (flat_snoc rs k r hri)
      have hle : q + r.length ≤ 1073741824 := by
        have h1 := flat_le rs (k + 1)
        rw [HF.out, List.length_append, ← hq] at h1
        omega
      have HQ := Lib.hid hq
      obtain ⟨L, hL⟩ : ∃ L, L = r.length := ⟨_, rfl⟩
      rw [← hL] at hc hsl hle
      have HL := Lib.hid hL
      clear hri hL hq
      go_wp2_with fail
      exact ⟨⟨k + 1, q + L, by omega, by go_num, by go_num, by rw [HF.out, List.length_append, ← HQ.out, HL.out]⟩, by simp [intOf]; omega⟩

/-! ### write -/
def trimL (rs : List (List UInt8)) : List (List UInt8) := (rs.reverse.dropWhile (·.isEmpty)).reverse
theorem trimL_nil : trimL [] = [] := rfl
theorem trimL_snoc_nil (rs : List (List UInt8)) : trimL (rs ++ [[]]) = trimL rs := by simp [trimL]
theorem trimL_snoc (rs : List (List UInt8)) (r : List UInt8) (h : r ≠ []) : trimL (rs ++ [r]) = rs ++ [r] := by
  have : r.isEmpty = false := by simpa using h
  simp [trimL, this]
theorem trimL_le (rs : List (List UInt8)) : (trimL rs).length ≤ rs.length := by
  have := (List.dropWhile_suffix (fun x : List UInt8 => x.isEmpty) (l := rs.reverse)).length_le
  simpa [trimL] using this
def lensL (rs : List (List UInt8)) : List UInt8 := rs.map fun r => UInt8.ofNat r.length
def writeL (rs : List (List UInt8)) : List UInt8 := (UInt8.ofNat (trimL rs).length :: lensL (trimL rs)) ++ (trimL rs).flatten
theorem lens_snoc (rs : List (List UInt8)) (k : Nat) (r : List UInt8) (h : rs[k]? = some r) : lensL (rs.take (k + 1)) = lensL (rs.take k) ++ [UInt8.ofNat r.length] := by
  obtain ⟨hk, e⟩ := List.getElem?_eq_some_iff.1 h
  rw [List.take_succ_eq_append_getElem hk, e]; simp [lensL]
theorem flat_trim_le (rs : List (List UInt8)) : (trimL rs).flatten.length ≤ rs.flatten.length := by
  have h : ∃ k, trimL rs = rs.take k := by
    obtain ⟨t, ht⟩ := List.dropWhile_suffix (fun x : List UInt8 => x.isEmpty) (l := rs.reverse)
    refine ⟨(trimL rs).length, ?_⟩
    have h2 := congrArg List.reverse ht
    simp only [List.reverse_append, List.reverse_reverse] at h2
    have h3 : rs = trimL rs ++ t.reverse := h2.symm
    have h4 : (trimL rs ++ t.reverse).take (trimL rs).length = trimL rs := List.take_left
    rw [← h3] at h4
    exact h4.symm
  obtain ⟨k, hk⟩ := h
  rw [hk]; exact flat_le rs k
theorem u8_cell (L : Nat) : [Value.int .u8 ((L % 256 : Nat) : Int)] = bvs [UInt8.ofNat L] := by
  simp [bvs]

set_option maxHeartbeats 1600000 in
theorem write_any (a : Option Addr) (n c : Nat) (cells : List Value) (rs : List (List UInt8)) (w : World) (hs : Sl w 1 (.slice a n c) n cells) (hr : RowsOf w cells rs) (ht : rs.flatten.length ≤ 1073741824) (hn9 : n ≤ 1073741824) :
    Calls Try.prog 33 #[.slice a n c] w fun e w' => ∃ v, e = .returned v ∧ Own w' w.heap.size 1 v (writeL rs).length (bvs (writeL rs)) ∧ Below w.heap.size w w' := by
  have hn := rows_len hs hr
  have HN := Lib.hid hn.1
  have hnc : n ≤ c := hn.2.1
  have hc2 : c ≤ 9223372036854775807 := hn.2.2
  clear hn
  obtain ⟨T, hT⟩ : ∃ T, T = trimL rs := ⟨_, rfl⟩
  obtain ⟨X, hX⟩ : ∃ X, X = writeL rs := ⟨_, rfl⟩
  have HX : Hid (X = (UInt8.ofNat T.length :: lensL T) ++ T.flatten) := by show _ = _; rw [hX, hT]; rfl
  rw [← hX]
  clear hX
  have HT := Lib.hid hT
  clear hT
  go_enter Try.func33, Try.ntmps33
  go_wp2_with fail
  go_loop [0] (fun v0 => ∃ k : Nat, k ≤ n ∧ v0 = .slice a k c ∧ T = trimL (rs.take k)) (fun v0 => match v0 with | .slice _ k _ => k | _ => 0)
  case atStart => exact ⟨n, Nat.le_refl _, rfl, by rw [← HN.out, List.take_length]; exact HT.out⟩
  case round =>
    obtain ⟨k, hk, rfl, hTk⟩ := hrel
    have HTk := Lib.hid hTk
    clear hTk
    have hstop : (k = 0 ∨ ∃ b off av cv, ∃ L : Nat, a = some ⟨b, off, none⟩ ∧ 0 < k ∧ 0 < L ∧ w.cell? ⟨b, off + (k - 1), none⟩ = some (.slice av L cv)) ∧ T = rs.take k ∨ (∃ b off av cv, a = some ⟨b, off, none⟩ ∧ 0 < k ∧ w.cell? ⟨b, off + (k - 1), none⟩ = some (.slice av 0 cv)) ∧ T = trimL (rs.take (k - 1)) := by
      rcases Nat.eq_zero_or_pos k with rfl | hk0
      · left; exact ⟨.inl rfl, by rw [HTk.out]; simp [trimL_nil]⟩
      · obtain ⟨b, off, av, cv, r, ha, hri, hc, hsl⟩ := row_at hs hr (k - 1) (by omega)
        have e : rs.take k = rs.take (k - 1) ++ [r] := by
          obtain ⟨hlt, e⟩ := List.getElem?_eq_some_iff.1 hri
          have := List.take_succ_eq_append_getElem hlt
          rwa [show k - 1 + 1 = k by omega, e] at this
        by_cases hr0 : r = []
        · subst hr0
          right
          exact ⟨⟨b, off, av, cv, ha, hk0, hc⟩, by rw [HTk.out, e, trimL_snoc_nil]⟩
        · left
          exact ⟨.inr ⟨b, off, av, cv, r.length, ha, hk0, List.length_pos_iff.2 hr0, hc⟩, by rw [HTk.out, e, trimL_snoc _ _ hr0]⟩
    rcases hstop with ⟨hst, hTe⟩ | ⟨⟨b, off, av, cv, rfl, hk0, hc⟩, hTe⟩
    · have HTe := Lib.hid hTe
      have hTl : T.length = k := by rw [hTe]; simp [HN.out]; omega
      have HTl := Lib.hid hTl
      have hTf : T.flatten.length ≤ 1073741824 := by have := flat_le rs k; rw [← hTe] at this; omega
      have hTh : ∀ w', Below w.heap.size w w' → Sl w' 1 (.slice a k c) k (cells.take k) ∧ RowsOf w' (cells.take k) T := fun w' hb => by
        have h1 := (hs.front hk).below hb
        rw [Nat.mul_one] at h1
        exact ⟨h1, by rw [HTe.out]; exact (hr.take k).below hb⟩
      have HTH := Lib.hid hTh
      clear hTe hTl hTh HTk
      rcases hst with rfl | ⟨b, off, av, cv, L, rfl, hk0, hL, hc⟩
      · have hA : Own (w.alloc (.cells #[.int .u8 ((0 % 256 : Nat) : Int)] 5)) w.heap.size 1 (.slice (some ⟨w.heap.size, 0, none⟩) 1 1) 1 (bvs [UInt8.ofNat 0]) := by
          have h := own_new w [.int .u8 ((0 % 256 : Nat) : Int)] 5 1 1 (Nat.le_refl _) rfl (by decide)
          rwa [u8_cell] at h
        have hB : Below w.heap.size w (w.alloc (.cells #[.int .u8 ((0 % 256 : Nat) : Int)] 5)) := (Below.refl _ _).alloc (Nat.le_refl _) _
        rw [Int.natCast_emod] at hA hB
        go_wp2_with fail
        go_loopw [3, 5, 30] (fun v3 v5 v30 wr => ∃ j : Nat, j ≤ 0 ∧ v30 = .int .i64 j ∧ Own wr w.heap.size 1 v3 (1 + j) (bvs (UInt8.ofNat 0 :: lensL (T.take j))) ∧ Below w.heap.size w wr) (fun _ _ v30 _ => 0 - (intOf v30).toNat)
        case atStart => exact ⟨0, Nat.zero_le _, rfl, hA, hB⟩
        case round =>
          obtain ⟨j, hj, rfl, ho, hb⟩ := hrel
          obtain ⟨a3, c3, rfl⟩ := ho.form
          obtain ⟨hs2, hr2⟩ := HTH.out wr hb
          by_cases hjk : j = 0
          · subst hjk
            have hTt : Hid (T.take 0 = T) := by show _ = _; rw [← HTl.out, List.take_length]
            go_wp2_with fail
            refine (concat_any a 0 c _ T wr hs2 hr2 hTf).mono ?_
            rintro e w2 ⟨v2, rfl, ho2, hb2⟩
            obtain ⟨a2, c2, rfl⟩ := ho2.form
            have ho3 := ho.below hb2
            have hb3 := hb.trans (hb2.mono hb.size)
            obtain ⟨M, hM⟩ : ∃ M, M = T.flatten.length := ⟨_, rfl⟩
            rw [← hM] at ho2 hTf
            have HM := Lib.hid hM
            rw [← hM]
            clear hM
            go_wp2_with (at_builtin; refine wpL_append etB rfl _ _ rfl ho3 rfl ho2.sl rfl (bvs_one _) (by omega) (by simp [maxLen]; omega) hb3.size ?_; intro v4 w4 ho4 hg4; have hb4 := below_own hb3 ho3 hg4 (Nat.le_refl _) hb3.size; clear hg4)
            go_ret
            rw [hTt.out, ← bvs_append] at ho4
            refine ⟨_, rfl, ?_, hb4⟩
            have e : X.length = 1 + 0 + M := by
              rw [HX.out]
              simp [lensL, HTl.out, HM.out]; omega
            rw [e, HX.out, HTl.out]
            exact ho4
          · omega
      · have hk1 : (0 : Int) < k := by omega
        have hL1 : ((L : Int) == 0) = false := by rw [beq_eq_false_iff_ne]; omega
        obtain ⟨j0, hj0⟩ : ∃ j0, k = j0 + 1 := ⟨k - 1, by omega⟩
        subst hj0
        rw [Nat.add_sub_cancel] at hc
        have hA : Own (w.alloc (.cells #[.int .u8 (((j0 + 1) % 256 : Nat) : Int)] 5)) w.heap.size 1 (.slice (some ⟨w.heap.size, 0, none⟩) 1 1) 1 (bvs [UInt8.ofNat (j0 + 1)]) := by
          have h := own_new w [.int .u8 (((j0 + 1) % 256 : Nat) : Int)] 5 1 1 (Nat.le_refl _) rfl (by decide)
          rwa [u8_cell] at h
        have hB : Below w.heap.size w (w.alloc (.cells #[.int .u8 (((j0 + 1) % 256 : Nat) : Int)] 5)) := (Below.refl _ _).alloc (Nat.le_refl _) _
        rw [Int.natCast_emod] at hA hB
        go_wp2_with fail
        go_loopw [3, 5, 30] (fun v3 v5 v30 wr => ∃ j : Nat, j ≤ (j0 + 1) ∧ v30 = .int .i64 j ∧ Own wr w.heap.size 1 v3 (1 + j) (bvs (UInt8.ofNat (j0 + 1) :: lensL (T.take j))) ∧ Below w.heap.size w wr) (fun _ _ v30 _ => (j0 + 1) - (intOf v30).toNat)
        case atStart => exact ⟨0, Nat.zero_le _, rfl, hA, hB⟩
        case round =>
          obtain ⟨j, hj, rfl, ho, hb⟩ := hrel
          obtain ⟨a3, c3, rfl⟩ := ho.form
          obtain ⟨hs2, hr2⟩ := HTH.out wr hb
          by_cases hjk : j = (j0 + 1)
          · subst hjk
            have hTt : Hid (T.take (j0 + 1) = T) := by show _ = _; rw [← HTl.out, List.take_length]
            go_wp2_with fail
            refine (concat_any _ (j0 + 1) c _ T wr hs2 hr2 hTf).mono ?_
            rintro e w2 ⟨v2, rfl, ho2, hb2⟩
            obtain ⟨a2, c2, rfl⟩ := ho2.form
            have ho3 := ho.below hb2
            have hb3 := hb.trans (hb2.mono hb.size)
            obtain ⟨M, hM⟩ : ∃ M, M = T.flatten.length := ⟨_, rfl⟩
            rw [← hM] at ho2 hTf
            have HM := Lib.hid hM
            rw [← hM]
            clear hM
            go_wp2_with (at_builtin; refine wpL_append etB rfl _ _ rfl ho3 rfl ho2.sl rfl (bvs_one _) (by omega) (by simp [maxLen]; omega) hb3.size ?_; intro v4 w4 ho4 hg4; have hb4 := below_own hb3 ho3 hg4 (Nat.le_refl _) hb3.size; clear hg4)
            go_ret
            rw [hTt.out, ← bvs_append] at ho4
            refine ⟨_, rfl, ?_, hb4⟩
            have e : X.length = 1 + (j0 + 1) + M := by
              rw [HX.out]
              simp [lensL, HTl.out, HM.out]; omega
            rw [e, HX.out, HTl.out]
            exact ho4
          · have hlt : j < (j0 + 1) := by omega
            have hlt' : (j : Int) < (j0 + 1) := by omega
            obtain ⟨b5, o5, av5, cv5, r, ha5, hri, hc5, hsl⟩ := row_at hs2 hr2 j hlt
            have HL := Lib.hid (lens_snoc T j r hri)
            obtain ⟨L5, hL5⟩ : ∃ L5, L5 = r.length := ⟨_, rfl⟩
            rw [← hL5] at hc5 hsl HL
            have hL8 : [Value.int .u8 ((L5 : Int) % 256)] = bvs [UInt8.ofNat L5] := by have := u8_cell L5; rwa [Int.natCast_emod] at this
            have HL8 := Lib.hid hL8
            cases ha5
            clear hri hL5 hL8
            have ho2 := ho.alloc (.cells #[.int .u8 ((L5 : Int) % 256)] 5)
            have hs3 := Sl.one wr (.int .u8 ((L5 : Int) % 256)) 5
            have hb2 := hb.alloc hb.size (.cells #[.int .u8 ((L5 : Int) % 256)] 5)
            go_wp2_with (at_builtin; refine wpL_append etB rfl _ _ rfl ho2 rfl hs3 rfl (by simp [Value.oneCell']) (by omega) (by simp [maxLen]; omega) hb2.size ?_; intro v4 w4 ho4 hg4; have hb4 := below_own hb2 ho2 hg4 (Nat.le_refl _) hb2.size; clear hg4)
            refine ⟨⟨j + 1, by omega, by go_num, ?_, hb4⟩, by simp [intOf]; omega⟩
            rw [HL.out, ← List.cons_append, bvs_append, ← HL8.out]
            exact ho4
    · have HTe := Lib.hid hTe
      clear hTe
      have hk1 : (0 : Int) < k := by omega
      have e1 : (k : Int) - 1 = ((k - 1 : Nat) : Int) := by omega
      obtain ⟨j, hj⟩ : ∃ j, k = j + 1 := ⟨k - 1, by omega⟩
      subst hj
      rw [Nat.add_sub_cancel] at hc
      clear e1
      go_wp2_with fail
      exact ⟨⟨j, by omega, rfl, HTe.out⟩, by simp⟩
end Go.Proofs.Ytafigfgcgnnbnaa
