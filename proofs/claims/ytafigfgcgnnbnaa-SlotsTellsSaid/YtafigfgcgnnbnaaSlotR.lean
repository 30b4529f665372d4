/-
  The document's Write and Read of a page: the same bytes and the same records. Conditions: rows of bytes of less than 2^30 in all.
-/
import Derived.Test.YtafigfgcgnnbnaaSlotE
namespace Go.Proofs.Ytafigfgcgnnbnaa
open Go.RowKit
set_option linter.unusedVariables false
set_option linter.unusedSimpArgs false

/-- a row at the end is there, or is let go -/
theorem trim_stop {w : World} {a : Option Addr} {n c : Nat} {cells : List Value} {rs T : List (List UInt8)} (hs : Sl w 1 (.slice a n c) n cells) (hr : RowsOf w cells rs) (k : Nat) (hk : k ≤ n) (hT : T = trimL (rs.take k)) :
    (k = 0 ∨ ∃ b off av cv, ∃ L : Nat, a = some ⟨b, off, none⟩ ∧ 0 < k ∧ 0 < L ∧ w.cell? ⟨b, off + (k - 1), none⟩ = some (.slice av L cv)) ∧ T = rs.take k ∨ (∃ b off av cv, a = some ⟨b, off, none⟩ ∧ 0 < k ∧ w.cell? ⟨b, off + (k - 1), none⟩ = some (.slice av 0 cv)) ∧ T = trimL (rs.take (k - 1)) := by
  rcases Nat.eq_zero_or_pos k with rfl | hk0
  · left; exact ⟨.inl rfl, by rw [hT]; simp [trimL_nil]⟩
  · obtain ⟨b, off, av, cv, r, ha, hri, hc, hsl⟩ := row_at hs hr (k - 1) (by omega)
    have e : rs.take k = rs.take (k - 1) ++ [r] := by
      obtain ⟨hlt, e⟩ := List.getElem?_eq_some_iff.1 hri
      have := List.take_succ_eq_append_getElem hlt
      rwa [show k - 1 + 1 = k by omega, e] at this
    by_cases hr0 : r = []
    · subst hr0
      right
      exact ⟨⟨b, off, av, cv, ha, hk0, hc⟩, by rw [hT, e, trimL_snoc_nil]⟩
    · left
      exact ⟨.inr ⟨b, off, av, cv, r.length, ha, hk0, List.length_pos_iff.2 hr0, hc⟩, by rw [hT, e, trimL_snoc _ _ hr0]⟩


set_option maxHeartbeats 1600000 in
theorem rwrite_any (a : Option Addr) (n c : Nat) (cells : List Value) (rs : List (List UInt8)) (w : World) (hs : Sl w 1 (.slice a n c) n cells) (hr : RowsOf w cells rs) (ht : rs.flatten.length ≤ 1073741824) (hn9 : n ≤ 1073741824) :
    Calls Try.prog 35 #[.slice a n c] w fun e w' => ∃ v, e = .returned v ∧ Own w' w.heap.size 1 v (writeL rs).length (bvs (writeL rs)) ∧ Below w.heap.size w w' := by
  have hn := rows_len hs hr
  have HN := Lib.hid hn.1
  have hnc : n ≤ c := hn.2.1
  have hc2 : c ≤ 9223372036854775807 := hn.2.2
  clear hn
  obtain ⟨T, hT⟩ : ∃ T, T = trimL rs := ⟨_, rfl⟩
  obtain ⟨X, hX⟩ : ∃ X, X = writeL rs := ⟨_, rfl⟩
  have HX : Hid (X = (UInt8.ofNat T.length :: lensL T) ++ T.flatten) := by show _ = _; rw [hX, hT]; rfl
  rw [← hX]
  clear hX
  have HT := Lib.hid hT
  clear hT
  go_enter Try.func35, Try.ntmps35
  go_wp2_with fail
  go_loop [3] (fun v3 => ∃ k : Nat, k ≤ n ∧ v3 = .int .i64 k ∧ T = trimL (rs.take k)) (fun v3 => (intOf v3).toNat)
  case atStart => exact ⟨n, Nat.le_refl _, rfl, by rw [← HN.out, List.take_length]; exact HT.out⟩
  case round =>
    obtain ⟨k, hk, rfl, hTk⟩ := hrel
    have hstop := trim_stop hs hr k hk hTk
    clear hTk
    rcases hstop with ⟨hst, hTe⟩ | ⟨⟨b, off, av, cv, rfl, hk0, hc⟩, hTe⟩
    · have HTe := Lib.hid hTe
      have hTl : T.length = k := by rw [hTe]; simp [HN.out]; omega
      have HTl := Lib.hid hTl
      have hTf : T.flatten.length ≤ 1073741824 := by have := flat_le rs k; rw [← hTe] at this; omega
      have hTh : ∀ w', Below w.heap.size w w' → Sl w' 1 (.slice a k c) k (cells.take k) ∧ RowsOf w' (cells.take k) T := fun w' hb => by
        have h1 := (hs.front hk).below hb
        rw [Nat.mul_one] at h1
        exact ⟨h1, by rw [HTe.out]; exact (hr.take k).below hb⟩
      have HTH := Lib.hid hTh
      clear hTe hTl hTh
      rcases hst with rfl | ⟨b, off, av, cv, L, rfl, hk0, hL, hc⟩
      · have hA : Own (w.alloc (.cells #[.int .u8 ((0 % 256 : Nat) : Int)] 5)) w.heap.size 1 (.slice (some ⟨w.heap.size, 0, none⟩) 1 1) 1 (bvs [UInt8.ofNat 0]) := by
          have h := own_new w [.int .u8 ((0 % 256 : Nat) : Int)] 5 1 1 (Nat.le_refl _) rfl (by decide)
          rwa [u8_cell] at h
        have hB : Below w.heap.size w (w.alloc (.cells #[.int .u8 ((0 % 256 : Nat) : Int)] 5)) := (Below.refl _ _).alloc (Nat.le_refl _) _
        rw [Int.natCast_emod] at hA hB
        go_wp2_with fail
        go_loopw [4, 5] (fun v4 v5 wr => ∃ j : Nat, j ≤ 0 ∧ v5 = .int .i64 j ∧ Own wr w.heap.size 1 v4 (1 + j) (bvs (UInt8.ofNat 0 :: lensL (T.take j))) ∧ Below w.heap.size w wr) (fun _ v5 _ => 0 - (intOf v5).toNat)
        case atStart => exact ⟨0, Nat.zero_le _, rfl, hA, hB⟩
        case round =>
          obtain ⟨j, hj, rfl, ho, hb⟩ := hrel
          obtain ⟨a3, c3, rfl⟩ := ho.form
          obtain ⟨hs2, hr2⟩ := HTH.out wr hb
          by_cases hjk : j = 0
          · have hTt : Hid (T.take j = T) := by show _ = _; rw [hjk, ← HTl.out, List.take_length]
            have hge : 0 ≤ j := by omega
            clear hjk
            go_wp2_with fail
            go_loopw [4, 6] (fun v4 v6 wr2 => ∃ i p : Nat, i ≤ 0 ∧ v6 = .int .i64 i ∧ p = (T.take i).flatten.length ∧ Own wr2 w.heap.size 1 v4 (1 + 0 + p) (bvs (UInt8.ofNat 0 :: lensL T) ++ bvs (T.take i).flatten) ∧ Below w.heap.size w wr2) (fun _ v6 _ => 0 - (intOf v6).toNat)
            case atStart =>
              obtain rfl : j = 0 := by omega
              rw [hTt.out] at ho
              exact ⟨0, 0, Nat.zero_le _, rfl, by simp, by simpa [bvs] using ho, hb⟩
            case round =>
              obtain ⟨i, p, hi, rfl, hp, ho2, hb2⟩ := hrel
              obtain ⟨a4, c4, rfl⟩ := ho2.form
              obtain ⟨hs4, hr4⟩ := HTH.out wr hb2
              have HP := Lib.hid hp
              have hp2 : p ≤ 1073741824 := by have := flat_le T i; omega
              clear hp
              by_cases hik : i = 0
              · have hTi : Hid (T.take i = T) := by show _ = _; rw [hik, ← HTl.out, List.take_length]
                subst hik
                go_wp2_with fail
                go_ret
                have e : X.length = 1 + 0 + p := by
                  rw [HX.out, HP.out, hTi.out]
                  simp [lensL, HTl.out]; omega
                rw [e, HX.out, HTl.out]
                rw [hTi.out, ← bvs_append] at ho2
                exact ⟨_, rfl, ho2, hb2⟩
              · have hlt : i < 0 := by omega
                first
                | exact absurd hlt (Nat.not_lt_zero _)
                | skip
                  have hlt' : (i : Int) < 0 := by omega
                  obtain ⟨b5, o5, av5, cv5, r, ha5, hri, hc5, hsl⟩ := row_at hs4 hr4 i hlt
                  have HF := Lib.hid (flat_snoc T i r hri)
                  have hle : p + r.length ≤ 1073741824 := by
                    have h1 := flat_le T (i + 1)
                    rw [HF.out, List.length_append, ← HP.out] at h1
                    omega
                  obtain ⟨L5, hL5⟩ : ∃ L5, L5 = r.length := ⟨_, rfl⟩
                  rw [← hL5] at hc5 hsl hle
                  have HL5 := Lib.hid hL5
                  cases ha5
                  clear hri hL5
                  go_wp2_with (at_builtin; refine wpL_append etB rfl _ _ rfl ho2 rfl hsl rfl (bvs_one _) (by omega) (by simp [maxLen]; omega) hb2.size ?_; intro v4 w4 ho4 hg4; have hb4 := below_own hb2 ho2 hg4 (Nat.le_refl _) hb2.size; clear hg4)
                  refine ⟨⟨i + 1, p + L5, by omega, by go_num, by rw [HF.out, List.length_append, ← HP.out, HL5.out], ?_, hb4⟩, by simp [intOf]; omega⟩
                  rw [HF.out, bvs_append, ← List.append_assoc, ← Nat.add_assoc]
                  exact ho4
          · have hlt : j < 0 := by omega
            first
            | exact absurd hlt (Nat.not_lt_zero _)
            | skip
              have hlt' : (j : Int) < 0 := by omega
              obtain ⟨b5, o5, av5, cv5, r, ha5, hri, hc5, hsl⟩ := row_at hs2 hr2 j hlt
              have HL := Lib.hid (lens_snoc T j r hri)
              obtain ⟨L5, hL5⟩ : ∃ L5, L5 = r.length := ⟨_, rfl⟩
              rw [← hL5] at hc5 hsl HL
              have hL8 : [Value.int .u8 ((L5 : Int) % 256)] = bvs [UInt8.ofNat L5] := by have := u8_cell L5; rwa [Int.natCast_emod] at this
              have HL8 := Lib.hid hL8
              cases ha5
              clear hri hL5 hL8
              have ho2 := ho.alloc (.cells #[.int .u8 ((L5 : Int) % 256)] 5)
              have hs3 := Sl.one wr (.int .u8 ((L5 : Int) % 256)) 5
              have hb2 := hb.alloc hb.size (.cells #[.int .u8 ((L5 : Int) % 256)] 5)
              go_wp2_with (at_builtin; refine wpL_append etB rfl _ _ rfl ho2 rfl hs3 rfl (by simp [Value.oneCell']) (by omega) (by simp [maxLen]; omega) hb2.size ?_; intro v4 w4 ho4 hg4; have hb4 := below_own hb2 ho2 hg4 (Nat.le_refl _) hb2.size; clear hg4)
              refine ⟨⟨j + 1, by omega, by go_num, ?_, hb4⟩, by simp [intOf]; omega⟩
              rw [HL.out, ← List.cons_append, bvs_append, ← HL8.out]
              exact ho4
      · have hk1 : (0 : Int) < k := by omega
        have hL1 : ((L : Int) == 0) = false := by rw [beq_eq_false_iff_ne]; omega
        obtain ⟨j0, hj0⟩ : ∃ j0, k = j0 + 1 := ⟨k - 1, by omega⟩
        subst hj0
        rw [Nat.add_sub_cancel] at hc
        have hA : Own (w.alloc (.cells #[.int .u8 (((j0 + 1) % 256 : Nat) : Int)] 5)) w.heap.size 1 (.slice (some ⟨w.heap.size, 0, none⟩) 1 1) 1 (bvs [UInt8.ofNat (j0 + 1)]) := by
          have h := own_new w [.int .u8 (((j0 + 1) % 256 : Nat) : Int)] 5 1 1 (Nat.le_refl _) rfl (by decide)
          rwa [u8_cell] at h
        have hB : Below w.heap.size w (w.alloc (.cells #[.int .u8 (((j0 + 1) % 256 : Nat) : Int)] 5)) := (Below.refl _ _).alloc (Nat.le_refl _) _
        rw [Int.natCast_emod] at hA hB
        go_wp2_with fail
        go_loopw [4, 5] (fun v4 v5 wr => ∃ j : Nat, j ≤ (j0 + 1) ∧ v5 = .int .i64 j ∧ Own wr w.heap.size 1 v4 (1 + j) (bvs (UInt8.ofNat (j0 + 1) :: lensL (T.take j))) ∧ Below w.heap.size w wr) (fun _ v5 _ => (j0 + 1) - (intOf v5).toNat)
        case atStart => exact ⟨0, Nat.zero_le _, rfl, hA, hB⟩
        case round =>
          obtain ⟨j, hj, rfl, ho, hb⟩ := hrel
          obtain ⟨a3, c3, rfl⟩ := ho.form
          obtain ⟨hs2, hr2⟩ := HTH.out wr hb
          by_cases hjk : j = (j0 + 1)
          · have hTt : Hid (T.take j = T) := by show _ = _; rw [hjk, ← HTl.out, List.take_length]
            have hge : (j0 + 1) ≤ j := by omega
            clear hjk
            go_wp2_with fail
            go_loopw [4, 6] (fun v4 v6 wr2 => ∃ i p : Nat, i ≤ (j0 + 1) ∧ v6 = .int .i64 i ∧ p = (T.take i).flatten.length ∧ Own wr2 w.heap.size 1 v4 (1 + (j0 + 1) + p) (bvs (UInt8.ofNat (j0 + 1) :: lensL T) ++ bvs (T.take i).flatten) ∧ Below w.heap.size w wr2) (fun _ v6 _ => (j0 + 1) - (intOf v6).toNat)
            case atStart =>
              obtain rfl : j = (j0 + 1) := by omega
              rw [hTt.out] at ho
              exact ⟨0, 0, Nat.zero_le _, rfl, by simp, by simpa [bvs] using ho, hb⟩
            case round =>
              obtain ⟨i, p, hi, rfl, hp, ho2, hb2⟩ := hrel
              obtain ⟨a4, c4, rfl⟩ := ho2.form
              obtain ⟨hs4, hr4⟩ := HTH.out wr hb2
              have HP := Lib.hid hp
              have hp2 : p ≤ 1073741824 := by have := flat_le T i; omega
              clear hp
              by_cases hik : i = (j0 + 1)
              · have hTi : Hid (T.take i = T) := by show _ = _; rw [hik, ← HTl.out, List.take_length]
                subst hik
                go_wp2_with fail
                go_ret
                have e : X.length = 1 + (j0 + 1) + p := by
                  rw [HX.out, HP.out, hTi.out]
                  simp [lensL, HTl.out]; omega
                rw [e, HX.out, HTl.out]
                rw [hTi.out, ← bvs_append] at ho2
                exact ⟨_, rfl, ho2, hb2⟩
              · have hlt : i < (j0 + 1) := by omega
                first
                | exact absurd hlt (Nat.not_lt_zero _)
                | skip
                  have hlt' : (i : Int) < (j0 + 1) := by omega
                  obtain ⟨b5, o5, av5, cv5, r, ha5, hri, hc5, hsl⟩ := row_at hs4 hr4 i hlt
                  have HF := Lib.hid (flat_snoc T i r hri)
                  have hle : p + r.length ≤ 1073741824 := by
                    have h1 := flat_le T (i + 1)
                    rw [HF.out, List.length_append, ← HP.out] at h1
                    omega
                  obtain ⟨L5, hL5⟩ : ∃ L5, L5 = r.length := ⟨_, rfl⟩
                  rw [← hL5] at hc5 hsl hle
                  have HL5 := Lib.hid hL5
                  cases ha5
                  clear hri hL5
                  go_wp2_with (at_builtin; refine wpL_append etB rfl _ _ rfl ho2 rfl hsl rfl (bvs_one _) (by omega) (by simp [maxLen]; omega) hb2.size ?_; intro v4 w4 ho4 hg4; have hb4 := below_own hb2 ho2 hg4 (Nat.le_refl _) hb2.size; clear hg4)
                  refine ⟨⟨i + 1, p + L5, by omega, by go_num, by rw [HF.out, List.length_append, ← HP.out, HL5.out], ?_, hb4⟩, by simp [intOf]; omega⟩
                  rw [HF.out, bvs_append, ← List.append_assoc, ← Nat.add_assoc]
                  exact ho4
          · have hlt : j < (j0 + 1) := by omega
            first
            | exact absurd hlt (Nat.not_lt_zero _)
            | skip
              have hlt' : (j : Int) < (j0 + 1) := by omega
              obtain ⟨b5, o5, av5, cv5, r, ha5, hri, hc5, hsl⟩ := row_at hs2 hr2 j hlt
              have HL := Lib.hid (lens_snoc T j r hri)
              obtain ⟨L5, hL5⟩ : ∃ L5, L5 = r.length := ⟨_, rfl⟩
              rw [← hL5] at hc5 hsl HL
              have hL8 : [Value.int .u8 ((L5 : Int) % 256)] = bvs [UInt8.ofNat L5] := by have := u8_cell L5; rwa [Int.natCast_emod] at this
              have HL8 := Lib.hid hL8
              cases ha5
              clear hri hL5 hL8
              have ho2 := ho.alloc (.cells #[.int .u8 ((L5 : Int) % 256)] 5)
              have hs3 := Sl.one wr (.int .u8 ((L5 : Int) % 256)) 5
              have hb2 := hb.alloc hb.size (.cells #[.int .u8 ((L5 : Int) % 256)] 5)
              go_wp2_with (at_builtin; refine wpL_append etB rfl _ _ rfl ho2 rfl hs3 rfl (by simp [Value.oneCell']) (by omega) (by simp [maxLen]; omega) hb2.size ?_; intro v4 w4 ho4 hg4; have hb4 := below_own hb2 ho2 hg4 (Nat.le_refl _) hb2.size; clear hg4)
              refine ⟨⟨j + 1, by omega, by go_num, ?_, hb4⟩, by simp [intOf]; omega⟩
              rw [HL.out, ← List.cons_append, bvs_append, ← HL8.out]
              exact ho4
    · have HTe := Lib.hid hTe
      clear hTe
      have hk1 : (0 : Int) < k := by omega
      obtain ⟨j, hj⟩ : ∃ j, k = j + 1 := ⟨k - 1, by omega⟩
      subst hj
      rw [Nat.add_sub_cancel] at hc
      go_wp2_with fail
      exact ⟨⟨j, by omega, by go_num, HTe.out⟩, by simp [intOf]⟩

/-! ### Read -/
theorem eachGo_at (p : List UInt8) : ∀ (ns : List UInt8) (q i : Nat), i < ns.length → i ≤ (eachGo p ns q).length →
    (p.length - (q + ((eachGo p ns q).take i).flatten.length) < (ns.getD i 0).toNat → (eachGo p ns q).length = i) ∧ (¬ p.length - (q + ((eachGo p ns q).take i).flatten.length) < (ns.getD i 0).toNat → (eachGo p ns q)[i]? = some ((p.drop (q + ((eachGo p ns q).take i).flatten.length)).take (ns.getD i 0).toNat))
  | [], q, i, hi, _ => by simp at hi
  | n :: ns, q, i, hi, hl => by
    unfold eachGo at hl ⊢
    by_cases hc : p.length - q < n.toNat
    · rw [if_pos hc] at hl ⊢
      obtain rfl : i = 0 := by simpa using hl
      refine ⟨fun _ => rfl, fun h => absurd ?_ h⟩
      simpa using hc
    · rw [if_neg hc] at hl ⊢
      cases i with
      | zero =>
        refine ⟨fun h => absurd ?_ hc, fun _ => by simp⟩
        simpa using h
      | succ i =>
        have ih := eachGo_at p ns (q + n.toNat) i (by simpa using hi) (by simpa using hl)
        have e : q + (List.take (i + 1) ((p.drop q).take n.toNat :: eachGo p ns (q + n.toNat))).flatten.length = q + n.toNat + (List.take i (eachGo p ns (q + n.toNat))).flatten.length := by
          simp only [List.take_succ_cons, List.flatten_cons, List.length_append, List.length_take, List.length_drop]
          omega
        rw [e]
        refine ⟨fun h => ?_, fun h => ?_⟩
        · have := ih.1 (by simpa using h)
          simp [this]
        · have := ih.2 (by simpa using h)
          simpa using this
def p0 (p : List UInt8) : Nat := (p.getD 0 0).toNat
theorem eachL_le (p : List UInt8) : (eachL p).length ≤ p0 p := by
  cases p with
  | nil => simp [eachL]
  | cons b r =>
    simp only [eachL]
    split
    · simp
    · have h1 := eachGo_len (b :: r) (r.take b.toNat) (1 + b.toNat)
      simp only [List.length_take] at h1
      simp only [p0, List.getD_cons_zero]
      omega
theorem eachL_at (p : List UInt8) (hb : 1 + p0 p ≤ p.length) (i : Nat) (hi : i < p0 p) (hl : i ≤ (eachL p).length) :
    (p.length - (1 + p0 p + ((eachL p).take i).flatten.length) < (p.getD (1 + i) 0).toNat → (eachL p).length = i) ∧ (¬ p.length - (1 + p0 p + ((eachL p).take i).flatten.length) < (p.getD (1 + i) 0).toNat → (eachL p)[i]? = some ((p.drop (1 + p0 p + ((eachL p).take i).flatten.length)).take (p.getD (1 + i) 0).toNat)) := by
  cases p with
  | nil => simp [p0] at hi
  | cons b r =>
    simp only [p0, List.getD_cons_zero] at *
    have hn : ¬ (b :: r).length ≤ b.toNat := by omega
    simp only [eachL, if_neg hn] at hl ⊢
    have hr : b.toNat ≤ r.length := by simp at hb; omega
    have h := eachGo_at (b :: r) (r.take b.toNat) (1 + b.toNat) i (by simp; omega) hl
    have e : (r.take b.toNat).getD i 0 = (b :: r).getD (1 + i) 0 := by
      rw [Nat.add_comm 1 i, List.getD_cons_succ, List.getD_eq_getElem?_getD, List.getD_eq_getElem?_getD, List.getElem?_take, if_pos hi]
    rw [e] at h
    exact h
theorem p0_of_write (E p : List (UInt8)) (T : List (List UInt8)) (h : writeL T = p) (hT : T.length ≤ 255) : p0 p = (trimL T).length ∧ 1 + p0 p ≤ p.length ∧ 0 < p.length := by
  have := trimL_le T
  subst h
  have e : p0 (writeL T) = (trimL T).length := by
    simp only [p0, writeL, List.cons_append, List.getD_cons_zero]
    rw [UInt8.toNat_ofNat']; omega
  refine ⟨e, ?_, by simp [writeL]⟩
  rw [e]
  simp [writeL, lensL]; omega
theorem trim_eq (rs : List (List UInt8)) (h : (trimL rs).length = rs.length) : trimL rs = rs := by
  have h2 : ∃ k, trimL rs = rs.take k := by
    obtain ⟨t, ht⟩ := List.dropWhile_suffix (fun x : List UInt8 => x.isEmpty) (l := rs.reverse)
    refine ⟨(trimL rs).length, ?_⟩
    have h2 := congrArg List.reverse ht
    simp only [List.reverse_append, List.reverse_reverse] at h2
    have h3 : rs = trimL rs ++ t.reverse := h2.symm
    have h4 : (trimL rs ++ t.reverse).take (trimL rs).length = trimL rs := List.take_left
    rw [← h3] at h4
    exact h4.symm
  obtain ⟨k, hk⟩ := h2
  rw [hk] at h ⊢
  rw [List.length_take] at h
  exact List.take_of_length_le (by omega)
theorem readOk_parts {p : List UInt8} (h : readOk p = true) : p.length ≤ 248 ∧ 0 < p.length ∧ 1 + p0 p ≤ p.length ∧ (eachL p).length = p0 p ∧ trimL (eachL p) = eachL p ∧ writeL (eachL p) = p := by
  simp only [readOk, Bool.and_eq_true, decide_eq_true_eq] at h
  have h1 := p0_of_write [] p _ h.2 (eachL_len p)
  have h2 := eachL_le p
  have h3 := trimL_le (eachL p)
  have e : (eachL p).length = p0 p := by omega
  exact ⟨h.1, h1.2.2, h1.2.1, e, trim_eq _ (by omega), h.2⟩
theorem readOk_not {p : List UInt8} (h : 248 < p.length ∨ p.length < 1 + p0 p ∨ p.length = 0 ∨ (eachL p).length < p0 p) : readOk p = false := by
  cases hb : readOk p
  · rfl
  · have := readOk_parts hb; omega
theorem readL_not {p : List UInt8} (h : readOk p = false) : readL p = [] := by rw [readL, h]; rfl
theorem readL_ok {p : List UInt8} (h : readOk p = true) : readL p = eachL p := by rw [readL, if_pos h]

theorem Sl.kept {w w' : World} {size m : Nat} {v : Value} {xs : List Value} (h : Sl w size v m xs) {row : Option Nat} (hg : w.grownBy w' row) (hne : v.ownBlock = none ∨ v.ownBlock ≠ row) : Sl w' size v m xs := by
  obtain ⟨hl, a, c, rfl, h1, h2, h3, h4⟩ := h
  refine ⟨hl, a, c, rfl, h1, h2, h3, fun j u hu => ?_⟩
  obtain ⟨b, off, rfl, hc⟩ := h4 j u hu
  refine ⟨b, off, rfl, ?_⟩
  have := hg.block b (lt_of_cell hc) (by rcases hne with h | h <;> simp_all [Value.ownBlock])
  simp only [World.cell?, this] at hc ⊢
  exact hc
/-- the rows say what they say, whatever is done in the memory of v itself -/
def Away (w : World) (v : Value) (cells : List Value) (rs : List (List UInt8)) : Prop := ∀ w', w.grownBy w' v.ownBlock → RowsOf w' cells rs
theorem Away.rows {w : World} {v : Value} {cells : List Value} {rs : List (List UInt8)} (h : Away w v cells rs) : RowsOf w cells rs := h w (World.grownBy.refl _ _)
theorem Away.below {w w' : World} {v : Value} {cells : List Value} {rs : List (List UInt8)} (h : Away w v cells rs) (hb : Below w.heap.size w w') : Away w' v cells rs :=
  fun _ hg => h _ ((grown_below hb _).trans hg)
theorem Away.grown {w w' : World} {v v' : Value} {cells : List Value} {rs : List (List UInt8)} (h : Away w v cells rs) (hg : w.grownBy w' v.ownBlock) (hv : ∀ g, v'.ownBlock = some g → v.ownBlock = some g ∨ w.heap.size ≤ g) : Away w' v' cells rs := by
  intro w2 hg2
  refine h w2 ⟨hg2.os.trans hg.os, hg2.tape.trans hg.tape, hg2.output.trans hg.output, Nat.le_trans hg.size hg2.size, fun k hk hne => ?_⟩
  refine (hg2.block k (Nat.lt_of_lt_of_le hk hg.size) ?_).trans (hg.block k hk hne)
  intro he
  rcases hv k he.symm with h | h
  · exact hne h.symm
  · omega
theorem Away.snoc {w : World} {v : Value} {cells : List Value} {rs : List (List UInt8)} (h : Away w v cells rs) {base n : Nat} {u : Value} {r : List UInt8} (hr : Own w base 1 u n (bvs r)) (hn : n = r.length) (hne : ∀ g, v.ownBlock = some g → u.ownBlock ≠ some g) : Away w v (cells ++ [u]) (rs ++ [r]) := by
  intro w' hg
  obtain ⟨a, c, rfl⟩ := hr.form
  refine (h w' hg).snoc hn (hr.kept hg ?_).sl
  cases hv : v.ownBlock with
  | none => cases hu : (Value.slice a n c).ownBlock <;> simp
  | some g => exact .inr (hne g hv)
theorem wpL_appendX {P : Program} {w : World} {ops : Array Oper} {rest : List Oper} {o : Oper} {a : Act} {Q : Exit → Act → World → Prop} {t e : TypeId} {z : Value} {size bytes : Nat} (hT : ET P t e z size bytes)
    (hgd : o.guard = none) (s x : Operand) (ho : o.op = .call { callee := .builtin .append, args := #[s, x], argTypes := #[t, t] })
    {base : Nat} {v : Value} {n : Nat} {xs : List Value} (hown : Own w base size v n xs) (hs : a.eval s = v)
    {vx : Value} {m : Nat} {news : List Value} (hsrc : Sl w size vx m news) (hx : a.eval x = vx) (h1 : ∀ u ∈ news, u.oneCell' = true)
    (hbytes : (n + m) * bytes ≤ 140737488355328) (h63 : n + m ≤ maxLen) (hbase : base ≤ w.heap.size)
    (h : ∀ v' w', Own w' base size v' (n + m) (xs ++ news) → w.grownBy w' v.ownBlock → (∀ g, v'.ownBlock = some g → v.ownBlock = some g ∨ w.heap.size ≤ g) → wpList P ops Q rest (a.put o.dst v') w') : wpList P ops Q (o :: rest) a w := by
  obtain ⟨v', w', hr, h2, h3, h4⟩ := run_append_OwnX (P := P) w (ty := o.type) hT hown (hsrc.src hT.und h1) hbytes h63 hbase
  exact Lib.wpList_append_run w hgd s x t t ho _ _ hs hx _ _ hr (h v' w' h2 h3 h4)
end Go.Proofs.Ytafigfgcgnnbnaa
