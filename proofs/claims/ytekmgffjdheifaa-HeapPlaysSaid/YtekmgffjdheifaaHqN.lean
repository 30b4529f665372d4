/-
  The document's heap: New, and what it tells of all its things. Conditions: the heap reads as one.
-/
import Derived.Test.YtekmgffjdheifaaHqM
namespace Go.Proofs.Ytekmgffjdheifaa
open Go Go.RowKit
set_option linter.unusedVariables false
set_option linter.unusedSimpArgs false
set_option maxRecDepth 100000

theorem wpL_makeOne {P : Program} {w : World} {ops : Array Oper} {rest : List Oper} {o : Oper} {a : Act} {Q : Exit → Act → World → Prop} {t e : TypeId} {z : Value} {size bytes : Nat} (hT : ET P t e z size bytes) {xs : List Value} (hx : (madeCells z.cells (1 * size)).toList = xs)
    (hgd : o.guard = none) (l c : Operand) (ho : o.op = .makeSlice t l c) (base : Nat) {kl kc : IntKind} (hl : a.eval l = .int kl 1) (hc : a.eval c = .int kc 1)
    (b2 : bytes * 1 ≤ 281474976710656) (b4 : base ≤ w.heap.size)
    (h : ∀ v' w', Own w' base size v' 1 xs → Below w.heap.size w w' → (∃ g off, v' = .slice (some ⟨g, off, none⟩) 1 1 ∧ w.heap.size ≤ g) → wpList P ops Q rest (a.put o.dst v') w') : wpList P ops Q (o :: rest) a w := by
  obtain ⟨i, hi, hz0, hz1, hz2⟩ := info_parts hT.info
  refine wpList_make_full w hgd l c t ho base e i z size hT.und hi hz0 hz1 kl kc 1 1 1 hl hc rfl rfl (by rw [hz2]; exact b2) (by decide) b4 ?_
  intro w' h1 h2
  rw [hx] at h1
  exact h _ w' (Own.ofRow h1) (below_of_grown0 h2) ⟨_, _, rfl, Nat.le_refl _⟩
theorem newR_yes (m : Nat) (col : Nat → Nat) (w : World) (h : 1 ≤ m ∧ m ≤ 16777216) : Calls Try.prog 34 #[.int .i64 (m : Nat)] w fun e w' => ∃ r, e = .returned (.tuple #[.pointer (some ⟨r, 0, none⟩), .int .i64 0]) ∧ Hid (RfAt (recol col w.heap.size 6) w' r m newH ∧ Below w.heap.size w w') := by
  have h1 : ¬ (m : Int) < 1 := by omega
  have h2 : ¬ (16777216 : Int) < m := by omega
  clear h
  go_enter Try.func34, Try.ntmps34
  go_wp2_with (at_make; refine wpL_makeOne etTg (xs := tcell noTh (.slice none 0 0)) (by kernel_rfl) rfl _ _ rfl w.heap.size rfl rfl (by decide) (Nat.le_refl _) ?_; intro v3 w3 ho3 hb3 hg3; obtain ⟨gl, ol, rfl, hgm⟩ := hg3; have HO3 := Lib.hid ho3; have HB3 := Lib.hid hb3; have HG3 := Lib.hid hgm; clear ho3 hb3 hgm)
  go_ret2
  have hr := Row.new w3 [.int .i64 (m : Nat), .slice (some ⟨gl, ol, none⟩) 1 1] 101
  have hb4 : Below w3.heap.size w3 (w3.alloc (.cells #[.int .i64 (m : Nat), .slice (some ⟨gl, ol, none⟩) 1 1] 101)) := (Below.refl _ _).alloc (Nat.le_refl _) _
  have hsz := HB3.out.size
  have hlt := HO3.out.lives gl rfl
  refine ⟨w3.heap.size, rfl, Lib.hid ⟨⟨gl, ol, 1, tcell noTh (.slice none 0 0), fun _ => .slice none 0 0, hr, recol_ge hsz, ⟨(HO3.out.below hb4).mono (Nat.zero_le _), fun g hg => recol_ge (by cases hg; exact HG3.out)⟩, by omega, fun k j hk hj => ?_, fun k hk => ?_⟩, HB3.out.trans (hb4.mono hsz)⟩⟩
  · obtain rfl : k = 0 := by simp [newH] at hk; omega
    simp [newH]
  · obtain rfl : k = 0 := by simp [newH] at hk; omega
    exact OwnC.nil _ _ _ _
/-! ### what an oid leads to, step by step -/
theorem of_found {H : List Th} {x : Int} {i : Nat} (hi : i < H.length) (h0 : ∀ j, j < i → ofP x (H.getD j noTh) = false) (h1 : ofP x (H.getD i noTh) = true) : ofH H x = i := by
  rw [getD_lt hi] at h1
  have ha : H.any (ofP x) = true := List.any_eq_true.2 ⟨_, List.getElem_mem hi, h1⟩
  rw [ofH, if_pos ha]
  congr 1
  refine (List.findIdx_eq hi).2 ⟨h1, fun j hj => ?_⟩
  have := h0 j hj
  rw [getD_lt (by omega)] at this
  simpa using this
theorem of_nothing {H : List Th} {x : Int} (h0 : ∀ j, j < H.length → ofP x (H.getD j noTh) = false) : ofH H x = 0 := by
  have ha : H.any (ofP x) = false := by
    refine List.any_eq_false.2 fun y hy => ?_
    obtain ⟨j, hj, rfl⟩ := List.mem_iff_getElem.1 hy
    have := h0 j hj
    rw [getD_lt hj] at this
    simp [this]
  rw [ofH, ha]
  rfl
section
variable {col : Nat → Nat} {w : World} {r m gl ol cl : Nat} {H : List Th} {cs : List Value} {vs : Nat → Value}
theorem ofR_p (h : RfIn col w r m H gl ol cl cs vs) (hz : Hid ((thAt H 0).is = false)) (x : Int) (k : Int) (hx : Hid (k = ofH H x)) :
    Calls Try.prog 63 #[.pointer (some ⟨r, 0, none⟩), .int .i64 x] w fun e w' => e = .returned (.tuple #[.int .i64 k, .bool (decide (0 < k))]) ∧ w = w' := by
  have HH := Lib.hid h
  have c1 := h.c1
  have hcap := h.cap
  clear h
  obtain ⟨n, hn⟩ : ∃ n, n = H.length := ⟨_, rfl⟩
  have HN := Lib.hid hn
  rw [← hn] at c1 hcap
  clear hn
  go_enter Try.func63, Try.ntmps63
  go_wp2_with fail
  go_loopw [6] (fun v6 wr => ∃ i : Nat, i ≤ n ∧ v6 = .int .i64 (i : Nat) ∧ wr = w ∧ Hid (∀ j, j < i → ofP x (H.getD j noTh) = false)) (fun v6 _ => n - (intOf v6).toNat)
  case atStart => exact ⟨0, Nat.zero_le _, rfl, rfl, Lib.hid (fun j hj => by omega)⟩
  case round =>
    obtain ⟨i, hi, rfl, rfl, HP⟩ := hrel
    by_cases hin : i = n
    · subst hin
      have hk : k = 0 := by rw [hx.out]; exact of_nothing (fun j hj => HP.out j (by rw [HN.out]; exact hj))
      subst hk
      go_wp2_with fail
      go_ret2
      exact ⟨rfl, rfl⟩
    have hlt : i < n := by omega
    have hlt' : (i : Int) < n := by omega
    obtain ⟨d0, d1, d2, d3, d4, d5, d6⟩ := HH.out.all (k := i) (by rw [← HN.out]; exact hlt)
    have HO : Hid (ofP x (H.getD i noTh) = ((H.getD i noTh).is && decide ((H.getD i noTh).oid = x) && decide (0 < x))) := Lib.hid rfl
    have HZ : Hid ((H.getD i noTh).is = true → 0 < i) := Lib.hid (fun e => by
      by_cases h0 : i = 0
      · subst h0
        have := hz.out
        rw [show (0 : Int) = ((0 : Nat) : Int) from rfl, thAt_nat, e] at this
        cases this
      · omega)
    generalize hI : (H.getD i noTh).is = I at d4 HO HZ
    generalize hX : (H.getD i noTh).oid = X at d5 HO
    clear d0 d1 d2 d3 d6 hI hX
    have HF : Hid (ofP x (H.getD i noTh) = true → k = i) := Lib.hid (fun e => by rw [hx.out]; exact of_found (by rw [← HN.out]; exact hlt) HP.out e)
    have HNX : Hid (ofP x (H.getD i noTh) = false → ∀ j, j < i + 1 → ofP x (H.getD j noTh) = false) := Lib.hid (fun e j hj => by
      by_cases h : j = i
      · rw [h]; exact e
      · exact HP.out j (by omega))
    cases I with
    | false =>
      go_wp2_with fail
      exact ⟨⟨i + 1, hlt, by go_num, trivial, Lib.hid (HNX.out (by rw [HO.out]; rfl))⟩, by simp [intOf]; omega⟩
    | true =>
      by_cases hXx : X = x
      · subst hXx
        have hXX : (X == X) = true := by simp
        by_cases hx0 : 0 < X
        · have hk : k = i := HF.out (by rw [HO.out]; simp [hx0])
          subst hk
          have hi0 : (0 : Int) < (i : Int) := by have := HZ.out rfl; omega
          go_wp2_with fail
          go_ret2
          exact ⟨by simp; omega, rfl⟩
        · go_wp2_with fail
          exact ⟨⟨i + 1, hlt, by go_num, trivial, Lib.hid (HNX.out (by rw [HO.out]; simp [hx0]))⟩, by simp [intOf]; omega⟩
      · have hXX : (X == x) = false := by simp [hXx]
        go_wp2_with fail
        exact ⟨⟨i + 1, hlt, by go_num, trivial, Lib.hid (HNX.out (by rw [HO.out]; simp [hXx]))⟩, by simp [intOf]; omega⟩
theorem countR_p (h : RfIn col w r m H gl ol cl cs vs) (u : Nat) (hu : Hid (u = countH H)) :
    Calls Try.prog 38 #[.pointer (some ⟨r, 0, none⟩)] w fun e w' => e = .returned (.int .i64 (u : Nat)) ∧ w = w' := by
  have HH := Lib.hid h
  have c1 := h.c1
  have hcap := h.cap
  clear h
  obtain ⟨n, hn⟩ : ∃ n, n = H.length := ⟨_, rfl⟩
  have HN := Lib.hid hn
  rw [← hn] at c1 hcap
  clear hn
  go_enter Try.func38, Try.ntmps38
  go_wp2_with fail
  go_loopw [3, 4] (fun v3 v4 wr => ∃ i S : Nat, i ≤ n ∧ S ≤ i ∧ v4 = .int .i64 (i : Nat) ∧ v3 = .int .i64 (S : Nat) ∧ wr = w ∧ Hid (S = countH (H.take i))) (fun _ v4 _ => n - (intOf v4).toNat)
  case atStart => exact ⟨0, 0, Nat.zero_le _, Nat.le_refl _, rfl, rfl, rfl, Lib.hid rfl⟩
  case round =>
    obtain ⟨i, S, hi, hS, rfl, rfl, rfl, HS⟩ := hrel
    by_cases hin : i = n
    · subst hin
      have hk : u = S := by rw [hu.out, HS.out, List.take_of_length_le (by rw [HN.out]; exact Nat.le_refl _)]
      subst hk
      go_wp2_with fail
      go_ret
      exact ⟨rfl, rfl⟩
    have hlt : i < n := by omega
    have hlt' : (i : Int) < n := by omega
    obtain ⟨d0, d1, d2, d3, d4, d5, d6⟩ := HH.out.all (k := i) (by rw [← HN.out]; exact hlt)
    have HC : Hid (countH (H.take (i + 1)) = S + if (H.getD i noTh).is then 1 else 0) := Lib.hid (by rw [count_take (by rw [← HN.out]; exact hlt), HS.out, thAt_nat])
    generalize (H.getD i noTh).is = I at d4 HC
    clear d0 d1 d2 d3 d5 d6
    cases I with
    | false =>
      go_wp2_with fail
      exact ⟨⟨i + 1, S, hlt, by omega, by go_num, rfl, trivial, Lib.hid (by rw [HC.out]; rfl)⟩, by simp [intOf]; omega⟩
    | true =>
      go_wp2_with fail
      exact ⟨⟨i + 1, S + 1, hlt, by omega, by go_num, by go_num, trivial, Lib.hid (by rw [HC.out]; rfl)⟩, by simp [intOf]; omega⟩
set_option maxHeartbeats 1600000 in
theorem usedR_p (h : RfIn col w r m H gl ol cl cs vs) (hg : Hid (Good H m)) (hm : m ≤ 16777216) (u : Nat) (hu : Hid (u = usedH H)) :
    Calls Try.prog 37 #[.pointer (some ⟨r, 0, none⟩)] w fun e w' => e = .returned (.int .i64 (u : Nat)) ∧ Below w.heap.size w w' := by
  have HH := Lib.hid h
  have hcap := h.cap
  clear h
  obtain ⟨n, hn⟩ : ∃ n, n = H.length := ⟨_, rfl⟩
  have HN := Lib.hid hn
  rw [← hn] at hcap
  clear hn
  go_enter Try.func37, Try.ntmps37
  go_wp2_with fail
  go_loopw [3, 4] (fun v3 v4 wr => ∃ i S : Nat, i ≤ n ∧ S ≤ 16777216 ∧ v4 = .int .i64 (i : Nat) ∧ v3 = .int .i64 (S : Nat) ∧ Hid (S = usedH (H.take i) ∧ Below w.heap.size w wr)) (fun _ v4 _ => n - (intOf v4).toNat)
  case atStart => exact ⟨0, 0, Nat.zero_le _, by decide, rfl, rfl, Lib.hid ⟨rfl, Below.refl _ _⟩⟩
  case round =>
    obtain ⟨i, S, hi, hS, rfl, rfl, HS⟩ := hrel
    have HR := Lib.hid (HH.out.fresh HS.out.2)
    have c1 := HR.out.c1
    rw [← HN.out] at c1
    by_cases hin : i = n
    · subst hin
      have hk : u = S := by rw [hu.out, HS.out.1, List.take_of_length_le (by rw [HN.out]; exact Nat.le_refl _)]
      subst hk
      go_wp2_with fail
      go_ret
      exact ⟨rfl, HS.out.2⟩
    have hlt : i < n := by omega
    have hlt' : (i : Int) < n := by omega
    obtain ⟨d0, d1, d2, d3, d4, d5, d6⟩ := HR.out.all (k := i) (by rw [← HN.out]; exact hlt)
    have hws := HR.out.ws i (by rw [← HN.out]; exact hlt)
    have HC : Hid (usedH (H.take (i + 1)) = S + sz (H.getD i noTh) ∧ usedH (H.take (i + 1)) ≤ 16777216) := Lib.hid ⟨by rw [used_take (by rw [← HN.out]; exact hlt), HS.out.1, thAt_nat], Nat.le_trans (used_few _) (Nat.le_trans hg.out.room (by omega))⟩
    have hsm := hg.out.small hm i
    rw [thAt_nat] at hsm
    obtain ⟨aV, cV, hv⟩ := hws.1.form
    rw [hv] at d2
    have HB := Lib.hid HS.out.2
    clear hws hv d5 d6
    generalize H.getD i noTh = t at d0 d1 d2 d3 d4 HC hsm
    obtain ⟨o, I, X, D⟩ := t
    simp only at d0 d1 d2 d3 d4 hsm
    cases I with
    | false =>
      clear d0 d1 d2 d3
      go_wp2_with fail
      exact ⟨⟨i + 1, S, hlt, hS, by go_num, rfl, Lib.hid ⟨by rw [HC.out.1]; rfl, HB.out⟩⟩, by simp [intOf]; omega⟩
    | true =>
      obtain ⟨Z, hZ⟩ : ∃ Z, Z = sizeO o := ⟨_, rfl⟩
      have HZ := Lib.hid hZ
      have HC1 : Hid (usedH (H.take (i + 1)) = S + Z) := Lib.hid (by rw [HC.out.1, hZ]; rfl)
      have hSZ : S + Z ≤ 16777216 := by rw [← HC1.out]; exact HC.out.2
      clear hZ
      go_wp2_with fail
      refine (sizeR_any o aV o.l.length cV o.s.length wr rfl rfl (by omega) (by omega) Z HZ).mono ?_
      rintro e w5 ⟨rfl, hb5⟩
      have HB5 := Lib.hid (HB.out.trans (hb5.mono HB.out.size))
      clear hb5 d0 d1 d2 d3 d4 c1
      go_wp2_with fail
      exact ⟨⟨i + 1, S + Z, hlt, hSZ, by go_num, by go_num, Lib.hid ⟨HC1.out.symm, HB5.out⟩⟩, by simp [intOf]; omega⟩
end
end Go.Proofs.Ytekmgffjdheifaa
