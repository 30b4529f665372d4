/-
  The library's Grow, Concat and Clone at ints. Conditions: rows of less than 2^30 ints in all.
-/
import Derived.Test.YtekmgffjdheifaaHpG
namespace Go.Proofs.Ytekmgffjdheifaa
open Go.RowKit
set_option linter.unusedVariables false
set_option linter.unusedSimpArgs false
set_option maxRecDepth 100000

def RowsI (w : World) (cells : List Value) (rs : List (List Int)) : Prop :=
  cells.length = rs.length ∧ ∀ (i : Nat) (r : List Int), rs[i]? = some r → ∃ (a : Option Addr) (c : Nat), cells[i]? = some (Value.slice a r.length c) ∧ Sl w 1 (.slice a r.length c) r.length (ints r)
theorem RowsI.below {w w' : World} {cells : List Value} {rs : List (List Int)} (h : RowsI w cells rs) (hb : Below w.heap.size w w') : RowsI w' cells rs :=
  ⟨h.1, fun i r hr => let ⟨a, c, h1, h2⟩ := h.2 i r hr; ⟨a, c, h1, h2.below hb⟩⟩
theorem RowsI.drew {w : World} {cells : List Value} {rs : List (List Int)} (h : RowsI w cells rs) : RowsI w.drew cells rs := h.below (Below.refl _ _).drew
theorem RowsI.nil (w : World) : RowsI w [] [] := ⟨rfl, fun i r h => by simp at h⟩
theorem RowsI.snoc {w : World} {cells : List Value} {rs : List (List Int)} (h : RowsI w cells rs) {a : Option Addr} {c n : Nat} {r : List Int} (hn : n = r.length) (hr : Sl w 1 (.slice a n c) n (ints r)) : RowsI w (cells ++ [.slice a n c]) (rs ++ [r]) := by
  subst hn
  refine ⟨by simp [h.1], fun i q hq => ?_⟩
  by_cases hi : i < rs.length
  · rw [List.getElem?_append_left hi] at hq
    obtain ⟨a', c', h1, h2⟩ := h.2 i q hq
    exact ⟨a', c', by rw [List.getElem?_append_left (by rw [h.1]; exact hi)]; exact h1, h2⟩
  · rw [List.getElem?_append_right (by omega)] at hq
    have h0 : i - rs.length = 0 := by
      have := (List.getElem?_eq_some_iff.1 hq).1
      simp at this; omega
    rw [h0] at hq
    cases hq
    exact ⟨a, c, by rw [List.getElem?_append_right (by rw [h.1]; omega), h.1, h0]; rfl, hr⟩
theorem RowsI.take {w : World} {cells : List Value} {rs : List (List Int)} (h : RowsI w cells rs) (k : Nat) : RowsI w (cells.take k) (rs.take k) := by
  refine ⟨by simp [h.1], fun i q hq => ?_⟩
  rw [List.getElem?_take] at hq
  split at hq
  · rename_i hi
    obtain ⟨a, c, h1, h2⟩ := h.2 i q hq
    exact ⟨a, c, by rw [List.getElem?_take, if_pos hi]; exact h1, h2⟩
  · cases hq
theorem RowsI.set {w : World} {cells : List Value} {rs : List (List Int)} (h : RowsI w cells rs) (k : Nat) {a : Option Addr} {c n : Nat} {r : List Int} (hn : n = r.length) (hr : Sl w 1 (.slice a n c) n (ints r)) : RowsI w (cells.set k (.slice a n c)) (rs.set k r) := by
  subst hn
  refine ⟨by simp [h.1], fun i q hq => ?_⟩
  rw [List.getElem?_set] at hq
  split at hq
  · rename_i hik
    subst hik
    split at hq
    · cases hq
      rename_i hlt
      exact ⟨a, c, by rw [List.getElem?_set_self (by rw [h.1]; exact hlt)], hr⟩
    · cases hq
  · rename_i hik
    obtain ⟨a', c', h1, h2⟩ := h.2 i q hq
    exact ⟨a', c', by rw [List.getElem?_set_ne hik]; exact h1, h2⟩
theorem RowsI.one {w : World} {cells : List Value} {rs : List (List Int)} (h : RowsI w cells rs) : ∀ u ∈ cells, u.oneCell' = true := by
  intro u hu
  obtain ⟨i, hi⟩ := List.getElem?_of_mem hu
  have hlt := (List.getElem?_eq_some_iff.1 hi).1
  have hlr : i < rs.length := by rw [← h.1]; exact hlt
  obtain ⟨a, c, h1, h2⟩ := h.2 i rs[i] (by rw [List.getElem?_eq_getElem hlr])
  rw [h1] at hi
  cases hi
  rfl
/-- element i of a slice of rows: its cell, and what it says -/
theorem rowI_at {w : World} {a : Option Addr} {n c : Nat} {cells : List Value} {rs : List (List Int)} (hs : Sl w 1 (.slice a n c) n cells) (hr : RowsI w cells rs) (i : Nat) (hi : i < n) :
    ∃ b off av cv, ∃ r, a = some ⟨b, off, none⟩ ∧ rs[i]? = some r ∧ w.cell? ⟨b, off + i, none⟩ = some (.slice av r.length cv) ∧ Sl w 1 (.slice av r.length cv) r.length (ints r) := by
  obtain ⟨b, off, u, ha, hu, hc⟩ := hs.at (k := i) (by omega)
  have hlt := (List.getElem?_eq_some_iff.1 hu).1
  have hlr : i < rs.length := by rw [← hr.1]; exact hlt
  have hri : rs[i]? = some rs[i] := List.getElem?_eq_getElem hlr
  obtain ⟨av, cv, h1, h2⟩ := hr.2 i _ hri
  rw [hu] at h1
  cases h1
  exact ⟨b, off, av, cv, _, ha, hri, hc, h2⟩
theorem rowsI_len {w : World} {a : Option Addr} {n c : Nat} {cells : List Value} {rs : List (List Int)} (hs : Sl w 1 (.slice a n c) n cells) (hr : RowsI w cells rs) : rs.length = n ∧ n ≤ c ∧ c ≤ 9223372036854775807 := by
  have := hs.cap
  have := hr.1
  omega
theorem etII : ET Try.prog 112 43 (.slice none 0 0) 1 24 := ⟨Try.underlying112, by kernel_rfl, rfl, by decide⟩
/-- 'append(nil[:0], make([]byte, k)...)' -/
theorem run_zerosI (w : World) (k : Nat) (h0 : 0 < k) (hk : k ≤ 1073741824) : ∃ c w', (Builtin.append_ #[43, 3] 43 #[.slice none 0 0, .int .i64 k]).run Try.prog w = .ok (.slice (some ⟨w.heap.size, 0, none⟩) k c) w' ∧ Own w' w.heap.size 1 (.slice (some ⟨w.heap.size, 0, none⟩) 0 c) 0 [] ∧ k ≤ c ∧ Below w.heap.size w w' := by
  obtain ⟨i, hi, hz0, hz1, hz2⟩ := info_parts etI.info
  have hg := Lib.run_append_grow_zeros (P := Try.prog) w 43 3 43 3 i (.int .i64 0) .i64 .i64 etI.und Try.underlying3 hi hz0 none 0 0 [] (by simp [Builtin.firstCells]) k h0 (by omega) (by omega) (by omega) (by rw [hz2]; omega) (by rw [hz2]; exact growslice_fits (by omega) (by omega))
  simp only [Nat.zero_add] at hg
  have hge := grownCap_ge w k 0 3
  have hcm : grownCap w k 0 3 ≤ maxLen := grownCap_le_maxLen w k 0 3 (by simp [maxLen]; omega)
  refine ⟨_, _, hg, Own.block 1 (heap_alloc_new w.drew _) (Nat.le_refl _) (by simp) (fun j _ => by simp) ?_ (by omega) hcm (fun j u hu => by simp at hu), hge, ⟨rfl, rfl, rfl, by simp, fun j hj => Below.heap_alloc w.drew _ j hj⟩⟩
  simp only [Array.size_append, size_zeroCells]
  simp [Value.cells]
  omega

set_option maxHeartbeats 400000 in
theorem growI_any (k : Nat) (hk : k ≤ 1073741824) (w : World) : Calls Try.prog 75 #[.slice none 0 0, .int .i64 k] w fun e w' => ∃ v, e = .returned v ∧ Own w' w.heap.size 1 v 0 [] ∧ Below w.heap.size w w' := by
  by_cases h0 : k = 0
  · subst h0
    go_enter Try.func75, Try.ntmps75
    go_wp2_with fail
    go_ret
    exact ⟨_, rfl, Own.nil _ _ _, Below.refl _ _⟩
  · obtain ⟨c, w1, hz, ho, hc, hb⟩ := run_zerosI w k (by omega) hk
    have hk0 : (0 : Int) < k := by omega
    have HZ := Lib.hid hz
    clear hz
    go_enter Try.func75, Try.ntmps75
    go_wp2_with (at_builtin; refine Lib.wpList_append_run w rfl (.tmp 20) (.tmp 21) 43 3 rfl _ _ rfl rfl _ _ HZ.out ?_)
    go_ret
    exact ⟨_, rfl, ho, hb⟩

theorem flatI_snoc (rs : List (List Int)) (k : Nat) (r : List Int) (h : rs[k]? = some r) : (rs.take (k + 1)).flatten = (rs.take k).flatten ++ r := by
  obtain ⟨hk, e⟩ := List.getElem?_eq_some_iff.1 h
  rw [List.take_succ_eq_append_getElem hk, List.flatten_append, e]; simp
theorem flatI_le (rs : List (List Int)) (k : Nat) : (rs.take k).flatten.length ≤ rs.flatten.length := by
  conv => rhs; rw [← List.take_append_drop k rs, List.flatten_append, List.length_append]
  omega
set_option maxHeartbeats 800000 in
theorem concatI_any (a : Option Addr) (n c : Nat) (cells : List Value) (rs : List (List Int)) (w : World) (hs : Sl w 1 (.slice a n c) n cells) (hr : RowsI w cells rs) (ht : rs.flatten.length ≤ 1073741824) :
    Calls Try.prog 51 #[.slice a n c] w fun e w' => ∃ v, e = .returned v ∧ Own w' w.heap.size 1 v rs.flatten.length (ints rs.flatten) ∧ Below w.heap.size w w' := by
  have hn := rowsI_len hs hr
  have HN := Lib.hid hn.1
  have hn2 : n ≤ 9223372036854775807 := by omega
  clear hn
  go_enter Try.func51, Try.ntmps51
  go_wp2_with fail
  go_loop [3, 5, 11] (fun v3 v5 v11 => ∃ k q : Nat, k ≤ n ∧ v11 = .int .i64 k ∧ v3 = .int .i64 q ∧ q = (rs.take k).flatten.length) (fun _ _ v11 => n - (intOf v11).toNat)
  case atStart => exact ⟨0, 0, Nat.zero_le _, rfl, rfl, by simp⟩
  case round =>
    obtain ⟨k, q, hk, rfl, rfl, hq⟩ := hrel
    have hq2 : q ≤ 1073741824 := by have := flatI_le rs k; omega
    by_cases hkn : k = n
    · subst hkn
      rw [← HN.out, List.take_length] at hq
      have HQ := Lib.hid hq
      clear hq
      go_wp2_with fail
      refine (growI_any q hq2 w).mono ?_
      rintro e w1 ⟨v6, rfl, ho, hb⟩
      go_wp2_with fail
      go_loopw [6, 8, 27] (fun v6 v8 v27 wr => ∃ j p : Nat, j ≤ k ∧ v27 = .int .i64 j ∧ p = (rs.take j).flatten.length ∧ Own wr w.heap.size 1 v6 p (ints (rs.take j).flatten) ∧ Below w.heap.size w wr) (fun _ _ v27 _ => k - (intOf v27).toNat)
      case atStart => exact ⟨0, 0, Nat.zero_le _, rfl, by simp, by simpa [ints] using ho, hb⟩
      case round =>
        obtain ⟨j, p, hj, rfl, hp, ho2, hb2⟩ := hrel
        obtain ⟨a6, c6, rfl⟩ := ho2.form
        have HP := Lib.hid hp
        have hp2 : p ≤ 1073741824 := by have := flatI_le rs j; omega
        clear hp
        by_cases hjk : j = k
        · subst hjk
          go_wp2_with fail
          go_ret
          have e : p = rs.flatten.length := by rw [HP.out, ← HN.out, List.take_length]
          rw [← HN.out, List.take_length] at ho2
          rw [← e]
          exact ⟨_, rfl, ho2, hb2⟩
        · have hlt : j < k := by omega
          have hlt' : (j : Int) < k := by omega
          obtain ⟨b, off, av, cv, r, rfl, hri, hc, hsl⟩ := rowI_at (hs.below hb2) (hr.below hb2) j hlt
          have HF := Lib.hid (flatI_snoc rs j r hri)
          have hle : p + r.length ≤ 1073741824 := by
            have h1 := flatI_le rs (j + 1)
            rw [HF.out, List.length_append, ← HP.out] at h1
            omega
          obtain ⟨L, hL⟩ : ∃ L, L = r.length := ⟨_, rfl⟩
          rw [← hL] at hc hsl hle
          have HL := Lib.hid hL
          clear hri hL
          go_wp2_with (at_builtin; refine wpL_append etI rfl _ _ rfl ho2 rfl hsl rfl (ints_one _) (by omega) (by simp [maxLen]; omega) hb2.size ?_; intro v7 w7 ho7 hg7; have hb7 := below_own hb2 ho2 hg7 (Nat.le_refl _) hb2.size; clear hg7)
          refine ⟨⟨j + 1, p + L, by omega, by go_num, by rw [HF.out, List.length_append, ← HP.out, HL.out], ?_, hb7⟩, by simp [intOf]; omega⟩
          rw [HF.out, ints_append]
          exact ho7
    · have hlt : k < n := by omega
      have hlt' : (k : Int) < n := by omega
      obtain ⟨b, off, av, cv, r, rfl, hri, hc, hsl⟩ := rowI_at hs hr k hlt
      have HF := Lib.hid (flatI_snoc rs k r hri)
      have hle : q + r.length ≤ 1073741824 := by
        have h1 := flatI_le rs (k + 1)
        rw [HF.out, List.length_append, ← hq] at h1
        omega
      have HQ := Lib.hid hq
      obtain ⟨L, hL⟩ : ∃ L, L = r.length := ⟨_, rfl⟩
      rw [← hL] at hc hsl hle
      have HL := Lib.hid hL
      clear hri hL hq
      go_wp2_with fail
      exact ⟨⟨k + 1, q + L, by omega, by go_num, by go_num, by rw [HF.out, List.length_append, ← HQ.out, HL.out]⟩, by simp [intOf]; omega⟩


theorem cloneI_any (a : Option Addr) (n c : Nat) (l : List Int) (w : World) (hl : Sl w 1 (.slice a n c) n (ints l)) (hn9 : n ≤ 1073741824) :
    Calls Try.prog 74 #[.slice a n c] w fun e w' => ∃ v, e = .returned v ∧ Own w' w.heap.size 1 v n (ints l) ∧ Below w.heap.size w w' := by
  have hnil := fun w => Lib.run_eql_slice_nil (P := Try.prog) w 43 3 a n c 0 0 Try.underlying43
  cases a with
  | none =>
    obtain rfl : n = 0 := by have := hl.2; obtain ⟨a', c', he, h1, h2, h3, h4⟩ := this; cases he; have := h3 rfl; omega
    have h0 : l = [] := List.eq_nil_of_length_eq_zero (by have := hl.1; rw [ints_length] at this; omega)
    subst h0
    go_enter Try.func74, Try.ntmps74
    go_wp2_with fail
    go_ret
    exact ⟨_, rfl, Own.nil _ _ _, Below.refl _ _⟩
  | some ad =>
    have HL := Lib.hid hl
    clear hl
    go_enter Try.func74, Try.ntmps74
    go_wp2_with (at_builtin; refine wpL_append0 etI rfl _ _ rfl w.heap.size rfl HL.out rfl (ints_one _) (by omega) (by simp [maxLen]; omega) (Nat.le_refl _) ?_; intro v2 w2 hown2 hb2)
    go_ret
    exact ⟨_, rfl, hown2, hb2⟩
/-- the front of a slice -/
theorem wpL_front {P : Program} {w : World} {ops : Array Oper} {rest : List Oper} {o : Oper} {a : Act} {Q : Exit → Act → World → Prop} {t e : TypeId} {z : Value} {bytes : Nat} (hT : ET P t e z 1 bytes)
    (hgd : o.guard = none) (x y : Operand) (ho : o.op = .slice t x none (some y) none) {g off n c h : Nat} (hx : a.eval x = .slice (some ⟨g, off, none⟩) n c) (hy : a.eval y = .int .i64 (h : Int)) (h1 : h ≤ c)
    (hk : wpList P ops Q rest (a.put o.dst (.slice (some ⟨g, off, none⟩) h c)) w) : wpList P ops Q (o :: rest) a w := by
  refine wpList_plain hgd fun _ hK => ?_
  obtain ⟨i, hi', hz0, hz1, hz2⟩ := info_parts hT.info
  have hr := run_cut (P := P) w hT.und (by rw [hi']; simp [hz1]) (some ⟨g, off, none⟩) n c 0 h c none (some (.int .i64 (h : Int))) none (bounds_h w n c h .i64 h1)
  have hu : P.underlying t = some (.slice (P.elem t)) := by
    have := hT.und
    simp [Program.elem, this]
  have hc : cutAddr (some ⟨g, off, none⟩) c 0 = some ⟨g, off, none⟩ := by
    unfold cutAddr
    split
    · rfl
    · simp [add_eq]
  rw [hc] at hr
  unfold Oper.wp execOp
  simp only [ho, hx, Option.map_none, Option.map_some, hy, run_sliceAt_slice _ t _ _ _ _ hu, Sem.run_bind, Sem.run_pure, Result.andThen_ok, hr]
  exact hK _ _ hk
end Go.Proofs.Ytekmgffjdheifaa
