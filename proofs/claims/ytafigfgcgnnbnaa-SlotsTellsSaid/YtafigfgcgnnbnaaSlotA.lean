/-
  Rows of bytes; the library's Equal, IndexFunc, Grow, Concat at bytes; slots' free and write. Conditions: slices read as bytes, rows of bytes.
-/
import Derived.Test.YtafigfgcgnnbnaaRef00
namespace Go.Proofs.Ytafigfgcgnnbnaa
open Go.RowKit
set_option linter.unusedVariables false
set_option linter.unusedSimpArgs false

/-! ### rows of bytes -/
def RowsOf (w : World) (cells : List Value) (rs : List (List UInt8)) : Prop :=
  cells.length = rs.length ∧ ∀ (i : Nat) (r : List UInt8), rs[i]? = some r → ∃ (a : Option Addr) (c : Nat), cells[i]? = some (Value.slice a r.length c) ∧ Sl w 1 (.slice a r.length c) r.length (bvs r)
theorem RowsOf.below {w w' : World} {cells : List Value} {rs : List (List UInt8)} (h : RowsOf w cells rs) (hb : Below w.heap.size w w') : RowsOf w' cells rs :=
  ⟨h.1, fun i r hr => let ⟨a, c, h1, h2⟩ := h.2 i r hr; ⟨a, c, h1, h2.below hb⟩⟩
theorem RowsOf.drew {w : World} {cells : List Value} {rs : List (List UInt8)} (h : RowsOf w cells rs) : RowsOf w.drew cells rs := h.below (Below.refl _ _).drew
theorem RowsOf.nil (w : World) : RowsOf w [] [] := ⟨rfl, fun i r h => by simp at h⟩
theorem RowsOf.snoc {w : World} {cells : List Value} {rs : List (List UInt8)} (h : RowsOf w cells rs) {a : Option Addr} {c n : Nat} {r : List UInt8} (hn : n = r.length) (hr : Sl w 1 (.slice a n c) n (bvs r)) : RowsOf w (cells ++ [.slice a n c]) (rs ++ [r]) := by
  subst hn
  refine ⟨by simp [h.1], fun i q hq => ?_⟩
  by_cases hi : i < rs.length
  · rw [List.getElem?_append_left hi] at hq
    obtain ⟨a', c', h1, h2⟩ := h.2 i q hq
    exact ⟨a', c', by rw [List.getElem?_append_left (by rw [h.1]; exact hi)]; exact h1, h2⟩
  · rw [List.getElem?_append_right (by omega)] at hq
    have h0 : i - rs.length = 0 := by
      have := (List.getElem?_eq_some_iff.1 hq).1
      simp at this; omega
    rw [h0] at hq
    cases hq
    exact ⟨a, c, by rw [List.getElem?_append_right (by rw [h.1]; omega), h.1, h0]; rfl, hr⟩
theorem RowsOf.take {w : World} {cells : List Value} {rs : List (List UInt8)} (h : RowsOf w cells rs) (k : Nat) : RowsOf w (cells.take k) (rs.take k) := by
  refine ⟨by simp [h.1], fun i q hq => ?_⟩
  rw [List.getElem?_take] at hq
  split at hq
  · rename_i hi
    obtain ⟨a, c, h1, h2⟩ := h.2 i q hq
    exact ⟨a, c, by rw [List.getElem?_take, if_pos hi]; exact h1, h2⟩
  · cases hq
theorem RowsOf.set {w : World} {cells : List Value} {rs : List (List UInt8)} (h : RowsOf w cells rs) (k : Nat) {a : Option Addr} {c n : Nat} {r : List UInt8} (hn : n = r.length) (hr : Sl w 1 (.slice a n c) n (bvs r)) : RowsOf w (cells.set k (.slice a n c)) (rs.set k r) := by
  subst hn
  refine ⟨by simp [h.1], fun i q hq => ?_⟩
  rw [List.getElem?_set] at hq
  split at hq
  · rename_i hik
    subst hik
    split at hq
    · cases hq
      rename_i hlt
      exact ⟨a, c, by rw [List.getElem?_set_self (by rw [h.1]; exact hlt)], hr⟩
    · cases hq
  · rename_i hik
    obtain ⟨a', c', h1, h2⟩ := h.2 i q hq
    exact ⟨a', c', by rw [List.getElem?_set_ne hik]; exact h1, h2⟩
theorem RowsOf.one {w : World} {cells : List Value} {rs : List (List UInt8)} (h : RowsOf w cells rs) : ∀ u ∈ cells, u.oneCell' = true := by
  intro u hu
  obtain ⟨i, hi⟩ := List.getElem?_of_mem hu
  have hlt := (List.getElem?_eq_some_iff.1 hi).1
  have hlr : i < rs.length := by rw [← h.1]; exact hlt
  obtain ⟨a, c, h1, h2⟩ := h.2 i rs[i] (by rw [List.getElem?_eq_getElem hlr])
  rw [h1] at hi
  cases hi
  rfl
/-- element i of a slice of rows: its cell, and what it says -/
theorem row_at {w : World} {a : Option Addr} {n c : Nat} {cells : List Value} {rs : List (List UInt8)} (hs : Sl w 1 (.slice a n c) n cells) (hr : RowsOf w cells rs) (i : Nat) (hi : i < n) :
    ∃ b off av cv, ∃ r, a = some ⟨b, off, none⟩ ∧ rs[i]? = some r ∧ w.cell? ⟨b, off + i, none⟩ = some (.slice av r.length cv) ∧ Sl w 1 (.slice av r.length cv) r.length (bvs r) := by
  obtain ⟨b, off, u, ha, hu, hc⟩ := hs.at (k := i) (by omega)
  have hlt := (List.getElem?_eq_some_iff.1 hu).1
  have hlr : i < rs.length := by rw [← hr.1]; exact hlt
  have hri : rs[i]? = some rs[i] := List.getElem?_eq_getElem hlr
  obtain ⟨av, cv, h1, h2⟩ := hr.2 i _ hri
  rw [hu] at h1
  cases h1
  exact ⟨b, off, av, cv, _, ha, hri, hc, h2⟩
theorem rows_len {w : World} {a : Option Addr} {n c : Nat} {cells : List Value} {rs : List (List UInt8)} (hs : Sl w 1 (.slice a n c) n cells) (hr : RowsOf w cells rs) : rs.length = n ∧ n ≤ c ∧ c ≤ 9223372036854775807 := by
  have := hs.cap
  have := hr.1
  omega
theorem etBB : ET Try.prog 29 22 (.slice none 0 0) 1 24 := ⟨Try.underlying29, by kernel_rfl, rfl, by decide⟩

/-! ### Equal -/
set_option maxHeartbeats 400000 in
theorem equal_any (a : Option Addr) (n c : Nat) (a2 : Option Addr) (m c2 : Nat) (l s : List UInt8) (w : World) (hl : Sl w 1 (.slice a n c) n (bvs l)) (hs : Sl w 1 (.slice a2 m c2) m (bvs s)) :
    Calls Try.prog 39 #[.slice a n c, .slice a2 m c2] w fun e w' => e = .returned (.bool (decide (l = s))) ∧ Below w.heap.size w w' := by
  have h1 := hl.len
  have h2 := hs.len
  have HN := Lib.hid (And.intro h1.1 h2.1)
  by_cases hnm : n = m
  · subst hnm
    have hn := h1.2.1
    clear h1 h2
    have hq : ((n : Int) != n) = false := by simp
    go_enter Try.func39, Try.ntmps39
    go_wp2_with fail
    go_loopw [5, 13] (fun v5 v13 wr => ∃ k : Nat, k ≤ n ∧ v13 = .int .i64 k ∧ l.take k = s.take k ∧ Below w.heap.size w wr) (fun _ v13 _ => n - (intOf v13).toNat)
    case atStart => exact ⟨0, Nat.zero_le _, rfl, by simp, Below.refl _ _⟩
    case round =>
      obtain ⟨k, hk, rfl, ht, hb⟩ := hrel
      have HT := Lib.hid ht
      clear ht
      by_cases hkn : k = n
      · subst hkn
        go_wp2_with fail
        go_ret
        have e := HT.out
        rw [List.take_of_length_le (by rw [HN.out.1]; exact Nat.le_refl _), List.take_of_length_le (by rw [HN.out.2]; exact Nat.le_refl _)] at e
        exact ⟨ret_bool (decide_eq_true e).symm, hb⟩
      · have hlt : k < n := by omega
        have hlt' : (k : Int) < n := by omega
        obtain ⟨b1, o1, rfl, hc1⟩ := (hl.below hb).byte hlt
        obtain ⟨b2, o2, rfl, hc2⟩ := (hs.below hb).byte hlt
        have HT1 : Hid (l.take (k + 1) = l.take k ++ [l.getD k 0]) := take_snoc l k (by rw [HN.out.1]; exact hlt)
        have HT2 : Hid (s.take (k + 1) = s.take k ++ [s.getD k 0]) := take_snoc s k (by rw [HN.out.2]; exact hlt)
        obtain ⟨x, hx⟩ : ∃ x, x = l.getD k 0 := ⟨_, rfl⟩
        obtain ⟨y, hy⟩ : ∃ y, y = s.getD k 0 := ⟨_, rfl⟩
        rw [← hx] at hc1 HT1
        rw [← hy] at hc2 HT2
        clear hx hy
        by_cases hxy : x = y
        · subst hxy
          go_wp2_with fail
          go_quiet (fail)
          go_wp2_with fail
          exact ⟨⟨k + 1, by omega, by go_num, by rw [HT1.out, HT2.out, HT.out], below_drewN hb _⟩, by simp [intOf]; omega⟩
        · have hne : ((x.toNat : Int) != y.toNat) = true := by
            rw [bne_iff_ne]
            intro h
            exact hxy (UInt8.toNat_inj.1 (by omega))
          go_wp2_with fail
          go_quiet (fail)
          go_wp2_with fail
          go_ret
          refine ⟨ret_bool ?_, below_drewN hb _⟩
          symm
          rw [decide_eq_false_iff_not]
          intro h
          have e1 := HT1.out
          have e2 := HT2.out
          rw [h] at e1
          rw [e1] at e2
          have := (List.append_inj' e2 rfl).2
          simp at this
          exact hxy this
  · have hq : ((n : Int) != m) = true := by rw [bne_iff_ne]; omega
    clear h1 h2
    go_enter Try.func39, Try.ntmps39
    go_wp2_with fail
    go_ret
    refine ⟨ret_bool ?_, Below.refl _ _⟩
    symm
    rw [decide_eq_false_iff_not]
    intro h
    have := HN.out
    rw [h] at this
    omega

/-! ### free -/
def idxF (rs : List (List UInt8)) (n : Nat) : Int := if rs.findIdx (·.isEmpty) < n then (rs.findIdx (·.isEmpty) : Int) else -1
def freeL (rs : List (List UInt8)) : Nat := rs.findIdx (·.isEmpty)
theorem free1_any (a : Option Addr) (n c : Nat) (w : World) : Calls Try.prog 41 #[.slice a n c] w fun e w' => e = .returned (.bool ((n : Int) == 0)) ∧ w = w' := by
  go_enter Try.func41, Try.ntmps41
  go_wp2_with fail
  go_ret
  exact ⟨rfl, rfl⟩
theorem ret_int {k : IntKind} {a b : Int} (h : a = b) : Ending.returned (.int k a) = .returned (.int k b) := by rw [h]
theorem findIdx_at (rs : List (List UInt8)) (k : Nat) (h : k < rs.length) (h1 : rs[k].isEmpty = true) (h2 : ∀ j (h : j < k) (hj : j < rs.length), rs[j].isEmpty = false) : freeL rs = k := by
  unfold freeL
  rw [List.findIdx_eq h]
  exact ⟨h1, fun j hj => h2 j hj (by omega)⟩
set_option maxHeartbeats 400000 in
theorem indexFunc_any (a : Option Addr) (n c : Nat) (cells : List Value) (rs : List (List UInt8)) (w : World) (hs : Sl w 1 (.slice a n c) n cells) (hr : RowsOf w cells rs) :
    Calls Try.prog 40 #[.slice a n c, .func (.func 41) #[] #[]] w fun e w' => e = .returned (.int .i64 (idxF rs n)) ∧ w = w' := by
  have hn := rows_len hs hr
  have HN := Lib.hid hn.1
  have hn2 : n ≤ 9223372036854775807 := by omega
  clear hn
  go_enter Try.func40, Try.ntmps40
  go_wp2_with fail
  go_loop [5, 8] (fun v5 v8 => ∃ k : Nat, k ≤ n ∧ v8 = .int .i64 k ∧ ∀ j (h : j < k) (hj : j < rs.length), rs[j].isEmpty = false) (fun _ v8 => n - (intOf v8).toNat)
  case atStart => exact ⟨0, Nat.zero_le _, rfl, fun j h => by omega⟩
  case round =>
    obtain ⟨k, hk, rfl, hj⟩ := hrel
    have HJ := Lib.hid hj
    clear hj
    by_cases hkn : k = n
    · subst hkn
      go_wp2_with fail
      go_ret
      refine ⟨ret_int ?_, rfl⟩
      have : ¬ freeL rs < k := by
        unfold freeL
        intro h
        have h2 : rs.findIdx (·.isEmpty) < rs.length := by rw [HN.out]; exact h
        have h3 := List.findIdx_getElem (w := h2)
        rw [HJ.out _ h h2] at h3
        cases h3
      unfold freeL at this; unfold idxF; rw [if_neg this]
    · have hlt : k < n := by omega
      have hlt' : (k : Int) < n := by omega
      obtain ⟨b, off, av, cv, r, rfl, hri, hc, hsl⟩ := row_at hs hr k hlt
      have HR := Lib.hid hri
      clear hri hs
      by_cases h0 : r = []
      · subst h0
        have e0 : Hid (freeL rs = k) := by
          have hk2 : k < rs.length := by rw [HN.out]; exact hlt
          refine findIdx_at rs k hk2 ?_ HJ.out
          have := HR.out
          rw [List.getElem?_eq_getElem hk2] at this
          rw [Option.some.inj this]; rfl
        rw [List.length_nil] at hc
        go_wp2_with (go_at_call 41; refine (free1_any av 0 cv _).mono ?_; rintro e w' ⟨rfl, rfl⟩)
        go_ret
        exact ⟨ret_int (by unfold idxF; have e := e0.out; unfold freeL at e; rw [e, if_pos hlt]), rfl⟩
      · have hl : 0 < r.length := List.length_pos_iff.2 h0
        have hl2 : ((r.length : Int) == 0) = false := by rw [beq_eq_false_iff_ne]; omega
        obtain ⟨q, hq⟩ : ∃ q, q = r.length := ⟨_, rfl⟩
        rw [← hq] at hc hl2
        clear hsl hl hq
        go_wp2_with (go_at_call 41; refine (free1_any av q cv _).mono ?_; rintro e w' ⟨rfl, rfl⟩)
        refine ⟨⟨k + 1, by omega, by go_num, fun j h hj => ?_⟩, by simp [intOf]; omega⟩
        by_cases hjk : j < k
        · exact HJ.out j hjk hj
        · obtain rfl : j = k := by omega
          have := HR.out
          rw [List.getElem?_eq_getElem hj] at this
          rw [Option.some.inj this]
          simpa using h0
theorem free_any (a : Option Addr) (n c : Nat) (cells : List Value) (rs : List (List UInt8)) (w : World) (hs : Sl w 1 (.slice a n c) n cells) (hr : RowsOf w cells rs) :
    Calls Try.prog 32 #[.slice a n c] w fun e w' => e = .returned (.int .i64 (freeL rs)) ∧ w = w' := by
  have hn := rows_len hs hr
  have HN := Lib.hid hn.1
  have hn2 : n ≤ 9223372036854775807 := by omega
  have hle : freeL rs ≤ n := by rw [← hn.1]; exact List.findIdx_le_length
  clear hn
  by_cases hf : freeL rs < n
  · obtain ⟨k, hk⟩ : ∃ k, k = freeL rs := ⟨_, rfl⟩
    have hi := indexFunc_any a n c cells rs w hs hr
    have hI : idxF rs n = k := by rw [hk]; exact if_pos hf
    rw [hI] at hi
    have HI := Lib.hid hi
    rw [← hk]
    clear hi hI hk hf hle hs hr
    go_enter Try.func32, Try.ntmps32
    go_wp2_with fail
    refine HI.out.mono ?_
    rintro e w' ⟨rfl, rfl⟩
    go_wp2_with fail
    go_ret
    exact ⟨rfl, rfl⟩
  · have hi := indexFunc_any a n c cells rs w hs hr
    rw [show idxF rs n = -1 from if_neg hf] at hi
    have HI := Lib.hid hi
    have HE : Hid (freeL rs = n) := by show _ = _; omega
    clear hi hf hle hs hr
    go_enter Try.func32, Try.ntmps32
    go_wp2_with fail
    refine HI.out.mono ?_
    rintro e w' ⟨rfl, rfl⟩
    go_wp2_with fail
    go_ret
    exact ⟨ret_int (by rw [HE.out]), rfl⟩
end Go.Proofs.Ytafigfgcgnnbnaa
