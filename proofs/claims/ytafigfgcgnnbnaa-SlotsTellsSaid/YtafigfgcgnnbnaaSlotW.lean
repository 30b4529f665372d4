/-
  law 09's works, same and long.
-/
import Derived.Test.YtafigfgcgnnbnaaSlotT
import Derived.Test.YtafigfgcgnnbnaaGen
import Derived.Test.YtafigfgcgnnbnaaSlotU
namespace Go.Proofs.Ytafigfgcgnnbnaa
open Go.RowKit
set_option linter.unusedVariables false
set_option linter.unusedSimpArgs false

theorem wput1 (a : Option Addr) (n c : Nat) (w : World) (hp : Sl w 1 (.slice a n c) n (bvs [0])) (hn : n = 1) (a2 : Option Addr) (m c2 : Nat) (hr : Sl w 1 (.slice a2 m c2) m (bvs [170, 187])) (hm : m = 2) :
    Calls Try.prog 11 #[.slice a n c, .slice a2 m c2] w fun e w' => ∃ v, e = .returned (.tuple #[v, .int .i64 0, .bool true]) ∧ Own w' w.heap.size 1 v 4 (bvs [1, 2, 170, 187]) ∧ Below w.heap.size w w' := by
  have h := put_any a n c _ a2 m c2 _ w hp (by omega) hr (by omega)
  have e1 : putS [0] [170, 187] = 0 := by decide +kernel
  have e2 : putIs [0] [170, 187] = true := by decide +kernel
  have e3 : putQ [0] [170, 187] = [1, 2, 170, 187] := by decide +kernel
  rw [e1, e2, e3] at h
  exact h
theorem wput2 (a : Option Addr) (n c : Nat) (w : World) (hp : Sl w 1 (.slice a n c) n (bvs [1, 2, 170, 187])) (hn : n = 4) (a2 : Option Addr) (m c2 : Nat) (hr : Sl w 1 (.slice a2 m c2) m (bvs [204])) (hm : m = 1) :
    Calls Try.prog 11 #[.slice a n c, .slice a2 m c2] w fun e w' => ∃ v, e = .returned (.tuple #[v, .int .i64 1, .bool true]) ∧ Own w' w.heap.size 1 v 6 (bvs [2, 2, 1, 170, 187, 204]) ∧ Below w.heap.size w w' := by
  have h := put_any a n c _ a2 m c2 _ w hp (by omega) hr (by omega)
  have e1 : putS [1, 2, 170, 187] [204] = 1 := by decide +kernel
  have e2 : putIs [1, 2, 170, 187] [204] = true := by decide +kernel
  have e3 : putQ [1, 2, 170, 187] [204] = [2, 2, 1, 170, 187, 204] := by decide +kernel
  rw [e1, e2, e3] at h
  exact h
theorem wdrop (a : Option Addr) (n c : Nat) (w : World) (hp : Sl w 1 (.slice a n c) n (bvs [2, 2, 1, 170, 187, 204])) (hn : n = 6) :
    Calls Try.prog 16 #[.slice a n c, .int .i64 0] w fun e w' => ∃ v, e = .returned (.tuple #[v, .bool true]) ∧ Own w' w.heap.size 1 v 4 (bvs [2, 0, 1, 204]) ∧ Below w.heap.size w w' := by
  have h := drop_any a n c _ w 0 hp (by omega)
  have e2 : getIs [2, 2, 1, 170, 187, 204] 0 = true := by decide +kernel
  have e3 : dropQ [2, 2, 1, 170, 187, 204] 0 = [2, 0, 1, 204] := by decide +kernel
  rw [e2, e3] at h
  exact h
theorem wget (a : Option Addr) (n c : Nat) (w : World) (hp : Sl w 1 (.slice a n c) n (bvs [2, 0, 1, 204])) (hn : n = 4) :
    Calls Try.prog 22 #[.slice a n c, .int .i64 1] w fun e w' => ∃ v, e = .returned (.tuple #[v, .bool true]) ∧ Own w' w.heap.size 1 v 1 (bvs [204]) ∧ Below w.heap.size w w' := by
  have h := get_any a n c _ w 1 hp (by omega)
  have e2 : getIs [2, 0, 1, 204] 1 = true := by decide +kernel
  have e3 : getR [2, 0, 1, 204] 1 = [204] := by decide +kernel
  rw [e2, e3] at h
  exact h
theorem wroom (a : Option Addr) (n c : Nat) (w : World) (hp : Sl w 1 (.slice a n c) n (bvs [0])) (hn : n = 1) :
    Calls Try.prog 20 #[.slice a n c] w fun e w' => e = .returned (.int .i64 246) ∧ Below w.heap.size w w' := by
  have h := room_any a n c _ w hp (by omega)
  have e2 : roomN [0] = 246 := by decide +kernel
  rw [e2] at h
  exact h

set_option maxHeartbeats 1000000 in
theorem works_any (w : World) : Calls Try.prog 9 #[] w fun e w' => e = .returned (.bool true) ∧ Below w.heap.size w w' := by
  go_enter Try.func9, Try.ntmps9
  go_wp2_with fail
  refine (empty_any w).mono ?_
  rintro e w1 ⟨v1, rfl, ho1, hb1⟩
  obtain ⟨a1, c1, rfl⟩ := ho1.form
  have hs1 := Sl.lit w1 (bvs [170, 187]) 5 2 rfl (by decide)
  have hB1 := hb1.alloc hb1.size (.cells (bvs [170, 187]).toArray 5)
  have hp1 := ho1.alloc (.cells (bvs [170, 187]).toArray 5)
  go_wp2_with fail
  refine (wput1 a1 1 c1 _ hp1.sl rfl _ 2 2 hs1 rfl).mono ?_
  rintro e w2 ⟨v2, rfl, ho2, hb2⟩
  obtain ⟨a2, c2, rfl⟩ := ho2.form
  have hB2 := hB1.trans (hb2.mono hB1.size)
  go_wp2_with fail
  have hs2 := Sl.lit w2 (bvs [204]) 5 1 rfl (by decide)
  have hB3 := hB2.alloc hB2.size (.cells (bvs [204]).toArray 5)
  have hp2 := ho2.alloc (.cells (bvs [204]).toArray 5)
  refine (wput2 a2 4 c2 _ hp2.sl rfl _ 1 1 hs2 rfl).mono ?_
  rintro e w3 ⟨v3, rfl, ho3, hb3⟩
  obtain ⟨a3, c3, rfl⟩ := ho3.form
  have hB4 := hB3.trans (hb3.mono hB3.size)
  go_wp2_with fail
  refine (wdrop a3 6 c3 _ ho3.sl rfl).mono ?_
  rintro e w4 ⟨v4, rfl, ho4, hb4⟩
  obtain ⟨a4, c4, rfl⟩ := ho4.form
  have hB5 := hB4.trans (hb4.mono hB4.size)
  go_wp2_with fail
  refine (wget a4 4 c4 _ ho4.sl rfl).mono ?_
  rintro e w5 ⟨v5, rfl, ho5, hb5⟩
  obtain ⟨b5, o5, c5, rfl, g1, g2, g3, g4, g5⟩ := ho5.open (by omega) (by decide)
  have hc5 := ho5.get 0 (by decide)
  rw [Nat.add_zero] at hc5
  have hB6 := hB5.trans (hb5.mono hB5.size)
  have hc6 : w5.cell? ⟨b5, o5, none⟩ = some (.int .u8 204) := hc5
  clear g5 hc5
  go_wp2_with fail
  refine (empty_any w5).mono ?_
  rintro e w6 ⟨v6, rfl, ho6, hb6⟩
  obtain ⟨a6, c6, rfl⟩ := ho6.form
  have hB7 := hB6.trans (hb6.mono hB6.size)
  go_wp2_with fail
  refine (wroom a6 1 c6 _ ho6.sl rfl).mono ?_
  rintro e w7 ⟨rfl, hb7⟩
  have hB8 := hB7.trans (hb7.mono hB7.size)
  go_wp2_with fail
  go_ret
  exact ⟨rfl, hB8⟩

theorem ints_take (l : List Int) (k : Nat) (h : k < l.length) : l.take (k + 1) = l.take k ++ [l.getD k 0] := by
  rw [List.take_succ_eq_append_getElem h, List.getD_eq_getElem?_getD, List.getElem?_eq_getElem h]; rfl
theorem Sl.intAt {w : World} {a : Option Addr} {n c k : Nat} {l : List Int} (h : Sl w 1 (.slice a n c) n (ints l)) (hk : k < n) : ∃ b off, a = some ⟨b, off, none⟩ ∧ w.cell? ⟨b, off + k, none⟩ = some (.int .i64 (l.getD k 0)) := by
  obtain ⟨b, off, u, ha, hu, hc⟩ := h.at (k := k) (by omega)
  have hl := h.cap.2.2.2
  rw [ints_length, Nat.mul_one] at hl
  rw [ints_get l k (by omega)] at hu
  cases hu
  exact ⟨b, off, ha, hc⟩
theorem Sl.intLen {w : World} {a : Option Addr} {n c : Nat} {l : List Int} (h : Sl w 1 (.slice a n c) n (ints l)) : l.length = n ∧ n ≤ 9223372036854775807 := by
  have hl := h.cap
  rw [ints_length, Nat.mul_one] at hl
  omega
set_option maxHeartbeats 400000 in
theorem same_any (a : Option Addr) (n c : Nat) (a2 : Option Addr) (m c2 : Nat) (l s : List Int) (w : World) (hl : Sl w 1 (.slice a n c) n (ints l)) (hs : Sl w 1 (.slice a2 m c2) m (ints s)) :
    Calls Try.prog 26 #[.slice a n c, .slice a2 m c2] w fun e w' => e = .returned (.bool (decide (l = s))) ∧ Below w.heap.size w w' := by
  have h1 := hl.intLen
  have h2 := hs.intLen
  have HN := Lib.hid (And.intro h1.1 h2.1)
  by_cases hnm : n = m
  · subst hnm
    have hn := h1.2
    clear h1 h2
    have hq : ((n : Int) != n) = false := by simp
    go_enter Try.func26, Try.ntmps26
    go_wp2_with fail
    go_loopw [5] (fun v5 wr => ∃ k : Nat, k ≤ n ∧ v5 = .int .i64 k ∧ l.take k = s.take k ∧ Below w.heap.size w wr) (fun v5 _ => n - (intOf v5).toNat)
    case atStart => exact ⟨0, Nat.zero_le _, rfl, by simp, Below.refl _ _⟩
    case round =>
      obtain ⟨k, hk, rfl, ht, hb⟩ := hrel
      have HT := Lib.hid ht
      clear ht
      by_cases hkn : k = n
      · subst hkn
        go_wp2_with fail
        go_ret
        have e := HT.out
        rw [List.take_of_length_le (by rw [HN.out.1]; exact Nat.le_refl _), List.take_of_length_le (by rw [HN.out.2]; exact Nat.le_refl _)] at e
        exact ⟨ret_bool (decide_eq_true e).symm, hb⟩
      · have hlt : k < n := by omega
        have hlt' : (k : Int) < n := by omega
        obtain ⟨b1, o1, rfl, hc1⟩ := (hl.below hb).intAt hlt
        obtain ⟨b2, o2, rfl, hc2⟩ := (hs.below hb).intAt hlt
        have HT1 : Hid (l.take (k + 1) = l.take k ++ [l.getD k 0]) := ints_take l k (by rw [HN.out.1]; exact hlt)
        have HT2 : Hid (s.take (k + 1) = s.take k ++ [s.getD k 0]) := ints_take s k (by rw [HN.out.2]; exact hlt)
        obtain ⟨x, hx⟩ : ∃ x, x = l.getD k 0 := ⟨_, rfl⟩
        obtain ⟨y, hy⟩ : ∃ y, y = s.getD k 0 := ⟨_, rfl⟩
        rw [← hx] at hc1 HT1
        rw [← hy] at hc2 HT2
        clear hx hy
        by_cases hxy : x = y
        · subst hxy
          have hqq : (x != x) = false := by simp
          go_wp2_with fail
          go_quiet (fail)
          go_wp2_with fail
          exact ⟨⟨k + 1, by omega, by go_num, by rw [HT1.out, HT2.out, HT.out], below_drewN hb _⟩, by simp [intOf]; omega⟩
        · have hne : (x != y) = true := by
            rw [bne_iff_ne]; exact hxy
          have HXY := Lib.hid hxy
          clear hxy
          go_wp2_with fail
          go_quiet (fail)
          go_wp2_with fail
          go_ret
          refine ⟨ret_bool ?_, below_drewN hb _⟩
          symm
          rw [decide_eq_false_iff_not]
          intro h
          have e1 := HT1.out
          have e2 := HT2.out
          rw [h] at e1
          rw [e1] at e2
          have := (List.append_inj' e2 rfl).2
          simp at this
          exact HXY.out this
  · have hq : ((n : Int) != m) = true := by rw [bne_iff_ne]; omega
    clear h1 h2
    go_enter Try.func26, Try.ntmps26
    go_wp2_with fail
    go_ret
    refine ⟨ret_bool ?_, Below.refl _ _⟩
    symm
    rw [decide_eq_false_iff_not]
    intro h
    have := HN.out
    rw [h] at this
    omega

/-! ### steps -/
def VStep : World → List Value → List UInt8 × Int → Prop := VRec2 1 1 (VSl VByte 1) (VInt .i64)
theorem opensStep : Opens Try.prog 37 2 VStep := opens_rec2 Try.underlying37 (by kernel_rfl) rfl rfl rfl rfl (opens_sl (opens_byte Try.underlying5 (by kernel_rfl)) (by decide) Try.underlying22 (by kernel_rfl)) (opens_int Try.underlying3 (by kernel_rfl))
theorem stabStep : Stab VStep := stab_rec2 (stab_sl stab_byte) (stab_int _)
theorem step_at {w : World} {a : Option Addr} {m c : Nat} {l : List (List UInt8 × Int)} (h : SlOf VStep 2 w (.slice a m c) l) (i : Nat) (hi : i < m) :
    ∃ b off av cv, ∃ n : Nat, ∃ r z, a = some ⟨b, off, none⟩ ∧ l[i]? = some (r, z) ∧ r.length = n ∧ (-9223372036854775808 ≤ z ∧ z ≤ 9223372036854775807) ∧ Sl w 1 (.slice av n cv) n (bvs r) ∧ w.cell? ⟨b, off + i * 2, none⟩ = some (.slice av n cv) ∧ w.cell? ⟨b, off + i * 2 + 1, none⟩ = some (.int .i64 z) := by
  have hm := h.len.1
  have hi2 : i < l.length := by omega
  obtain ⟨b, off, cs, ha, hl, ⟨c0, c1, rfl, l0, l1, ⟨v, rfl, hv⟩, ⟨rfl, w1⟩⟩, hc⟩ := h.at i hi2
  obtain ⟨av, cv, rfl, _⟩ := hv.form
  have h0 := hc 0 (by decide)
  have h1 := hc 1 (by decide)
  have hr : ∃ r z, l[i] = (r, z) := ⟨_, _, rfl⟩
  obtain ⟨r, z, e⟩ := hr
  rw [e] at hv h0 h1 w1
  refine ⟨b, off, av, cv, _, r, z, ha, by rw [List.getElem?_eq_getElem hi2, e], rfl, ?_, hv.bytes, by simpa using h0, by simpa using h1⟩
  have e9 : IntKind.i64.min = -9223372036854775808 := by decide
  simp [Lit.wf, e9] at w1
  omega
def Short (l : List (List UInt8 × Int)) : Prop := l.length ≤ 100 ∧ ∀ (i : Nat) (r : List UInt8) (z : Int), l[i]? = some (r, z) → r.length ≤ 512
set_option maxHeartbeats 400000 in
theorem long_any (a : Option Addr) (n c : Nat) (l : List (List UInt8 × Int)) (w : World) (hl : SlOf VStep 2 w (.slice a n c) l) :
    Calls Try.prog 18 #[.slice a n c] w fun e w' => ∃ B, e = .returned (.bool B) ∧ (B = false → Short l) ∧ Below w.heap.size w w' := by
  have hn := hl.len
  have HN := Lib.hid hn.1
  have hn2 := hn.2
  clear hn
  by_cases h1 : 100 < n
  · have h1' : (100 : Int) < n := by omega
    go_enter Try.func18, Try.ntmps18
    go_wp2_with fail
    go_ret
    exact ⟨true, rfl, (fun h => by cases h), Below.refl _ _⟩
  have h1' : ¬ (100 : Int) < n := by omega
  go_enter Try.func18, Try.ntmps18
  go_wp2_with fail
  go_loopw [3] (fun v3 wr => ∃ k : Nat, k ≤ n ∧ v3 = .int .i64 k ∧ (∀ (i : Nat) (r : List UInt8) (z : Int), i < k → l[i]? = some (r, z) → r.length ≤ 512) ∧ Below w.heap.size w wr) (fun v3 _ => n - (intOf v3).toNat)
  case atStart => exact ⟨0, Nat.zero_le _, rfl, (fun i r z h => by omega), Below.refl _ _⟩
  case round =>
    obtain ⟨k, hk, rfl, ha, hb⟩ := hrel
    have HA := Lib.hid ha
    clear ha
    by_cases hkn : k = n
    · subst hkn
      go_wp2_with fail
      go_ret
      refine ⟨false, rfl, fun _ => ⟨by rw [← HN.out]; omega, fun i r z h => HA.out i r z ?_ h⟩, hb⟩
      have h8 := (List.getElem?_eq_some_iff.1 h).1
      have h9 := HN.out
      omega
    · have hlt : k < n := by omega
      have hlt' : (k : Int) < n := by omega
      obtain ⟨b, off, av, cv, m, r, z, rfl, hri, hrm, hz, hsl, hc0, hc1⟩ := step_at (hl.below stabStep hb) k hlt
      have HRI := Lib.hid hri
      have HRM := Lib.hid hrm
      clear hri hrm
      by_cases h5 : 512 < m
      · have h5' : (512 : Int) < m := by omega
        go_wp2_with fail
        go_ret
        exact ⟨true, rfl, (fun h => by cases h), hb⟩
      · have h5' : ¬ (512 : Int) < m := by omega
        go_wp2_with fail
        refine ⟨⟨k + 1, by omega, by go_num, fun i r' z' hi h => ?_, hb⟩, by simp [intOf]; omega⟩
        by_cases hik : i < k
        · exact HA.out i r' z' hik h
        · obtain rfl : i = k := by omega
          rw [HRI.out] at h
          cases h
          have := HRM.out
          omega
end Go.Proofs.Ytafigfgcgnnbnaa
