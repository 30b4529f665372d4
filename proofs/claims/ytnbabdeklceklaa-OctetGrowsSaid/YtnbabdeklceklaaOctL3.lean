/-
  OctetGrows, walked.
-/
import Derived.Test.YtnbabdeklceklaaOctW
namespace Go.Proofs.Ytnbabdeklceklaa
open Go.RowKit
set_option linter.unusedVariables false

theorem grow_dig (x : Nat) (hx : x < 18446744073709551616) : ∀ i, i < 8 → (x + 1) % 18446744073709551616 / 256 ^ i % 256 = (x / 256 ^ i % 256 + (if x % 256 ^ i = 256 ^ i - 1 then 1 else 0)) % 256
  | 0, _ => by simp only [Nat.reducePow]; split <;> omega
  | 1, _ => by simp only [Nat.reducePow]; split <;> omega
  | 2, _ => by simp only [Nat.reducePow]; split <;> omega
  | 3, _ => by simp only [Nat.reducePow]; split <;> omega
  | 4, _ => by simp only [Nat.reducePow]; split <;> omega
  | 5, _ => by simp only [Nat.reducePow]; split <;> omega
  | 6, _ => by simp only [Nat.reducePow]; split <;> omega
  | 7, _ => by simp only [Nat.reducePow]; split <;> omega
  | i + 8, h => by omega
def carryB (x i : Nat) : Bool := decide (x % 256 ^ i = 256 ^ i - 1)
theorem grow_carry (x : Nat) : ∀ i, i < 8 → carryB x (i + 1) = (carryB x i && decide (x / 256 ^ i % 256 = 255))
  | 0, _ => by simp only [carryB, Nat.reducePow, Nat.zero_add, ← Bool.decide_and]; congr 1; apply propext; omega
  | 1, _ => by simp only [carryB, Nat.reducePow, Nat.reduceAdd, ← Bool.decide_and]; congr 1; apply propext; omega
  | 2, _ => by simp only [carryB, Nat.reducePow, Nat.reduceAdd, ← Bool.decide_and]; congr 1; apply propext; omega
  | 3, _ => by simp only [carryB, Nat.reducePow, Nat.reduceAdd, ← Bool.decide_and]; congr 1; apply propext; omega
  | 4, _ => by simp only [carryB, Nat.reducePow, Nat.reduceAdd, ← Bool.decide_and]; congr 1; apply propext; omega
  | 5, _ => by simp only [carryB, Nat.reducePow, Nat.reduceAdd, ← Bool.decide_and]; congr 1; apply propext; omega
  | 6, _ => by simp only [carryB, Nat.reducePow, Nat.reduceAdd, ← Bool.decide_and]; congr 1; apply propext; omega
  | 7, _ => by simp only [carryB, Nat.reducePow, Nat.reduceAdd, ← Bool.decide_and]; congr 1; apply propext; omega
  | i + 8, h => by omega
theorem digs_get (x k i : Nat) (h : i < k) : (digs x k).getD i 0 = UInt8.ofNat (x / 256 ^ i % 256) := by simp [digs, h]
theorem digs_nat (x k i : Nat) (h : i < k) : ((digs x k).getD i 0).toNat = x / 256 ^ i % 256 := by
  rw [digs_get x k i h]; simp

set_option maxRecDepth 100000 in
set_option maxHeartbeats 1000000 in
theorem grows_walk (x z : Nat) (hx : x < 18446744073709551616) (hz : z < 256) (w : World) :
    Calls Try.prog 7 #[.int .u64 x, .int .u8 z] w fun e w' => e = .returned (.bool true) ∧ Below w.heap.size w w' := by
  obtain ⟨s4, hs4⟩ : ∃ s4 : Nat, s4 = z % 4 := ⟨_, rfl⟩
  have hs : s4 < 4 := by omega
  have hrem : (z : Int) % 4 = (s4 : Int) := by omega
  clear hs4
  obtain ⟨k, hk8, hks, hkc⟩ : ∃ k : Nat, k ≤ 8 ∧ saysB k = true ∧ (w.alloc (.cells #[.int .i64 1, .int .i64 2, .int .i64 4, .int .i64 8] 3)).cell? ⟨w.heap.size, s4, none⟩ = some (.int .i64 k) := by
    rw [cell_of_row _ _ _ _ _ _ (heap_alloc_new w _)]
    match s4, hs with
    | 0, _ => exact ⟨1, by decide, by decide, rfl⟩
    | 1, _ => exact ⟨2, by decide, by decide, rfl⟩
    | 2, _ => exact ⟨4, by decide, by decide, rfl⟩
    | 3, _ => exact ⟨8, by decide, by decide, rfl⟩
  have hB0 : Below w.heap.size w (w.alloc (.cells #[.int .i64 1, .int .i64 2, .int .i64 4, .int .i64 8] 3)) := (Below.refl _ _).alloc (Nat.le_refl _) _
  obtain ⟨y, hy⟩ : ∃ y, y = (x + 1) % 18446744073709551616 := ⟨_, rfl⟩
  have hy2 : y < 18446744073709551616 := by omega
  have HYI : Hid (IntKind.u64.wrap ((x : Int) + 1) = (y : Int)) := by
    show IntKind.u64.wrap ((x : Int) + 1) = (y : Int)
    have e : IntKind.u64.wrap ((x : Int) + 1) = ((x : Int) + 1) % 18446744073709551616 := by first | rfl | simp [IntKind.wrap, go_sem]
    rw [e, hy]; omega
  have HD : Hid (∀ i, i < 8 → y / 256 ^ i % 256 = (x / 256 ^ i % 256 + (if x % 256 ^ i = 256 ^ i - 1 then 1 else 0)) % 256) := by
    show ∀ i, _
    intro i hi; rw [hy]; exact grow_dig x hx i hi
  clear hy
  have p1 : Hid (putL [] x k = digs x k) := by show _ = _; simp [putL, hks]
  have p2 : Hid (putL [] y k = digs y k) := by show _ = _; simp [putL, hks]
  go_enter Try.func7, Try.ntmps7
  go_wp2_with fail
  refine (put_any none 0 0 [] _ x k (Sl.nil _ _) (by omega) hx).mono ?_
  rintro e w1 ⟨v1, rfl, ho1, hb1⟩
  rw [p1.out, digs_length] at ho1
  obtain ⟨a1, c1, rfl⟩ := ho1.form
  have HB1 := Lib.hid (hB0.trans (hb1.mono (by simp)))
  have HO1 := Lib.hid ho1
  clear ho1 hb1
  go_wp2_with fail
  rw [HYI.out]
  refine (put_any none 0 0 [] _ y k (Sl.nil _ _) (by omega) hy2).mono ?_
  rintro e w2 ⟨v2, rfl, ho2, hb2⟩
  rw [p2.out, digs_length] at ho2
  obtain ⟨a2, c2, rfl⟩ := ho2.form
  have HB2 := Lib.hid (HB1.out.trans (hb2.mono HB1.out.size))
  have HO2 := Lib.hid ho2
  have HA2 := Lib.hid (HO1.out.below hb2)
  clear ho2 hb2 HO1 HB1
  go_wp2_with fail
  go_loop [8, 9] (fun v8 v9 => ∃ i : Nat, i ≤ k ∧ v9 = .int .i64 i ∧ v8 = .bool (carryB x i)) (fun _ v9 => k - (intOf v9).toNat)
  case atStart => exact ⟨0, Nat.zero_le _, rfl, by simp [carryB, Nat.mod_one]⟩
  case round =>
    obtain ⟨i, hi, rfl, rfl⟩ := hrel
    by_cases hik : i = k
    · subst hik
      go_wp2_with fail
      refine (works_any w2).mono ?_
      rintro e w3 ⟨rfl, hb3⟩
      go_wp2_with fail
      go_ret
      exact ⟨rfl, HB2.out.trans (hb3.mono HB2.out.size)⟩
    · have hlt : i < k := by omega
      have hlt' : (i : Int) < k := by omega
      obtain ⟨b1, o1, rfl, hc1⟩ := HA2.out.sl.byte hlt
      obtain ⟨b2, o2, rfl, hc2⟩ := HO2.out.sl.byte hlt
      rw [digs_nat x k i hlt] at hc1
      rw [digs_nat y k i hlt, HD.out i (by omega)] at hc2
      have hcar := grow_carry x i (by omega)
      obtain ⟨A, hA⟩ : ∃ A : Nat, A = x / 256 ^ i % 256 := ⟨_, rfl⟩
      have hA2 : A < 256 := by omega
      rw [← hA] at hc1 hc2 hcar
      have HC := Lib.hid hcar
      cases hcb : carryB x i with
      | false =>
        have h0 : ¬ (x % 256 ^ i = 256 ^ i - 1) := by simpa [carryB] using hcb
        rw [if_neg h0, Nat.add_zero, Nat.mod_eq_of_lt hA2] at hc2
        clear hcar hA h0
        have HCB := Lib.hid hcb
        clear hcb
        go_wp2_with fail
        go_round
        case rel => exact ⟨i + 1, by omega, by go_num, by rw [HC.out, HCB.out]; rfl⟩
        case measure => simp [intOf]; omega
      | true =>
        have h0 : x % 256 ^ i = 256 ^ i - 1 := by simpa [carryB] using hcb
        rw [if_pos h0] at hc2
        obtain ⟨Bv, hBv⟩ : ∃ Bv : Nat, Bv = (A + 1) % 256 := ⟨_, rfl⟩
        rw [← hBv] at hc2
        have hBv2 : ((A : Int) + 1) % 256 = (Bv : Int) := by omega
        clear hcar hA h0 hBv
        have HCB := Lib.hid hcb
        clear hcb
        go_wp2_with fail
        have e : ((A : Int) == 255) = decide (A = 255) := by
          by_cases h : A = 255
          · subst h; rfl
          · rw [decide_eq_false h, beq_eq_false_iff_ne]; omega
        refine ⟨⟨i + 1, by omega, by go_num, by rw [HC.out, HCB.out, e]; rfl⟩, by simp [intOf]; omega⟩
end Go.Proofs.Ytnbabdeklceklaa
