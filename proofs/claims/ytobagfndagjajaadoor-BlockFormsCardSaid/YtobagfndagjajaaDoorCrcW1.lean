/-
  The walks of crc's own functions: fours, Extend and Sum compute 'tab', 'extend'. Conditions: the slice reads as bytes.
-/
import Derived.Test.YtobagfndagjajaaDoorCrcMem
import Derived.Test.YtobagfndagjajaaDoorCrcFn
import Derived.Laws.DeepBits32
namespace Go.Proofs.YtobagfndagjajaaDoor.Crc
open Go.RowKit

def tabs (k : Nat) : List Value := (List.range 16).map fun i => .int .u32 (if i < k then (tab i : Int) else 0)
theorem tabs_get (k j : Nat) (h : j < 16) : (tabs k)[j]? = some (.int .u32 (if j < k then (tab j : Int) else 0)) := by simp [tabs, h]
theorem tabs_set (k : Nat) (h : k < 16) : (tabs k).set k (.int .u32 (tab k : Int)) = tabs (k + 1) := by
  apply List.ext_getElem?
  intro j
  rw [List.getElem?_set]
  by_cases hj : j < 16
  · rw [tabs_get _ j hj, tabs_get _ j hj]
    by_cases e : k = j
    · subst e; simp [tabs, hj]
    · have : (j < k + 1) = (j < k) := by simp; omega
      simp [e, this]
  · simp [tabs, hj]; omega

theorem bit1 (m : Nat) (h : m < 4294967296) : bits BinOp.and IntKind.u32 (m : Int) 1 = ((m % 2 : Nat) : Int) := by
  rw [← Nat.and_one_is_mod m]; exact u32_and_nat m 1 h (by decide)
theorem bit15 (m : Nat) (h : m < 4294967296) : bits BinOp.and IntKind.u32 (m : Int) 15 = ((m % 16 : Nat) : Int) := by
  rw [← nat_mask4 m]; exact u32_and_nat m 15 h (by decide)
theorem xdiv (m : Nat) (h : m < 4294967296) : bits BinOp.xor IntKind.u32 ((m : Int) / 2) 3988292384 = ((m / 2 ^^^ 3988292384 : Nat) : Int) :=
  u32_xor_nat (m / 2) 3988292384 (by omega) (by decide)

theorem inv_bits (s : Nat) (h : s < 4294967296) : bits BinOp.xor IntKind.u32 IntKind.u32.max (s : Int) = ((inv s : Nat) : Int) := by
  have : (IntKind.u32.max : Int) = ((4294967295 : Nat) : Int) := by decide
  rw [this, u32_xor_nat 4294967295 s (by decide) h]
  unfold inv
  congr 1
  have e1 : 4294967295 - s = 2 ^ 32 - (s + 1) := by omega
  have e2 : (4294967295 : Nat) = 2 ^ 32 - 1 := by decide
  rw [e1, e2]
  apply Nat.eq_of_testBit_eq
  intro i
  rw [Nat.testBit_two_pow_sub_succ (by omega), Nat.testBit_xor, Nat.testBit_two_pow_sub_one]
  by_cases hi : i < 32
  · simp [hi]
  · have : s.testBit i = false := Nat.testBit_lt_two_pow (Nat.lt_of_lt_of_le h (Nat.pow_le_pow_right (n := 2) (by decide) (by omega : 32 ≤ i)))
    simp [hi, this]

set_option maxHeartbeats 400000 in
theorem fours_any (w : World) :
    Calls Tryd.prog 49 #[] w fun e w' => e = .returned (.agg (tabs 16).toArray) ∧ Below w.heap.size w w' := by
  go_enter Tryd.func49, Tryd.ntmps49
  go_wp2
  go_loopw [3] (fun v3 wr => ∃ k : Nat, k ≤ 16 ∧ v3 = .int .i64 k ∧ Row wr w.heap.size 79 (tabs k) ∧ Below w.heap.size w wr) (fun v3 wr => 16 - (intOf v3).toNat)
  case atStart => exact ⟨0, by omega, rfl, heap_alloc_new _ _, (Below.refl _ _).alloc (Nat.le_refl _) _⟩
  case round =>
    obtain ⟨k, hk, rfl, hrow, hbel⟩ := hrel
    by_cases hlt : k < 16
    · have hc : wr.cell? ⟨w.heap.size, k, none⟩ = some (.int .u32 0) := by rw [hrow.cell, tabs_get k k hlt]; simp
      have hf := hrow.free k
      have HR := Lib.hid hrow
      have HB := Lib.hid hbel
      clear hrow hbel
      go_wp2
      go_loop [2, 8] (fun x j => ∃ n : Nat, n ≤ 4 ∧ j = .int .i64 n ∧ x = .int .u32 (shN n k : Nat)) (fun x j => 4 - (intOf j).toNat)
      case atStart => exact ⟨0, by omega, rfl, rfl⟩
      case round =>
        obtain ⟨n, hn, rfl, rfl⟩ := hrel
        have hm := shN_lt n k (by omega)
        have hsh : Hid (shN (n+1) k = sh (shN n k)) := rfl
        have h4 : Hid (n = 4 → shN n k = tab k) := fun h => by subst h; rfl
        generalize shN n k = m at *
        go_wp2
        · go_round
          case rel =>
            have hb : (bits BinOp.and IntKind.u32 (↑m) 1 == 1) = true := by assumption
            rw [bit1 m hm] at hb
            have hb1 : m % 2 = 1 := by simp at hb; omega
            exact ⟨n + 1, by omega, by go_num, by rw [xdiv m hm, hsh.out, sh, if_pos hb1]⟩
          case measure => simp [intOf]; omega
        · go_round
          case rel =>
            have hb : (bits BinOp.and IntKind.u32 (↑m) 1 == 1) = false := by assumption
            rw [bit1 m hm] at hb
            have hb1 : ¬ m % 2 = 1 := by simp at hb; omega
            exact ⟨n + 1, by omega, by go_num, by rw [hsh.out, sh, if_neg hb1]; rfl⟩
          case measure => simp [intOf]; omega
        · go_roundw
          case rel =>
            refine ⟨k + 1, by omega, by go_num, ?_, HB.out.setCell (Nat.le_refl _) _⟩
            have e := h4.out (by omega)
            have := HR.out.set k (.int .u32 (m : Int))
            rw [e] at this ⊢
            rwa [tabs_set k hlt] at this
          case measure => simp [intOf]; omega
    · obtain rfl : k = 16 := by omega
      have HB := Lib.hid hbel
      clear hbel
      go_wp2_with (first | refine wpL_loadRow rfl 79 _ rfl rfl hrow Tryd.underlying79 rfl (by kernel_rfl) ?_ | (refine wpL_storeRow rfl 79 _ _ rfl rfl rfl hrow (by kernel_rfl) rfl rfl ?_; intro w2 hg2 hrow2; clear hrow))
      refine bodyPost_ret (v := .agg (tabs 16).toArray) ?_ rfl ⟨rfl, ?_⟩
      · exact results_cell_row Tryd.results49 _ _ w.heap.size 79 _ (0, 0) _ rfl hrow2 Tryd.underlying79 rfl (by kernel_rfl)
      · exact below_grown HB.out hg2 (Nat.le_refl _) HB.out.size

set_option maxHeartbeats 400000 in
theorem crcExtend_any (s : Nat) (hs : s < 4294967296) (a : Option Addr) (n c : Nat) (l : List UInt8) (w : World) (hl : Sl w 1 (.slice a n c) n (bvs l)) :
    Calls Tryd.prog 41 #[.int .u32 s, .slice a n c] w fun e w' => e = .returned (.int .u32 (extend s l : Nat)) ∧ Below w.heap.size w w' := by
  have hn := hl.len
  have HL := Lib.hid hl
  clear hl
  go_enter Tryd.func41, Tryd.ntmps41
  go_wp2_with (first | (go_at_call 49; refine (fours_any _).mono ?_; rintro e w1 ⟨rfl, hb1⟩) | (refine wpL_storeRow rfl 79 _ _ rfl rfl rfl (Row.new _ _ _) (by kernel_rfl) rfl rfl ?_; intro w2 hg2 hrow2))
  have hb2 : Below w.heap.size w w2 := below_grown (hb1.alloc hb1.size _) hg2 hb1.size (by have := hb1.size; simp; omega)
  have hB := hb1.size
  generalize w1.heap.size = B at *
  clear hg2 hb1
  rw [inv_bits s hs]
  go_loop [6, 14] (fun r i => ∃ k : Nat, k ≤ n ∧ i = .int .i64 k ∧ r = .int .u32 (regs (inv s) (l.take k) : Nat)) (fun _ i => n - (intOf i).toNat)
  case atStart => exact ⟨0, by omega, rfl, by simp [regs]⟩
  case round =>
    obtain ⟨k, hk, rfl, rfl⟩ := hrel
    have hr := regs_lt (inv s) (l.take k) (by unfold inv; omega)
    have HS : Hid (k < n → regs (inv s) (l.take (k + 1)) = stepB (regs (inv s) (l.take k)) (l.getD k 0)) := fun h => by
      rw [take_snoc l k (by omega), regs_snoc]
    have HE : Hid (k = n → regs (inv s) (l.take k) = regs (inv s) l) := fun h => by rw [List.take_of_length_le (by omega)]
    generalize regs (inv s) (l.take k) = r at *
    by_cases hlt : k < n
    · obtain ⟨b, off, rfl, hcell⟩ := HL.out.byte hlt
      have hc2 : w2.cell? ⟨b, off + k, none⟩ = some (.int .u8 ((l.getD k 0).toNat : Int)) := cell_later hb2 hcell
      have hx := (l.getD k 0).toNat_lt
      obtain ⟨c1, hc1⟩ : ∃ c1, c1 = (l.getD k 0).toNat := ⟨_, rfl⟩
      rw [← hc1] at hc2 hx
      have HC := Lib.hid hc1
      have hr0 : Hid (stepB r (l.getD k 0) = (((r ^^^ c1) / 16 ^^^ tab ((r ^^^ c1) % 16)) / 16 ^^^ tab (((r ^^^ c1) / 16 ^^^ tab ((r ^^^ c1) % 16)) % 16))) := by
        show stepB r (l.getD k 0) = _
        rw [hc1]; rfl
      clear hcell hc1
      have e1 := u32_xor_nat r c1 hr (by omega)
      have l1 : r ^^^ c1 < 4294967296 := Nat.xor_lt_two_pow (n := 32) hr (by omega)
      generalize r ^^^ c1 = r1 at *
      have e2 := bit15 r1 l1
      have m1 : r1 % 16 < 16 := by omega
      have t1 := hrow2.cell (r1 % 16)
      rw [tabs_get 16 _ m1, if_pos m1] at t1
      have e3 : bits BinOp.xor IntKind.u32 ((r1 : Int) / 16) (tab (r1 % 16) : Int) = ((r1 / 16 ^^^ tab (r1 % 16) : Nat) : Int) := u32_xor_nat (r1 / 16) (tab (r1 % 16)) (by omega) (tab_lt _ (by omega))
      have l2 : r1 / 16 ^^^ tab (r1 % 16) < 4294967296 := Nat.xor_lt_two_pow (n := 32) (by omega) (tab_lt _ (by omega))
      generalize r1 / 16 ^^^ tab (r1 % 16) = r2 at *
      have e4 := bit15 r2 l2
      have m2 : r2 % 16 < 16 := by omega
      have t2 := hrow2.cell (r2 % 16)
      rw [tabs_get 16 _ m2, if_pos m2] at t2
      have e5 : bits BinOp.xor IntKind.u32 ((r2 : Int) / 16) (tab (r2 % 16) : Int) = ((r2 / 16 ^^^ tab (r2 % 16) : Nat) : Int) := u32_xor_nat (r2 / 16) (tab (r2 % 16)) (by omega) (tab_lt _ (by omega))
      have HR := Lib.hid hrow2
      have HB := Lib.hid hb2
      clear hrow2 hb2
      go_wp2
      go_round
      case rel => exact ⟨k + 1, by omega, by go_num, by rw [HS.out hlt, hr0.out]⟩
      case measure => simp [intOf]; omega
    · obtain rfl : k = n := by omega
      have HB := Lib.hid hb2
      have HR := Lib.hid hrow2
      clear hb2 hrow2
      rw [HE.out rfl] at hr ⊢
      have e5 := inv_bits _ hr
      go_wp2
      go_ret
      exact ⟨rfl, HB.out⟩
end Go.Proofs.YtobagfndagjajaaDoor.Crc

