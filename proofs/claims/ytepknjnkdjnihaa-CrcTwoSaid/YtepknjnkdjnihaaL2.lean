/-
  The walks of CrcSeals, CrcTwo: each returns true, and writes nothing that was there. No condition.
-/
import Derived.Test.YtepknjnkdjnihaaW4
import Derived.Test.YtepknjnkdjnihaaP4
namespace Go.Proofs.Ytepknjnkdjnihaa
open Go.RowKit
set_option linter.unusedVariables false

set_option maxHeartbeats 400000 in
theorem seals_walk (at_ mask : Nat) (hat : at_ < 65536) (hm : mask < 4294967296) (a : Option Addr) (n c : Nat) (l : List UInt8) (w : World) (hl : Sl w 1 (.slice a n c) n (bvs l)) :
    Calls Try.prog 4 #[.slice a n c, .int .u16 at_, .int .u32 mask] w fun e w' => e = .returned (.bool true) ∧ Below w.heap.size w w' := by
  have HL := Lib.hid hl
  have hn := hl.len
  clear hl
  by_cases hbig : 4096 < n
  · go_enter Try.func4, Try.ntmps4
    go_wp2_with (go_at_call 9; refine (works_any _).mono ?_; rintro e w1 ⟨rfl, hb1⟩)
    go_ret
    exact ⟨rfl, hb1⟩
  · go_enter Try.func4, Try.ntmps4
    go_wp2_with fail
    refine (seal_any _ _ _ l _ HL.out (by omega)).mono ?_
    rintro e w1 ⟨v, rfl, hown, hb1⟩
    obtain ⟨g, cap, rfl, hg1, hg2, hcap, _⟩ := own_open hown (by omega)
    have HO := Lib.hid hown
    have HB := Lib.hid hb1
    clear hown hb1
    go_wp2_with fail
    refine (crcSum_any _ _ _ _ _ (Sl.ofOwn HO.out)).mono ?_
    rintro e w2 ⟨rfl, hb2⟩
    rw [seal_sum]
    have HO2 := Lib.hid (own_below HO.out hb2)
    have HB2 := Lib.hid (HB.out.trans (hb2.mono HB.out.size))
    clear hb2
    obtain ⟨f, hf⟩ : ∃ f : Nat, f = at_ % (8 * (n + 4) - 31) := ⟨_, rfl⟩
    have hf1 : f + 32 ≤ 8 * (n + 4) := by have := Nat.mod_lt at_ (show 8 * (n + 4) - 31 > 0 by omega); omega
    have hfe : (at_ : Int) % (8 * ((n : Int) + 4) - 31) = (f : Int) := by rw [hf, Int.natCast_emod]; congr 1; omega
    have HF := Lib.hid hf
    clear hf
    go_wp2_with fail
    refine (burst_any _ _ _ _ _ f mask (Sl.ofOwn HO2.out) (by omega) hf1 hm).mono ?_
    rintro e w3 ⟨v, rfl, hown, hb3⟩
    obtain ⟨a3, c3, rfl⟩ := own_form hown
    have HB3 := Lib.hid (HB2.out.trans (hb3.mono HB2.out.size))
    have HO3 := Lib.hid hown
    clear hb3 hown
    go_wp2_with fail
    refine (crcSum_any _ _ _ _ _ (Sl.ofOwn HO3.out)).mono ?_
    rintro e w4 ⟨rfl, hb4⟩
    have HB4 := Lib.hid (HB3.out.trans (hb4.mono HB3.out.size))
    clear hb4
    have he : ((extend 0 (burstTo (sealL l) f mask 32) : Int) == 558161692) = ((mask : Int) == 0) := by
      have h := burst_sealed l f mask hm (by rw [sealL_len]; omega)
      rw [Bool.eq_iff_iff, beq_iff_eq, beq_iff_eq]
      omega
    generalize extend 0 (burstTo (sealL l) f mask 32) = X at *
    go_wp2_with fail
    refine (works_any _).mono ?_
    rintro e w5 ⟨rfl, hb5⟩
    go_wp2_with fail
    go_ret
    exact ⟨rfl, HB4.out.trans (hb5.mono HB4.out.size)⟩

set_option maxHeartbeats 400000 in
theorem two_walk (i k : Nat) (hi : i < 65536) (hk : k < 65536) (a : Option Addr) (n c : Nat) (l : List UInt8) (w : World) (hl : Sl w 1 (.slice a n c) n (bvs l)) :
    Calls Try.prog 5 #[.slice a n c, .int .u16 i, .int .u16 k] w fun e w' => e = .returned (.bool true) ∧ Below w.heap.size w w' := by
  have HL := Lib.hid hl
  have hn := hl.len
  clear hl
  by_cases hbig : 4096 < n
  · go_enter Try.func5, Try.ntmps5
    go_wp2_with (go_at_call 9; refine (works_any _).mono ?_; rintro e w1 ⟨rfl, hb1⟩)
    go_ret
    exact ⟨rfl, hb1⟩
  · go_enter Try.func5, Try.ntmps5
    go_wp2_with fail
    refine (seal_any _ _ _ l _ HL.out (by omega)).mono ?_
    rintro e w1 ⟨v, rfl, hown, hb1⟩
    obtain ⟨g, cap, rfl, hg1, hg2, hcap, _⟩ := own_open hown (by omega)
    have HO := Lib.hid hown
    have HB := Lib.hid hb1
    clear hown hb1
    obtain ⟨x, hx⟩ : ∃ f : Nat, f = i % (8 * (n + 4)) := ⟨_, rfl⟩
    have hx1 : x < 8 * (n + 4) := by have := Nat.mod_lt i (show 8 * (n + 4) > 0 by omega); omega
    have hxe : (i : Int) % (8 * ((n : Int) + 4)) = (x : Int) := by rw [hx, Int.natCast_emod]; congr 1
    obtain ⟨y, hy⟩ : ∃ f : Nat, f = k % (8 * (n + 4)) := ⟨_, rfl⟩
    have hy1 : y < 8 * (n + 4) := by have := Nat.mod_lt k (show 8 * (n + 4) > 0 by omega); omega
    have hye : (k : Int) % (8 * ((n : Int) + 4)) = (y : Int) := by rw [hy, Int.natCast_emod]; congr 1
    clear hx hy
    go_wp2_with fail
    refine (turn_any _ _ _ _ _ x (Sl.ofOwn HO.out) (by omega) hx1).mono ?_
    rintro e w2 ⟨v, rfl, hown, hb2⟩
    obtain ⟨a2, c2, rfl⟩ := own_form hown
    have HO2 := Lib.hid hown
    have HB2 := Lib.hid (HB.out.trans (hb2.mono HB.out.size))
    clear hb2 hown
    go_wp2_with fail
    refine (turn_any _ _ _ _ _ y (Sl.ofOwn HO2.out) (by omega) hy1).mono ?_
    rintro e w3 ⟨v, rfl, hown, hb2⟩
    obtain ⟨a3, c3, rfl⟩ := own_form hown
    have HO3 := Lib.hid hown
    have HO23 := Lib.hid (own_below HO2.out hb2)
    have HB3 := Lib.hid (HB2.out.trans (hb2.mono HB2.out.size))
    clear hb2 hown
    go_wp2_with fail
    refine (crcSum_any _ _ _ _ _ (Sl.ofOwn HO23.out)).mono ?_
    rintro e w4 ⟨rfl, hb4⟩
    have HO4 := Lib.hid (own_below HO3.out hb4)
    have HB4 := Lib.hid (HB3.out.trans (hb4.mono HB3.out.size))
    clear hb4
    have he : ((extend 0 (turnL (sealL l) x) : Int) != 558161692) = true := by
      have h := one_turned l x (by rw [sealL_len]; omega)
      rw [bne_iff_ne]; omega
    have he2 : ((extend 0 (turnL (turnL (sealL l) x) y) : Int) == 558161692) = ((x : Int) == (y : Int)) := by
      have h := two_turned l x y (by omega) (by rw [sealL_len]; omega) (by rw [sealL_len]; omega)
      rw [Bool.eq_iff_iff, beq_iff_eq, beq_iff_eq]
      omega
    generalize extend 0 (turnL (sealL l) x) = X at *
    have HE2 := Lib.hid he2
    clear he2
    go_wp2_with fail
    refine (crcSum_any _ _ _ _ _ (Sl.ofOwn HO4.out)).mono ?_
    rintro e w5 ⟨rfl, hb5⟩
    have HB5 := Lib.hid (HB4.out.trans (hb5.mono HB4.out.size))
    clear hb5
    have he2 := HE2.out
    generalize extend 0 (turnL (turnL (sealL l) x) y) = Y at *
    clear HE2
    go_wp2_with fail
    refine (works_any _).mono ?_
    rintro e w6 ⟨rfl, hb6⟩
    go_wp2_with fail
    go_ret
    exact ⟨rfl, HB5.out.trans (hb6.mono HB5.out.size)⟩
end Go.Proofs.Ytepknjnkdjnihaa
