/-
  The walk of CrcDivides: it returns true, and writes nothing that was there, given that 'extend' is the long division. No condition.
-/
import Derived.Test.YtepknjnkdjnihaaW4
namespace Go.Proofs.Ytepknjnkdjnihaa
open Go.RowKit
set_option linter.unusedVariables false

theorem divides_walk (hplain : ∀ s l, s < 4294967296 → extend s l = refExtend s l) (s : Nat) (hs : s < 4294967296) (a : Option Addr) (n c : Nat) (l : List UInt8) (w : World) (hl : Sl w 1 (.slice a n c) n (bvs l)) :
    Calls Try.prog 3 #[.int .u32 s, .slice a n c] w fun e w' => e = .returned (.bool true) ∧ Below w.heap.size w w' := by
  have HP := Lib.hid hplain
  have HL := Lib.hid hl
  have hn := hl.len
  clear hl hplain
  by_cases hbig : 4096 < n
  · go_enter Try.func3, Try.ntmps3
    go_wp2_with (go_at_call 9; refine (works_any _).mono ?_; rintro e w1 ⟨rfl, hb1⟩)
    go_ret
    exact ⟨rfl, hb1⟩
  · go_enter Try.func3, Try.ntmps3
    go_wp2_with (at_builtin; refine wpL_append0 et23 rfl _ _ rfl w.heap.size rfl HL.out rfl (bvs_one l) (by omega) (by simp [maxLen]; omega) (Nat.le_refl _) ?_; intro v2 w2 hown2 hg2; have hb2 := below_append0 (Below.refl _ _) (Nat.le_refl _) hg2; clear hg2; obtain ⟨a2, c2, rfl⟩ := own_form hown2)
    refine (crcExtend_any s hs _ _ _ l _ (Sl.ofOwn hown2)).mono ?_
    rintro e w3 ⟨rfl, hb3⟩
    have HO := Lib.hid (own_below hown2 hb3)
    have HB := Lib.hid (hb2.trans (hb3.mono hb2.size))
    clear hown2 hb2 hb3
    go_wp2_with fail
    refine (refExtend_any s hs _ _ _ l _ (HL.out.below HB.out) (by omega)).mono ?_
    rintro e w4 ⟨rfl, hb5⟩
    rw [← HP.out s l hs]
    have HO2 := Lib.hid (own_below HO.out hb5)
    have HB2 := Lib.hid (HB.out.trans (hb5.mono HB.out.size))
    clear hb5
    go_wp2_with fail
    refine (crcSum_any _ _ _ l _ (Sl.ofOwn HO2.out)).mono ?_
    rintro e w5 ⟨rfl, hb5⟩
    have HO3 := Lib.hid (own_below HO2.out hb5)
    have HB3 := Lib.hid (HB2.out.trans (hb5.mono HB2.out.size))
    clear hb5
    go_wp2_with fail
    refine (refSum_any _ _ _ l _ (HL.out.below HB3.out) (by omega)).mono ?_
    rintro e w6 ⟨rfl, hb5⟩
    rw [← HP.out 0 l (by decide)]
    have HO4 := Lib.hid (own_below HO3.out hb5)
    have HB4 := Lib.hid (HB3.out.trans (hb5.mono HB3.out.size))
    clear hb5
    go_wp2_with (refine wpList_unguard rfl ?_; first | refine wpL_toString rfl 23 9 (.tmp 28) rfl Try.underlying23 Try.underlying5 Try.underlying9 (Sl.ofOwn HO4.out) rfl ?_ | refine wpL_toString rfl 23 9 (.tmp 30) rfl Try.underlying23 Try.underlying5 Try.underlying9 (HL.out.below HB4.out) rfl ?_)
    refine (works_any _).mono ?_
    rintro e w7 ⟨rfl, hb7⟩
    go_wp2_with fail
    go_ret
    exact ⟨rfl, HB4.out.trans (hb7.mono HB4.out.size)⟩
end Go.Proofs.Ytepknjnkdjnihaa
