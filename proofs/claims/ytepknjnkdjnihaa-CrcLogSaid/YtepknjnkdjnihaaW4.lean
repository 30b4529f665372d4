/-
  The walk of the law's anchor: works returns true. No condition.
-/
import Derived.Test.YtepknjnkdjnihaaW3
import Derived.Lib.SlBytesConst
namespace Go.Proofs.Ytepknjnkdjnihaa
open Go.RowKit
set_option linter.unusedVariables false

def nine : List UInt8 := [49, 50, 51, 52, 53, 54, 55, 56, 57]
theorem sum_nine : extend 0 nine = 3421780262 := by decide +kernel
theorem sealed_nine : extend 0 (sealL nine) = 558161692 := by decide +kernel

theorem seal9 : (bvs (sealL nine))[9]? = some (.int .u8 38) := by kernel_rfl
theorem seal12 : (bvs (sealL nine))[12]? = some (.int .u8 203) := by kernel_rfl

theorem sl_nine (w : World) : Sl (w.alloc (Obj.cells #[.int .u8 49, .int .u8 50, .int .u8 51, .int .u8 52, .int .u8 53, .int .u8 54, .int .u8 55, .int .u8 56, .int .u8 57] 5 (9, 10))) 1 (.slice (some ⟨w.heap.size, 0, none⟩) 9 9) 9 (bvs nine) :=
  Sl.litF _ _ _ _ 9 rfl (by decide)

set_option maxHeartbeats 400000 in
theorem works_any (w : World) : Calls Try.prog 9 #[] w fun e w' => e = .returned (.bool true) ∧ Below w.heap.size w w' := by
  have h1 : Hid (extend 0 nine = 3421780262) := sum_nine
  have h2 : Hid (extend 0 (sealL nine) = 558161692) := sealed_nine
  have kc := fun (w : World) (C : Array Value) (n c : Nat) => Lib.run_convert_bytes_const (P := Try.prog) w 23 5 C n c Try.underlying23 Try.underlying5
  go_enter Try.func9, Try.ntmps9
  go_wp2_with (first | (go_at_call 14; (with_reducible refine (seal_any _ _ _ nine _ (sl_nine _) (by decide)).mono ?_); rintro e w1 ⟨v1, rfl, hown, hb1⟩; obtain ⟨g, cap, rfl, hg1, hg2, hcap, _⟩ := own_open hown (by decide); have hb0 : Below w.heap.size w w1 := ((Below.refl _ _).alloc (Nat.le_refl _) _).trans (hb1.mono (by simp)); have HO := Lib.hid hown; have HB := Lib.hid hb0; clear hown hb1 hb0) | (go_at_call 12; (with_reducible refine (crcSum_any _ _ _ nine _ (sl_nine _)).mono ?_); rintro e w2 ⟨rfl, hb2⟩; rw [h1.out]; have ho2 := own_below (HO.out.alloc _) hb2; have c1 := (own_get ho2 9 (by decide)).trans seal9; have c2 := (own_get ho2 12 (by decide)).trans seal12; have HO2 := Lib.hid ho2; have HB2 : Hid (Below w.heap.size w w2) := (HB.out.alloc HB.out.size _).trans (hb2.mono (by have := HB.out.size; simp; omega)); clear ho2 hb2) | (go_at_call 12; (with_reducible refine (crcSum_any _ 13 cap (sealL nine) _ (Sl.ofOwn HO2.out)).mono ?_); rintro e w3 ⟨rfl, hb3⟩; rw [h2.out]))
  go_ret
  exact ⟨rfl, HB2.out.trans (hb3.mono HB2.out.size)⟩
end Go.Proofs.Ytepknjnkdjnihaa
