/-
  Fill, the program's and the document's. Conditions: the slice reads as bytes.
-/
import Derived.Test.YtchjfmgfoifbcaaB
namespace Go.Proofs.Ytchjfmgfoifbcaa
open Go.RowKit
set_option linter.unusedVariables false

/-- what Fill tells -/
def fillIs (l : List UInt8) (n : Int) : Bool := decide (n ≤ 1048576) && decide (l.length ≤ n)
def fillL (l : List UInt8) (n : Int) : List UInt8 := if fillIs l n then l ++ List.replicate (n.toNat - l.length) 0 else []

set_option maxHeartbeats 800000 in
theorem fill_any (a : Option Addr) (n c : Nat) (l : List UInt8) (w : World) (k : Int) (hl : Sl w 1 (.slice a n c) n (bvs l)) :
    Calls Try.prog 59 #[.slice a n c, .int .i64 k] w fun e w' => ∃ v, e = .returned (.tuple #[v, .bool (fillIs l k)]) ∧ Own w' w.heap.size 1 v (fillL l k).length (bvs (fillL l k)) ∧ Below w.heap.size w w' := by
  have HL := Lib.hid hl
  have hn := hl.len
  clear hl
  by_cases h1 : 1048576 < k
  · have HC : Hid (fillIs l k = false) := by show fillIs l k = false; simp [fillIs]; omega
    go_enter Try.func59, Try.ntmps59
    go_wp2
    go_ret2
    rw [fillL, HC.out]
    exact ⟨_, rfl, Own.nil _ _ _, Below.refl _ _⟩
  by_cases h2 : k < (n : Int)
  · have HC : Hid (fillIs l k = false) := by show fillIs l k = false; simp [fillIs]; omega
    go_enter Try.func59, Try.ntmps59
    go_wp2
    go_ret2
    rw [fillL, HC.out]
    exact ⟨_, rfl, Own.nil _ _ _, Below.refl _ _⟩
  obtain ⟨p, rfl⟩ : ∃ p : Nat, k = p := ⟨k.toNat, by omega⟩
  have hp : n ≤ p := by omega
  have HC : Hid (fillIs l p = true) := by show fillIs l p = true; simp [fillIs]; omega
  have hp2 : p ≤ 1048576 := by omega
  have HX : Hid (fillL l p = l ++ List.replicate (p - n) 0) := by
    show fillL l p = _
    rw [fillL, HC.out, hn.1]; rfl
  go_enter Try.func59, Try.ntmps59
  go_wp2_with (first | (at_make; refine wpL_make etB rfl rfl _ _ rfl p w.heap.size rfl rfl rfl rfl (by omega) (by simp [maxLen]; omega) (Nat.le_refl _) ?_; rintro v2 w2 hown hb ⟨g, off, rfl, hg⟩; have HO := Lib.hid hown; have HB := Lib.hid hb; have hgi := hg; have HG := Lib.hid hg; clear hown hb hg hgi) | (refine wpL_copy etB rfl (.tmp 17) (.tmp 18) rfl HO.out 0 rfl (HL.out.below HB.out) rfl (bvs_one _) n (Nat.min_eq_left hp) (fun _ => rfl) (by omega) ?_; intro w3 hown hb; have HO2 := Lib.hid hown; have HB2 := Lib.hid hb; clear hown hb))
  go_ret2
  rw [HC.out, HX.out]
  refine ⟨_, rfl, ?_, below_grown HB.out HB2.out HG.out HB.out.size⟩
  have h := HO2.out
  have e : splice (List.replicate p (Value.int .u8 0)) 0 ((bvs l).take n) = bvs (l ++ List.replicate (p - n) 0) := by
    rw [List.take_of_length_le (by rw [bvs_length]; omega), bvs_append, bvs_replicate, splice]
    simp [hn.1, bvs]
  rw [e] at h
  have e2 : (l ++ List.replicate (p - n) 0).length = p := by simp; omega
  rw [e2]
  exact h
end Go.Proofs.Ytchjfmgfoifbcaa
