/-
  The law of what prims take, walked. Condition: the table as laid.
-/
import Derived.Test.YtoddklfblcfoiaaDoorCpF
namespace Go.Proofs.YtoddklfblcfoiaaDoor
open Go Go.RowKit
set_option linter.unusedVariables false
set_option linter.unusedSimpArgs false
set_option maxRecDepth 100000

set_option maxHeartbeats 2000000 in
theorem law_takes (s : List UInt8) (W : World) (h : ∃ b fuel n, PrimsR W b fuel n) :
    Calls Tryd.prog 5 #[.string (str s)] W fun e w' => e = .returned (.bool true) ∧ Below W.heap.size W w' := by
  obtain ⟨pb, fuel, pn, hP⟩ := h
  have HP0 := Lib.hid hP
  clear hP
  have h1 := takes_p W pb fuel pn HP0 s W (Below.refl _ _)
  obtain ⟨n, hn⟩ : ∃ y, y = (takesN s : Int) := ⟨_, rfl⟩
  obtain ⟨b, hb⟩ : ∃ y, y = takesB s := ⟨_, rfl⟩
  rw [← hn, ← hb] at h1
  go_enter Tryd.func5, Tryd.ntmps5
  go_upto_region 2 with fail
  refine h1.mono ?_
  rintro e w1 ⟨rfl, hb1⟩
  clear h1
  have h2 := rtakes_p s w1
  rw [← hn, ← hb] at h2
  clear hn hb
  go_upto_region 3 with fail
  refine h2.mono ?_
  rintro e w2 ⟨rfl, hb2⟩
  clear h2
  have HB := Lib.hid (hb1.trans (hb2.mono hb1.size))
  clear hb1 hb2
  have h3 := works_p W pb fuel pn HP0 w2 HB
  have hn : (n == n) = true := by simp
  have hb : (b == b) = true := by simp
  go_wp2_with fail
  refine h3.mono ?_
  rintro e w3 ⟨rfl, hb3⟩
  clear h3
  go_wp2_with fail
  go_ret
  exact ⟨rfl, HB.out.trans (hb3.mono HB.out.size)⟩
theorem law_takesB (s : ByteArray) (W : World) (h : ∃ b fuel n, PrimsR W b fuel n) :
    Calls Tryd.prog 5 #[.string s] W fun e w' => e = .returned (.bool true) ∧ Below W.heap.size W w' := by
  have h9 := law_takes s.data.toList W h
  rw [str_data] at h9
  exact h9
end Go.Proofs.YtoddklfblcfoiaaDoor
