/-
  A text behind bytes, walked: the program's, the document's. Conditions: bytes and text within a machine's reach.
-/
import Derived.Test.YtoddklfblcfoiaaDoorCoP
import Derived.Deep.AppendSrc
namespace Go.Proofs.YtoddklfblcfoiaaDoor
open Go Go.RowKit
set_option linter.unusedVariables false
set_option linter.unusedSimpArgs false
set_option maxRecDepth 100000

theorem src_str (w : World) (s : List UInt8) {m : Nat} (hm : s.length = m) : Src Tryd.prog 1 9 (.string (str s)) m (bvs s) w := by
  have h0 := Src.ofString w (P := Tryd.prog) Tryd.underlying9 (str s)
  rw [str_size, hm] at h0
  exact h0
theorem putL4 (l : List UInt8) (x : Nat) : putL l x 4 = l ++ digs x 4 := rfl
theorem putL8 (l : List UInt8) (x : Nat) : putL l x 8 = l ++ digs x 8 := rfl
set_option maxHeartbeats 1600000 in
theorem text_p (a : Option Addr) (n c : Nat) (l S : List UInt8) (w : World) (hl : Sl w 1 (.slice a n c) n (bvs l)) (hsz : n ≤ 1099511627776) (hS : S.length ≤ 1099511627776) :
    Calls Tryd.prog 28 #[.slice a n c, .string (str S)] w fun e w' => ∃ v, e = .returned v ∧ Own w' w.heap.size 1 v (l ++ textL S).length (bvs (l ++ textL S)) ∧ Below w.heap.size w w' := by
  have hn := hl.len
  have HL := Lib.hid hl
  obtain ⟨m, hm⟩ : ∃ m, m = S.length := ⟨_, rfl⟩
  have hsm : (str S).size = m := by rw [str_size]; exact hm.symm
  have HM := Lib.hid hm
  rw [← hm] at hS
  have hlen : (putL l m 4).length = n + 4 := by rw [putL4, List.length_append, digs_length, hn.1]
  have HLEN := Lib.hid hlen
  clear hl hm hlen
  go_enter Tryd.func28, Tryd.ntmps28
  go_wp2_with fail
  refine (put_any a n c l w m 4 HL.out (by omega) (by omega)).mono ?_
  rintro e w1 ⟨v1, rfl, ho1, hb1⟩
  rw [HLEN.out] at ho1
  obtain ⟨a1, c1, rfl⟩ := ho1.form
  have HO1 := Lib.hid ho1
  have HB1 := Lib.hid hb1
  have hsrc := src_str w1 S HM.out.symm
  have HSR := Lib.hid hsrc
  clear ho1 hb1 hsrc
  go_wp2_with (at_builtin; refine wpL_appendS etB rfl _ _ rfl HO1.out rfl HSR.out rfl (by omega) (by simp [maxLen]; omega) HB1.out.size ?_; intro v2 w2 ho2 hg2)
  go_ret
  have e2 : l ++ textL S = putL l m 4 ++ S := by rw [putL4, textL, HM.out, List.append_assoc]
  have e3 : (l ++ textL S).length = n + 4 + m := by rw [e2, List.length_append, HLEN.out, HM.out]
  refine ⟨v2, rfl, ?_, below_own HB1.out HO1.out hg2 (Nat.le_refl _) HB1.out.size⟩
  rw [e3, e2, bvs_append]
  exact ho2
set_option maxHeartbeats 1600000 in
theorem rtext_p (a : Option Addr) (n c : Nat) (l S : List UInt8) (w : World) (hl : Sl w 1 (.slice a n c) n (bvs l)) (hsz : n ≤ 1099511627776) (hS : S.length ≤ 1099511627776) :
    Calls Tryd.prog 38 #[.slice a n c, .string (str S)] w fun e w' => ∃ v, e = .returned v ∧ Own w' w.heap.size 1 v (l ++ textL S).length (bvs (l ++ textL S)) ∧ Below w.heap.size w w' := by
  have hn := hl.len
  have HL := Lib.hid hl
  obtain ⟨m, hm⟩ : ∃ m, m = S.length := ⟨_, rfl⟩
  have hsm : (str S).size = m := by rw [str_size]; exact hm.symm
  have HM := Lib.hid hm
  rw [← hm] at hS
  have hlen : (putL l m 4).length = n + 4 := by rw [putL4, List.length_append, digs_length, hn.1]
  have HLEN := Lib.hid hlen
  clear hl hm hlen
  go_enter Tryd.func38, Tryd.ntmps38
  go_wp2_with fail
  refine (rput_any a n c l w m 4 HL.out (by omega) (by omega)).mono ?_
  rintro e w1 ⟨v1, rfl, ho1, hb1⟩
  rw [HLEN.out] at ho1
  obtain ⟨a1, c1, rfl⟩ := ho1.form
  have HO1 := Lib.hid ho1
  have HB1 := Lib.hid hb1
  have hsrc := src_str w1 S HM.out.symm
  have HSR := Lib.hid hsrc
  clear ho1 hb1 hsrc
  go_wp2_with (at_builtin; refine wpL_appendS etB rfl _ _ rfl HO1.out rfl HSR.out rfl (by omega) (by simp [maxLen]; omega) HB1.out.size ?_; intro v2 w2 ho2 hg2)
  go_ret
  have e2 : l ++ textL S = putL l m 4 ++ S := by rw [putL4, textL, HM.out, List.append_assoc]
  have e3 : (l ++ textL S).length = n + 4 + m := by rw [e2, List.length_append, HLEN.out, HM.out]
  refine ⟨v2, rfl, ?_, below_own HB1.out HO1.out hg2 (Nat.le_refl _) HB1.out.size⟩
  rw [e3, e2, bvs_append]
  exact ho2
end Go.Proofs.YtoddklfblcfoiaaDoor
