/-
  Roots, walked. Condition: code within a machine's reach.
-/
import Derived.Test.YtoddklfblcfoiaaDoorCoS
namespace Go.Proofs.YtoddklfblcfoiaaDoor
open Go Go.RowKit
set_option linter.unusedVariables false
set_option linter.unusedSimpArgs false
set_option maxRecDepth 100000

def twiceB (l : List Sta) (r : Sta) : Bool := l.any fun y => decide (y.n = r.n)
theorem str_eqb (l m : List UInt8) : ((str l).toList == (str m).toList) = decide (l = m) := by
  rw [ByteArray.toList_eq, ByteArray.toList_eq, str_toList, str_toList]
  by_cases h : l = m
  · rw [decide_eq_true h, h]; exact beq_self_eq_true _
  · rw [decide_eq_false h, beq_eq_false_iff_ne]; exact h
theorem str_nilb (l : List UInt8) : ((str l).toList == []) = decide (l = []) := by
  rw [ByteArray.toList_eq, str_toList]
  by_cases h : l = []
  · rw [decide_eq_true h, h]; rfl
  · rw [decide_eq_false h, beq_eq_false_iff_ne]; exact h
theorem rooted1_p (gr : Nat) (r y : Sta) (w : World) (hr : Row w gr 48 (staC r)) (B : Bool) (HB : Hid (B = decide (y.n = r.n))) :
    Calls Tryd.prog 61 #[.agg #[.string (str y.n), .string (str y.s)], .pointer (some ⟨gr, 0, none⟩)] w fun e w' => e = .returned (.bool B) ∧ Below w.heap.size w w' := by
  obtain ⟨w1, hw1⟩ : ∃ z, z = w.alloc (.cells #[.string (str y.n), .string (str y.s)] 48) := ⟨_, rfl⟩
  have r1 : Row w1 w.heap.size 48 (staC y) := by rw [hw1]; exact Row.new w _ _
  have hb1 : Below w.heap.size w w1 := by rw [hw1]; exact (Below.refl _ _).alloc (Nat.le_refl _) _
  have c0 : w1.cell? ⟨w.heap.size, 0, none⟩ = some (.string (str y.n)) := r1.cell 0
  have c1 : w1.cell? ⟨gr, 0, none⟩ = some (.string (str r.n)) := (hr.after hb1).cell 0
  have hb : ((str y.n).toList == (str r.n).toList) = B := by rw [str_eqb, HB.out]
  clear r1 hr
  go_enter Tryd.func61, Tryd.ntmps61
  go_upto_region 1 with fail
  rw [← hw1]
  clear hw1
  go_wp2_with fail
  go_ret
  exact ⟨rfl, hb1⟩
theorem any_more {l : List Sta} {r : Sta} {k : Nat} (x : Sta) (h : l[k]? = some x) : twiceB (l.take (k + 1)) r = (twiceB (l.take k) r || decide (x.n = r.n)) := by
  unfold twiceB
  rw [List.take_add_one, h]
  simp
set_option maxHeartbeats 800000 in
theorem indexR_p (a : Option Addr) (n c : Nat) (l : List Sta) (gr : Nat) (r : Sta) (w : World) (hl : Sl w 2 (.slice a n c) n (stCells l)) (hr : Row w gr 48 (staC r)) :
    Calls Tryd.prog 74 #[.slice a n c, .func (.func 61) #[] #[.pointer (some ⟨gr, 0, none⟩)]] w fun e w' => (∃ z : Int, e = .returned (.int .i64 z) ∧ Hid (decide (0 ≤ z) = twiceB l r)) ∧ Below w.heap.size w w' := by
  have hlen : l.length = n := by have := hl.1; rw [flat_len staC 2 staC_len] at this; omega
  have HN := Lib.hid hlen
  have hn2 := hl.cap.2.1
  have hn3 := hl.cap.1
  have HL := Lib.hid hl
  have HR := Lib.hid hr
  clear hlen hl hr
  go_enter Tryd.func74, Tryd.ntmps74
  go_wp2_with fail
  go_loopw [5, 8] (fun v5 v8 wr => ∃ k : Nat, k ≤ n ∧ v8 = .int .i64 k ∧ Hid (Below w.heap.size w wr ∧ twiceB (l.take k) r = false)) (fun _ v8 _ => n - (intOf v8).toNat)
  case atStart => exact ⟨0, Nat.zero_le _, rfl, Lib.hid ⟨Below.refl _ _, by simp [twiceB]⟩⟩
  case round =>
    obtain ⟨k, hk, rfl, HT⟩ := hrel
    by_cases hkn : k = n
    · subst hkn
      go_wp2_with fail
      go_ret
      have e := HT.out.2
      rw [List.take_of_length_le (by rw [HN.out]; exact Nat.le_refl _)] at e
      exact ⟨⟨_, rfl, Lib.hid (by rw [e]; rfl)⟩, HT.out.1⟩
    · have hlt : k < n := by omega
      have hlt' : (k : Int) < n := by omega
      obtain ⟨b5, o5, x, rfl, hx, hc5⟩ := (HL.out.below HT.out.1).elem staC staC_len (by decide) k hlt
      have d0 := hc5 0 _ rfl
      have d1 := hc5 1 _ rfl
      simp only [Nat.add_zero] at d0
      have HX := Lib.hid hx
      obtain ⟨B, hB⟩ : ∃ B, B = decide (x.n = r.n) := ⟨_, rfl⟩
      have HB := Lib.hid hB
      have HR2 := Lib.hid (HR.out.after HT.out.1)
      clear hB hc5 hx
      cases B with
      | true =>
        go_wp2_with fail
        refine (rooted1_p gr r x wr HR2.out true HB).mono ?_
        rintro e w2 ⟨rfl, hb2⟩
        go_wp2_with fail
        go_ret
        refine ⟨⟨_, rfl, Lib.hid ?_⟩, HT.out.1.trans (hb2.mono HT.out.1.size)⟩
        have h1 : twiceB l r = true := by
          unfold twiceB
          rw [List.any_eq_true]
          exact ⟨x, List.mem_of_getElem? HX.out, HB.out.symm⟩
        rw [h1]
        exact decide_eq_true (Int.natCast_nonneg k)
      | false =>
        go_wp2_with fail
        refine (rooted1_p gr r x wr HR2.out false HB).mono ?_
        rintro e w2 ⟨rfl, hb2⟩
        have HT2 : Hid (Below w.heap.size w w2 ∧ twiceB (l.take (k + 1)) r = false) := Lib.hid ⟨HT.out.1.trans (hb2.mono HT.out.1.size), by rw [any_more x HX.out, HT.out.2, ← HB.out]; rfl⟩
        clear hb2
        go_wp2_with fail
        exact ⟨⟨k + 1, by omega, by go_num, HT2⟩, by simp [intOf]; omega⟩
theorem containsR_p (a : Option Addr) (n c : Nat) (l : List Sta) (gr : Nat) (r : Sta) (w : World) (hl : Sl w 2 (.slice a n c) n (stCells l)) (hr : Row w gr 48 (staC r)) (B : Bool) (H : Hid (B = twiceB l r)) :
    Calls Tryd.prog 60 #[.slice a n c, .func (.func 61) #[] #[.pointer (some ⟨gr, 0, none⟩)]] w fun e w' => e = .returned (.bool B) ∧ Below w.heap.size w w' := by
  go_enter Tryd.func60, Tryd.ntmps60
  go_wp2_with fail
  refine (indexR_p a n c l gr r w hl hr).mono ?_
  rintro e w1 ⟨⟨z, rfl, hz⟩, hb⟩
  go_wp2_with fail
  go_ret
  rw [H.out, ← hz.out]
  exact ⟨rfl, hb⟩
end Go.Proofs.YtoddklfblcfoiaaDoor
