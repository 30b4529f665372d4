/-
  The document's heap: Word, Get, SetWord. Conditions: the heap reads as one.
-/
import Derived.Test.YtekmgffjdheifaaHqP
namespace Go.Proofs.Ytekmgffjdheifaa
open Go Go.RowKit
set_option linter.unusedVariables false
set_option linter.unusedSimpArgs false
set_option maxRecDepth 100000

section
variable {col : Nat → Nat} {w : World} {r m gl ol cl : Nat} {H : List Th} {cs : List Value} {vs : Nat → Value}
set_option maxHeartbeats 1600000 in
theorem wordR_p (h : RfIn col w r m H gl ol cl cs vs) (k i : Int) (B : Bool) (hB : Hid (B = wordIs H k i)) (x : UInt8 × Int) (hx : Hid (x = wordAt H k i)) :
    Calls Try.prog 58 #[.pointer (some ⟨r, 0, none⟩), .int .i64 k, .int .i64 i] w fun e w' => e = .returned (.tuple #[.agg #[.int .u8 (x.1.toNat : Int), .int .i64 x.2], .bool B]) ∧ Below w.heap.size w w' := by
  have hb1 : Below w.heap.size w (w.alloc (.cells #[.int .u8 0, .int .i64 0] 47)) := (Below.refl _ _).alloc (Nat.le_refl _) _
  have hr := Row.new w [.int .u8 0, .int .i64 0] 47
  have HH := Lib.hid (h.fresh hb1)
  cases hi : (thAt H k).is with
  | false =>
    have hB0 : B = false := by rw [hB.out, wordIs, hi]; rfl
    have hx0 : x = (0, 0) := by rw [hx.out, wordAt, ← hB.out, hB0]; rfl
    subst hB0 hx0
    have H0 := Lib.hid hi
    clear hi h
    go_enter Try.func58, Try.ntmps58
    go_wp2_with (first | (go_at_call 78; refine (has_p HH.out k false (Lib.hid H0.out.symm)).mono ?_; rintro e w1 ⟨rfl, rfl⟩) | (refine wpL_storeRow rfl _ _ _ rfl (cs := [.int .u8 0, .int .i64 0]) rfl rfl hr (by kernel_rfl) rfl rfl ?_; intro w6 hg6 hr6))
    try simp only [Exit.inBlock, Exit.then]
    refine bodyPost_ret (results_cell_wordB rfl rfl hr6) rfl ?_
    exact ⟨rfl, below_grown hb1 hg6 (Nat.le_refl _) hb1.size⟩
  | true =>
    obtain ⟨p, rfl, hp, hIA⟩ := HH.out.there hi
    have HI := Lib.hid hi
    have c1 := HH.out.c1
    have hcap0 := HH.out.cap
    have hp' : (p : Int) < H.length := by omega
    obtain ⟨d0, d1, d2, d3, d4, d5, d6⟩ := HH.out.all hp
    clear d0 d1 d3 d4 d5 d6
    have ho := (HH.out.ws p hp).1
    rw [hIA] at ho
    generalize vs p = v at d2 ho
    obtain ⟨n, hn⟩ : ∃ n, n = (thAt H (p : Nat)).o.l.length := ⟨_, rfl⟩
    rw [← hn] at ho
    have HB : Hid (B = decide (0 ≤ i ∧ i < (n : Int))) := Lib.hid (by rw [hB.out, wordIs, hi, hn]; rfl)
    have HX : Hid (x = if B then (thAt H (p : Nat)).o.l.getD i.toNat (0, 0) else (0, 0)) := Lib.hid (by rw [hx.out, wordAt, ← hB.out])
    have HN := Lib.hid hn
    obtain ⟨a, c, rfl⟩ := ho.form
    have HO := Lib.hid ho
    have hcap := ho.sl.wordLen.2
    clear hB hx hn ho h hi hIA
    by_cases h0 : i < 0
    · obtain rfl : B = false := by rw [HB.out, decide_eq_false (by omega)]
      obtain rfl : x = (0, 0) := HX.out
      go_enter Try.func58, Try.ntmps58
      go_wp2_with (first | (go_at_call 78; refine (has_p HH.out (p : Nat) true (Lib.hid HI.out.symm)).mono ?_; rintro e w1 ⟨rfl, rfl⟩) | (refine wpL_storeRow rfl _ _ _ rfl (cs := [.int .u8 0, .int .i64 0]) rfl rfl hr (by kernel_rfl) rfl rfl ?_; intro w6 hg6 hr6))
      try simp only [Exit.inBlock, Exit.then]
      refine bodyPost_ret (results_cell_wordB rfl rfl hr6) rfl ?_
      exact ⟨rfl, below_grown hb1 hg6 (Nat.le_refl _) hb1.size⟩
    obtain ⟨j, rfl⟩ : ∃ j : Nat, i = j := ⟨i.toNat, by omega⟩
    clear h0
    by_cases h1 : n ≤ j
    · obtain rfl : B = false := by rw [HB.out, decide_eq_false (by omega)]
      obtain rfl : x = (0, 0) := HX.out
      have h1' : (n : Int) ≤ j := by omega
      go_enter Try.func58, Try.ntmps58
      go_wp2_with (first | (go_at_call 78; refine (has_p HH.out (p : Nat) true (Lib.hid HI.out.symm)).mono ?_; rintro e w1 ⟨rfl, rfl⟩) | (refine wpL_storeRow rfl _ _ _ rfl (cs := [.int .u8 0, .int .i64 0]) rfl rfl hr (by kernel_rfl) rfl rfl ?_; intro w6 hg6 hr6))
      try simp only [Exit.inBlock, Exit.then]
      refine bodyPost_ret (results_cell_wordB rfl rfl hr6) rfl ?_
      exact ⟨rfl, below_grown hb1 hg6 (Nat.le_refl _) hb1.size⟩
    have hlt : j < n := by omega
    have hlt' : (j : Int) < n := by omega
    obtain rfl : B = true := by rw [HB.out, decide_eq_true (by omega)]
    have hx : x = (thAt H (p : Nat)).o.l.getD j (0, 0) := HX.out
    obtain ⟨b1, o1, rfl, hc1, hc2⟩ := HO.out.sl.word hlt
    rw [← hx] at hc1 hc2
    clear hx HX HB h1
    go_enter Try.func58, Try.ntmps58
    go_wp2_with (first | (go_at_call 78; refine (has_p HH.out (p : Nat) true (Lib.hid HI.out.symm)).mono ?_; rintro e w1 ⟨rfl, rfl⟩) | (refine wpL_storeRow rfl _ _ _ rfl (cs := [.int .u8 (x.1.toNat : Int), .int .i64 x.2]) rfl rfl hr (by kernel_rfl) rfl rfl ?_; intro w6 hg6 hr6))
    try simp only [Exit.inBlock, Exit.then]
    refine bodyPost_ret (results_cell_wordB rfl rfl hr6) rfl ?_
    exact ⟨rfl, below_grown hb1 hg6 (Nat.le_refl _) hb1.size⟩
set_option maxHeartbeats 1600000 in
/-- Get: the object, in new memory -/
theorem getR_p (h : RfIn col w r m H gl ol cl cs vs) (hg : Good H m) (hm : m ≤ 16777216) (k : Int) (o : Ob) (ho : Hid (o = (thAt H k).o)) (is : Bool) (hi : Hid (is = (thAt H k).is)) (n : Nat) (hn : Hid (n = o.l.length)) :
    Calls Try.prog 57 #[.pointer (some ⟨r, 0, none⟩), .int .i64 k] w fun e w' => ∃ v, e = .returned (.tuple #[.agg #[.int .u8 (o.k.toNat : Int), .int .i64 o.t, v, .string (str o.s)], .bool is]) ∧ Own w' w.heap.size 2 v n (wcells o.l) ∧ Below w.heap.size w w' := by
  have h0 := hi.out
  cases is with
  | false =>
    have hno := hg.non k h0.symm
    rw [hno] at ho
    obtain rfl : o = noOb := ho.out
    obtain rfl : n = 0 := hn.out
    have HH := Lib.hid h
    have H0 := Lib.hid h0
    clear h h0 hno
    go_enter Try.func57, Try.ntmps57
    go_wp2_with fail
    have hb1 : Below w.heap.size w (w.alloc (.cells #[.int .u8 0, .int .i64 0, .slice none 0 0, .string ⟨#[]⟩] 25)) := (Below.refl _ _).alloc (Nat.le_refl _) _
    refine (has_p (HH.out.fresh hb1) k false H0).mono ?_
    rintro e w1 ⟨rfl, rfl⟩
    have hr := Row.new w [.int .u8 0, .int .i64 0, .slice none 0 0, .string ⟨#[]⟩] 25
    go_wp2_with (refine wpL_storeRow rfl _ _ _ rfl (cs := [.int .u8 0, .int .i64 0, .slice none 0 0, .string ⟨#[]⟩]) rfl rfl hr (by kernel_rfl) rfl rfl ?_; intro w6 hg6 hr6)
    try simp only [Exit.inBlock, Exit.then]
    refine bodyPost_ret (results_cell_objB rfl rfl hr6) rfl ?_
    exact ⟨_, rfl, Own.nil _ _ _, below_grown hb1 hg6 (Nat.le_refl _) hb1.size⟩
  | true =>
    obtain ⟨p, rfl, hp, hIA⟩ := h.there h0.symm
    have hcap0 := h.cap
    have hp' : (p : Int) < H.length := by omega
    have HPL := Lib.hid hp
    have HIA := Lib.hid hIA
    have hth := (h.ws p hp).1
    rw [hIA] at hth
    obtain ⟨v, hv⟩ : ∃ v, v = vs p := ⟨_, rfl⟩
    rw [← hv] at hth
    have HV := Lib.hid hv
    clear hv hIA
    have hmay := hg.may p h0.symm
    rw [← ho.out] at hmay
    have hwl := sizeO_words hmay
    have hz : sizeO o ≤ m := by
      have := sz_le (H := H) (p : Nat)
      have := hg.room
      rw [show sz (thAt H (p : Nat)) = sizeO (thAt H (p : Nat)).o from if_pos h0.symm, ← ho.out] at *
      omega
    have hn9 : n ≤ 1073741824 := by rw [hn.out]; omega
    have HH := Lib.hid h
    have HT := Lib.hid hth
    obtain ⟨a, c, rfl⟩ := hth.form
    have hlen : (thAt H (p : Nat)).o.l.length = n := by rw [← ho.out]; exact hn.out.symm
    rw [hlen] at HT HV
    have H0 := Lib.hid h0
    clear h h0 hth hmay hwl hz
    go_enter Try.func57, Try.ntmps57
    go_wp2_with fail
    have hb1 : Below w.heap.size w (w.alloc (.cells #[.int .u8 0, .int .i64 0, .slice none 0 0, .string ⟨#[]⟩] 25)) := (Below.refl _ _).alloc (Nat.le_refl _) _
    have hr := Row.new w [.int .u8 0, .int .i64 0, .slice none 0 0, .string ⟨#[]⟩] 25
    refine (has_p (HH.out.fresh hb1) (p : Nat) true H0).mono ?_
    rintro e w1 ⟨rfl, rfl⟩
    have c1 := (HH.out.fresh hb1).c1
    obtain ⟨d0, d1, d2, d3, d4, d5, d6⟩ := (HH.out.fresh hb1).all HPL.out
    clear d4 d5 d6
    rw [← HV.out] at d2
    rw [HIA.out, ← ho.out] at d0 d1 d3
    have S1 : Hid (Sl (w.alloc (.cells #[.int .u8 0, .int .i64 0, .slice none 0 0, .string ⟨#[]⟩] 25)) 2 (.slice a n c) n (wcells o.l)) := Lib.hid (by have := (HT.out.below hb1).sl; rw [← ho.out] at this; exact this)
    clear hlen
    go_wp2_with fail
    refine (copyB_any o.k.toNat o.t a n c o.l o.s _ S1.out hn9).mono ?_
    rintro e w2 ⟨v2, rfl, ho2, hb2⟩
    have hr2 := hr.after hb2
    have HB2 := Lib.hid (hb1.trans (hb2.mono hb1.size))
    have HO2 := Lib.hid ho2
    clear ho2 hb2 hb1 hr S1 d0 d1 d2 d3
    go_wp2_with (refine wpL_storeRow rfl _ _ _ rfl (cs := [.int .u8 (o.k.toNat : Int), .int .i64 o.t, v2, .string (str o.s)]) rfl rfl hr2 (by kernel_rfl) rfl (by obtain ⟨a', c', e'⟩ := HO2.out.form; rw [e']; rfl) ?_; intro w6 hg6 hr6)
    try simp only [Exit.inBlock, Exit.then]
    refine bodyPost_ret (results_cell_objB rfl rfl hr6) rfl ?_
    exact ⟨_, rfl, (HO2.out.kept hg6 (own_ne HO2.out (by simp))).mono (by simp), below_grown HB2.out hg6 (Nat.le_refl _) HB2.out.size⟩
end
end Go.Proofs.Ytekmgffjdheifaa
