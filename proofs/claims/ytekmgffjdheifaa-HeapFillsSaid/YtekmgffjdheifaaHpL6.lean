/-
  HeapFills walked. Conditions: what is handed in reads.
-/
import Derived.Test.YtekmgffjdheifaaHpZ
import Derived.Test.YtekmgffjdheifaaHpQ
namespace Go.Proofs.Ytekmgffjdheifaa
open Go Go.RowKit
set_option linter.unusedVariables false
set_option linter.unusedSimpArgs false
set_option maxRecDepth 100000

section
variable {m b : Nat} {w0 : World} {H : List Th} {n : Nat} {col : Nat → Nat} {w : World}
def ObW (w : World) (o : Ob) (a : Option Addr) (n c : Nat) : Prop := o.l.length = n ∧ n ≤ 1024 ∧ o.s.length ≤ 1024 ∧ Sl w 2 (.slice a n c) n (wcells o.l) ∧ (Lit.int .i64 o.t).wf = true ∧ ∀ y ∈ o.l, (Lit.int .i64 y.2).wf = true
theorem ObW.below {w' : World} {o : Ob} {a : Option Addr} {n c : Nat} (h : ObW w o a n c) (hb : Below w.heap.size w w') : ObW w' o a n c := ⟨h.1, h.2.1, h.2.2.1, h.2.2.2.1.below hb, h.2.2.2.2⟩
theorem plf_alloc (h : Pl m b w0 H n col w) (hm : m ≤ 16777216) (hn : n ≤ 1000) (o : Ob) (a : Option Addr) (no c : Nat) (ho : ObW w o a no c) (N E : Int) (HE : Hid (N = allocN H m o ∧ E = allocE H m o)) (H' : List Th) (HH : Hid (H' = allocH H m o)) :
    Calls Try.prog 13 #[.pointer (some ⟨b, 0, none⟩), .agg #[.int .u8 (o.k.toNat : Int), .int .i64 o.t, .slice a no c, .string (str o.s)]] w fun e w' => e = .returned (.tuple #[.int .i64 N, .int .i64 E]) ∧ ∃ col', Hid (Pl m b w0 H' (n + 1) col' w') := by
  obtain ⟨bm, bt, ks, at_, ts, tf, hH⟩ := h.A
  have hl9 := h.L.len
  refine (alloc_p hH h.L.good hm (by omega) o a no c ho.1 (by have := ho.2.1; omega) (by have := ho.2.2.1; omega) ho.2.2.2.1 ho.2.2.2.2.1).mono ?_
  rintro e w' ⟨N', E', rfl, HX⟩
  obtain ⟨h1, h2, col', h3, h4⟩ := HX.out
  obtain ⟨h5, h6⟩ := HE.out
  have hH' := HH.out
  subst hH'
  refine ⟨by rw [h5, h6, h1, h2], col', Lib.hid ⟨h.K.trans (h3.mono hq_nz), h4, alloc_keep h.L.good o, ?_, by have := do_len (H := H) (m := m) ⟨0, 0, 0, o, (0, 0), []⟩; rw [show doH m H ⟨0, 0, 0, o, (0, 0), []⟩ = allocH H m o from rfl] at this; omega⟩⟩
  have := do_wf (m := m) h.L.wf ⟨0, 0, 0, o, (0, 0), []⟩ ho.2.2.2.2.2 (show (Lit.int .i64 0).wf = true by decide)
  simpa [doH] using this
theorem plf_fill (h : Pl m b w0 H n col w) (hm : m ≤ 16777216) (k : Int) (hk : (Lit.int .i64 k).wf = true) (o : Ob) (a : Option Addr) (no c : Nat) (ho : ObW w o a no c) (E : Int) (HE : Hid (E = fillE H m k o)) (H' : List Th) (HH : Hid (H' = fillH H m k o)) :
    Calls Try.prog 14 #[.pointer (some ⟨b, 0, none⟩), .int .i64 k, .agg #[.int .u8 (o.k.toNat : Int), .int .i64 o.t, .slice a no c, .string (str o.s)]] w fun e w' => e = .returned (.int .i64 E) ∧ ∃ col', Hid (Pl m b w0 H' n col' w') := by
  obtain ⟨bm, bt, ks, at_, ts, tf, hH⟩ := h.A
  have hl9 := h.L.len
  refine (fill_p hH h.L.good hm k hk o a no c ho.1 (by have := ho.2.1; omega) (by have := ho.2.2.1; omega) ho.2.2.2.1 E HE H' HH).mono ?_
  rintro e w' ⟨rfl, col', h3, h4⟩
  have hH' := HH.out
  subst hH'
  refine ⟨rfl, col', Lib.hid ⟨h.K.trans (h3.mono hq_nz), h4, fill_keep h.L.good k o, ?_, by unfold fillH; split <;> (try rw [putTh_len]) <;> exact hl9⟩⟩
  have := do_wf (m := m) h.L.wf ⟨8, k, 0, o, (0, 0), []⟩ ho.2.2.2.2.2 (show (Lit.int .i64 0).wf = true by decide)
  simpa [doH] using this
theorem plf_set (h : Pl m b w0 H n col w) (k i : Int) (x : UInt8 × Int) (hk : (Lit.int .i64 k).wf = true) (hx : (Lit.int .i64 x.2).wf = true) (B : Bool) (hB : Hid (B = setIs H k i x)) (H' : List Th) (HH : Hid (H' = setH H k i x)) :
    Calls Try.prog 23 #[.pointer (some ⟨b, 0, none⟩), .int .i64 k, .int .i64 i, .agg #[.int .u8 (x.1.toNat : Int), .int .i64 x.2]] w fun e w' => e = .returned (.bool B) ∧ ∃ col', Hid (Pl m b w0 H' n col' w') := by
  obtain ⟨bm, bt, ks, at_, ts, tf, hH⟩ := h.A
  have hl9 := h.L.len
  refine (setWord_p hH h.L.good k i x hk B hB H' HH).mono ?_
  rintro e w' ⟨rfl, col', h3, h4⟩
  have hH' := HH.out
  subst hH'
  refine ⟨rfl, col', Lib.hid ⟨h.K.trans (h3.mono hq_nz), h4, set_keep h.L.good k i x, ?_, by unfold setH; split <;> (try rw [putTh_len]) <;> exact hl9⟩⟩
  have := do_wf (m := m) h.L.wf ⟨3, k, i, noOb, x, []⟩ (by intro y hy; cases hy) hx
  simpa [doH] using this
end
/-! ### what it comes to -/
def sOb (x : Nat) : Ob := ⟨8, x, [], []⟩
def fA (x : Nat) : List Th := [noTh, ⟨sOb x, true, x, false⟩]
def fB (x : Nat) (o : Ob) : List Th := [noTh, ⟨o, true, x, false⟩]
section
variable {x m : Nat} {o : Ob}
theorem sOb_may (h : 1 ≤ x ∧ x ≤ 16384) : mayO (sOb x) = true := by
  simp [mayO, mayN, sOb, lstN, mstN, fstN, lasN, oddL]
  omega
theorem fA_is (h : 1 ≤ x ∧ x ≤ 16384) (hm : 1 ≤ m) : allocE newH m (sOb x) = 0 ∧ allocN newH m (sOb x) = 1 ∧ allocH newH m (sOb x) = fA x := by
  have e0 : allocE newH m (sOb x) = 0 := by
    unfold allocE
    rw [sOb_may h, ofH_zero']
    have : usedH newH + sizeO (sOb x) = 1 := rfl
    rw [this]
    simp
    omega
  refine ⟨e0, by rw [allocN, e0]; rfl, ?_⟩
  rw [allocH, e0, if_pos rfl]
  rfl
theorem fA_of (h : 1 ≤ x ∧ x ≤ 16384) : ofH (fA x) x = 1 := by
  have : 0 < x := h.1
  simp [ofH, fA, ofP, noTh, this, List.findIdx_cons]
theorem fA_twice (h : 1 ≤ x ∧ x ≤ 16384) : allocE (fA x) m (sOb x) = 3 ∧ allocN (fA x) m (sOb x) = 0 ∧ allocH (fA x) m (sOb x) = fA x := by
  have e0 : allocE (fA x) m (sOb x) = 3 := by
    unfold allocE
    rw [sOb_may h, show (sOb x).t = x from rfl, fA_of h]
    simp [sOb]
  refine ⟨e0, by rw [allocN, e0]; rfl, by rw [allocH, e0]; rfl⟩
theorem fA_none : fillE (fA x) m 2 o = 7 ∧ fillH (fA x) m 2 o = fA x := ⟨rfl, rfl⟩
theorem fA_arg (h : mayO o = false ∨ o.k = 6 ∨ o.k = 7 ∨ o.k = 8) : fillE (fA x) m 1 o = 1 ∧ fillH (fA x) m 1 o = fA x := by
  have e : fillE (fA x) m 1 o = 1 := by
    unfold fillE
    rw [if_neg (by simp [fA, thAt]), if_neg (by simp [fA, thAt, sOb]), if_pos h]
  exact ⟨e, by rw [fillH, e]; rfl⟩
theorem fA_full (h : ¬ (mayO o = false ∨ o.k = 6 ∨ o.k = 7 ∨ o.k = 8)) (hs : m < sizeO o) : fillE (fA x) m 1 o = 6 ∧ fillH (fA x) m 1 o = fA x := by
  have e : fillE (fA x) m 1 o = 6 := by
    unfold fillE
    rw [if_neg (by simp [fA, thAt]), if_neg (by simp [fA, thAt, sOb]), if_neg h, if_pos (by show m + 1 < 1 + sizeO o; omega)]
  exact ⟨e, by rw [fillH, e]; rfl⟩
theorem fB_is (h : ¬ (mayO o = false ∨ o.k = 6 ∨ o.k = 7 ∨ o.k = 8)) (hs : sizeO o ≤ m) : fillE (fA x) m 1 o = 0 ∧ fillH (fA x) m 1 o = fB x o := by
  have e : fillE (fA x) m 1 o = 0 := by
    unfold fillE
    rw [if_neg (by simp [fA, thAt]), if_neg (by simp [fA, thAt, sOb]), if_neg h, if_neg (by show ¬ m + 1 < 1 + sizeO o; omega)]
  exact ⟨e, by rw [fillH, e]; rfl⟩
theorem fB_twice (h8 : o.k ≠ 8) : fillE (fB x o) m 1 o = 3 ∧ fillH (fB x o) m 1 o = fB x o := by
  have e : fillE (fB x o) m 1 o = 3 := by
    unfold fillE
    rw [if_neg (by simp [fB, thAt]), if_pos (by simpa [fB, thAt] using h8)]
  exact ⟨e, by rw [fillH, e]; rfl⟩
theorem fB_dirty : (dirtyL (fB x o)).length = 0 := rfl
def fSet (o : Ob) : Bool := (decide (o.k = 3) || decide (o.k = 4)) && decide (0 < o.l.length)
theorem fB_set : setIs (fB x o) 1 0 (1, 3) = fSet o := by
  simp [setIs, fB, thAt, wordyB, fSet, Bool.and_comm]
theorem fB_dirty2 (hx : 1 ≤ x) : (dirtyL (setH (fB x o) 1 0 (1, 3))).length = if fSet o then 1 else 0 := by
  rw [setH, fB_set]
  cases hf : fSet o with
  | false => rfl
  | true =>
    rw [if_pos rfl]
    have : putTh (fB x o) 1 (setTh (thAt (fB x o) 1) 0 (1, 3)) = [noTh, setTh ⟨o, true, x, false⟩ 0 (1, 3)] := rfl
    rw [this]
    have h2 : (setTh ⟨o, true, (x : Int), false⟩ 0 (1, 3)).dirty = true := decide_eq_true (by show (0 : Int) < x; omega)
    have h3 : (setTh ⟨o, true, (x : Int), false⟩ 0 (1, 3)).is = true := rfl
    generalize setTh ⟨o, true, (x : Int), false⟩ 0 (1, 3) = y at h2 h3
    simp [dirtyL, List.range_succ, List.range_zero, noTh, h2, h3]
end
theorem plf_stub {m b : Nat} {w0 : World} {H : List Th} {n : Nat} {col : Nat → Nat} {w : World} (h : Pl m b w0 H n col w) (hm : m ≤ 16777216) (hn : n ≤ 1000) (x : Nat) (hx : 1 ≤ x ∧ x ≤ 16384) (N E : Int) (HE : Hid (N = allocN H m (sOb x) ∧ E = allocE H m (sOb x))) (H' : List Th) (HH : Hid (H' = allocH H m (sOb x))) :
    Calls Try.prog 13 #[.pointer (some ⟨b, 0, none⟩), .agg #[.int .u8 8, .int .i64 (x : Nat), .slice none 0 0, .string ⟨#[]⟩]] w fun e w' => e = .returned (.tuple #[.int .i64 N, .int .i64 E]) ∧ ∃ col', Hid (Pl m b w0 H' (n + 1) col' w') :=
  plf_alloc h hm hn (sOb x) none 0 0 ⟨rfl, by decide, Nat.zero_le _, Sl.nil w 2, wf64 (by show (-9223372036854775808 : Int) ≤ (x : Nat); omega) (by show ((x : Nat) : Int) ≤ 9223372036854775807; omega), by intro y hy; cases hy⟩ N E HE H' HH
set_option maxHeartbeats 8000000 in
theorem heapFills_walk (p m : Nat) (hp : p < 65536) (h1m : 1 ≤ m) (h2m : m ≤ 256) (o : Ob) (a : Option Addr) (n c : Nat) (w : World) (ho : ObIn w [.int .u8 (o.k.toNat : Int), .int .i64 o.t, .slice a n c, .string (str o.s)] o a n c) :
    Calls Try.prog 3 #[.int .u16 (p : Nat), .agg #[.int .u8 (o.k.toNat : Int), .int .i64 o.t, .slice a n c, .string (str o.s)], .int .u8 ((m : Int) - 1)] w fun e w' => e = .returned (.bool true) ∧ Below w.heap.size w w' := by
  have HO := Lib.hid ho
  have hr47 := reach47
  have hnr := ho.nr
  have hsr := ho.sr
  have hszs : (str o.s).size = o.s.length := str_size _
  clear ho
  obtain ⟨w1, hw1⟩ : ∃ x, x = w.alloc (.cells #[.int .u8 (o.k.toNat : Int), .int .i64 o.t, .slice a n c, .string (str o.s)] 25) := ⟨_, rfl⟩
  have hb1 : Below w.heap.size w w1 := by rw [hw1]; exact (Below.refl _ _).alloc (Nat.le_refl _) _
  have hr1 : Row w1 w.heap.size 25 [.int .u8 (o.k.toNat : Int), .int .i64 o.t, .slice a n c, .string (str o.s)] := by rw [hw1]; exact Row.new w _ _
  obtain ⟨ns, hns⟩ : ∃ ns, ns = o.s.length := ⟨_, rfl⟩
  rw [← hns] at hszs hsr
  have HNS := Lib.hid hns
  clear hns
  have HR1 := Lib.hid hr1
  have c2 := hr1.cell 2
  have c3 := hr1.cell 3
  simp only [List.getElem?_cons_zero, List.getElem?_cons_succ] at c2 c3
  have hn9 : n ≤ 140737488355328 := by omega
  have hs9 : ns ≤ 140737488355328 := by omega
  clear hnr hsr hr47
  go_enter Try.func3, Try.ntmps3
  go_upto_region 1 with fail
  rw [← hw1]
  have HW1 := Lib.hid hw1
  have HB1 := Lib.hid hb1
  clear hw1 hr1 hb1
  by_cases hbig : (1024 : Int) < (n : Int) + (ns : Int)
  · go_wp2_with fail
    refine (works_any w1).mono ?_
    rintro e w2 ⟨rfl, hb2⟩
    go_wp2_with fail
    go_ret
    exact ⟨rfl, HB1.out.trans (hb2.mono HB1.out.size)⟩
  have hn3 : n ≤ 1024 := by omega
  have hs3 : ns ≤ 1024 := by omega
  have HW : Hid (ObW w1 o a n c) := Lib.hid ⟨HO.out.len, hn3, by rw [← HNS.out]; exact hs3, HO.out.sl.below HB1.out, HO.out.wt, HO.out.wf⟩
  go_upto_region 4 with fail
  clear hn9 hs9 hbig c2 c3
  obtain ⟨x, hx⟩ : ∃ x : Nat, x = 1 + p % 16384 := ⟨_, rfl⟩
  rw [show (1 : Int) + (p : Int) % 16384 = (x : Nat) by omega]
  have hx9 : 1 ≤ x ∧ x ≤ 16384 := by omega
  have hxx : ((x : Int) != (x : Int)) = false := by simp
  clear hx hp
  go_upto_region 5 with (go_at_call 12; rw [show (1 : Int) + ((m : Int) - 1) = (m : Nat) by omega]; refine (Pl.start ⟨h1m, by omega⟩ w1).mono ?_; rintro e w2 ⟨b, rfl, col2, P2⟩)
  have HX9 := Lib.hid hx9
  have hx90 : 1 ≤ x := hx9.1
  clear hx9
  go_wp2_with fail
  refine (plf_stub P2.out (by omega) (by decide) x HX9.out 1 0 (Lib.hid ⟨(fA_is HX9.out h1m).2.1.symm, (fA_is HX9.out h1m).1.symm⟩) (fA x) (Lib.hid (fA_is HX9.out h1m).2.2.symm)).mono ?_
  rintro e w3 ⟨rfl, col3, P3⟩
  clear P2
  go_wp2_with fail
  refine (plf_stub P3.out (by omega) (by decide) x HX9.out 0 3 (Lib.hid ⟨(fA_twice HX9.out).2.1.symm, (fA_twice HX9.out).1.symm⟩) (fA x) (Lib.hid (fA_twice HX9.out).2.2.symm)).mono ?_
  rintro e w4 ⟨rfl, col4, P4⟩
  clear P3
  have hrX := HR1.out.after (P4).out.below
  have c0 := hrX.cell 0
  have c1 := hrX.cell 1
  have c2 := hrX.cell 2
  have c3 := hrX.cell 3
  simp only [List.getElem?_cons_zero, List.getElem?_cons_succ] at c0 c1 c2 c3
  clear hrX
  go_wp2_with fail
  refine (plf_fill P4.out (by omega) 2 (by decide) o a n c (HW.out.below P4.out.below) 7 (Lib.hid (fA_none (m := m)).1.symm) (fA x) (Lib.hid (fA_none (m := m)).2.symm)).mono ?_
  rintro e w5 ⟨rfl, col5, P5⟩
  clear P4 c0 c1 c2 c3
  have hrX := HR1.out.after (P5).out.below
  have c0 := hrX.cell 0
  have c1 := hrX.cell 1
  have c2 := hrX.cell 2
  have c3 := hrX.cell 3
  simp only [List.getElem?_cons_zero, List.getElem?_cons_succ] at c0 c1 c2 c3
  clear hrX
  cases hM : mayO o with
  | false =>
    have HM := Lib.hid hM
    clear hM
    go_wp2_with fail
    refine (copy_any o.k.toNat o.t a n c o.l o.s _ (HW.out.below P5.out.below).2.2.2.1 (by omega)).mono ?_
    rintro e w6 ⟨vC, rfl, hoC, hbC⟩
    have P6 := Lib.hid (P5.out.down hbC)
    obtain ⟨aC, cC, rfl⟩ := hoC.form
    have HWC : Hid (ObW w6 o aC n cC) := Lib.hid ⟨HW.out.1, HW.out.2.1, HW.out.2.2.1, hoC.sl, HW.out.2.2.2.2⟩
    clear hoC hbC P5 c0 c1 c2 c3
    go_wp2_with fail
    refine (plf_fill P6.out (by omega) 1 (by decide) o aC n cC HWC.out 1 (Lib.hid ((fA_arg (x := x) (m := m) (.inl HM.out))).1.symm) (fA x) (Lib.hid ((fA_arg (x := x) (m := m) (.inl HM.out))).2.symm)).mono ?_
    rintro e w7 ⟨rfl, col7, P7⟩
    clear P6 HWC
    have hrX := HR1.out.after (P7).out.below
    have c0 := hrX.cell 0
    have c1 := hrX.cell 1
    have c2 := hrX.cell 2
    have c3 := hrX.cell 3
    simp only [List.getElem?_cons_zero, List.getElem?_cons_succ] at c0 c1 c2 c3
    clear hrX
    go_wp2_with fail
    refine (mayR_any o a n c _ (HW.out.below P7.out.below).2.2.2.1 (by omega) false (Lib.hid HM.out.symm)).mono ?_
    rintro e w8 ⟨rfl, hb8⟩
    have P8 := Lib.hid (P7.out.down hb8)
    clear P7 hb8 c0 c1 c2 c3
    have hrX := HR1.out.after (P8).out.below
    have c0 := hrX.cell 0
    have c1 := hrX.cell 1
    have c2 := hrX.cell 2
    have c3 := hrX.cell 3
    simp only [List.getElem?_cons_zero, List.getElem?_cons_succ] at c0 c1 c2 c3
    clear hrX
    go_wp2_with fail
    refine (works_any _).mono ?_
    rintro e w9 ⟨rfl, hb9⟩
    have P9 := Lib.hid (P8.out.down hb9)
    go_wp2_with fail
    go_ret
    exact ⟨rfl, HB1.out.trans (P9.out.below.mono HB1.out.size)⟩
  | true =>
    have HM := Lib.hid hM
    clear hM
    by_cases k6 : o.k = 6
    · have K6 := Lib.hid k6
      have k6' : ((o.k.toNat : Int) != 6) = false := by rw [k6]; rfl
      clear k6
      go_wp2_with fail
      refine (copy_any o.k.toNat o.t a n c o.l o.s _ (HW.out.below P5.out.below).2.2.2.1 (by omega)).mono ?_
      rintro e w6 ⟨vC, rfl, hoC, hbC⟩
      have P6 := Lib.hid (P5.out.down hbC)
      obtain ⟨aC, cC, rfl⟩ := hoC.form
      have HWC : Hid (ObW w6 o aC n cC) := Lib.hid ⟨HW.out.1, HW.out.2.1, HW.out.2.2.1, hoC.sl, HW.out.2.2.2.2⟩
      clear hoC hbC P5 c0 c1 c2 c3
      go_wp2_with fail
      refine (plf_fill P6.out (by omega) 1 (by decide) o aC n cC HWC.out 1 (Lib.hid ((fA_arg (x := x) (m := m) (.inr (.inl K6.out)))).1.symm) (fA x) (Lib.hid ((fA_arg (x := x) (m := m) (.inr (.inl K6.out)))).2.symm)).mono ?_
      rintro e w7 ⟨rfl, col7, P7⟩
      clear P6 HWC
      have hrX := HR1.out.after (P7).out.below
      have c0 := hrX.cell 0
      have c1 := hrX.cell 1
      have c2 := hrX.cell 2
      have c3 := hrX.cell 3
      simp only [List.getElem?_cons_zero, List.getElem?_cons_succ] at c0 c1 c2 c3
      clear hrX
      go_wp2_with fail
      refine (mayR_any o a n c _ (HW.out.below P7.out.below).2.2.2.1 (by omega) true (Lib.hid HM.out.symm)).mono ?_
      rintro e w8 ⟨rfl, hb8⟩
      have P8 := Lib.hid (P7.out.down hb8)
      clear P7 hb8 c0 c1 c2 c3
      have hrX := HR1.out.after (P8).out.below
      have c0 := hrX.cell 0
      have c1 := hrX.cell 1
      have c2 := hrX.cell 2
      have c3 := hrX.cell 3
      simp only [List.getElem?_cons_zero, List.getElem?_cons_succ] at c0 c1 c2 c3
      clear hrX
      go_wp2_with fail
      refine (works_any _).mono ?_
      rintro e w9 ⟨rfl, hb9⟩
      have P9 := Lib.hid (P8.out.down hb9)
      go_wp2_with fail
      go_ret
      exact ⟨rfl, HB1.out.trans (P9.out.below.mono HB1.out.size)⟩
    have k6' : ((o.k.toNat : Int) != 6) = true := by simp; intro e; exact k6 (u8_eq.2 (by have : (6 : UInt8).toNat = 6 := rfl; omega))
    by_cases k7 : o.k = 7
    · have K7 := Lib.hid k7
      have k7' : ((o.k.toNat : Int) != 7) = false := by rw [k7]; rfl
      clear k7 k6
      go_wp2_with fail
      refine (copy_any o.k.toNat o.t a n c o.l o.s _ (HW.out.below P5.out.below).2.2.2.1 (by omega)).mono ?_
      rintro e w6 ⟨vC, rfl, hoC, hbC⟩
      have P6 := Lib.hid (P5.out.down hbC)
      obtain ⟨aC, cC, rfl⟩ := hoC.form
      have HWC : Hid (ObW w6 o aC n cC) := Lib.hid ⟨HW.out.1, HW.out.2.1, HW.out.2.2.1, hoC.sl, HW.out.2.2.2.2⟩
      clear hoC hbC P5 c0 c1 c2 c3
      go_wp2_with fail
      refine (plf_fill P6.out (by omega) 1 (by decide) o aC n cC HWC.out 1 (Lib.hid ((fA_arg (x := x) (m := m) (.inr (.inr (.inl K7.out))))).1.symm) (fA x) (Lib.hid ((fA_arg (x := x) (m := m) (.inr (.inr (.inl K7.out))))).2.symm)).mono ?_
      rintro e w7 ⟨rfl, col7, P7⟩
      clear P6 HWC
      have hrX := HR1.out.after (P7).out.below
      have c0 := hrX.cell 0
      have c1 := hrX.cell 1
      have c2 := hrX.cell 2
      have c3 := hrX.cell 3
      simp only [List.getElem?_cons_zero, List.getElem?_cons_succ] at c0 c1 c2 c3
      clear hrX
      go_wp2_with fail
      refine (mayR_any o a n c _ (HW.out.below P7.out.below).2.2.2.1 (by omega) true (Lib.hid HM.out.symm)).mono ?_
      rintro e w8 ⟨rfl, hb8⟩
      have P8 := Lib.hid (P7.out.down hb8)
      clear P7 hb8 c0 c1 c2 c3
      have hrX := HR1.out.after (P8).out.below
      have c0 := hrX.cell 0
      have c1 := hrX.cell 1
      have c2 := hrX.cell 2
      have c3 := hrX.cell 3
      simp only [List.getElem?_cons_zero, List.getElem?_cons_succ] at c0 c1 c2 c3
      clear hrX
      go_wp2_with fail
      refine (works_any _).mono ?_
      rintro e w9 ⟨rfl, hb9⟩
      have P9 := Lib.hid (P8.out.down hb9)
      go_wp2_with fail
      go_ret
      exact ⟨rfl, HB1.out.trans (P9.out.below.mono HB1.out.size)⟩
    have k7' : ((o.k.toNat : Int) != 7) = true := by simp; intro e; exact k7 (u8_eq.2 (by have : (7 : UInt8).toNat = 7 := rfl; omega))
    by_cases k8 : o.k = 8
    · have K8 := Lib.hid k8
      have k8' : ((o.k.toNat : Int) != 8) = false := by rw [k8]; rfl
      clear k8 k7 k6
      go_wp2_with fail
      refine (copy_any o.k.toNat o.t a n c o.l o.s _ (HW.out.below P5.out.below).2.2.2.1 (by omega)).mono ?_
      rintro e w6 ⟨vC, rfl, hoC, hbC⟩
      have P6 := Lib.hid (P5.out.down hbC)
      obtain ⟨aC, cC, rfl⟩ := hoC.form
      have HWC : Hid (ObW w6 o aC n cC) := Lib.hid ⟨HW.out.1, HW.out.2.1, HW.out.2.2.1, hoC.sl, HW.out.2.2.2.2⟩
      clear hoC hbC P5 c0 c1 c2 c3
      go_wp2_with fail
      refine (plf_fill P6.out (by omega) 1 (by decide) o aC n cC HWC.out 1 (Lib.hid ((fA_arg (x := x) (m := m) (.inr (.inr (.inr K8.out))))).1.symm) (fA x) (Lib.hid ((fA_arg (x := x) (m := m) (.inr (.inr (.inr K8.out))))).2.symm)).mono ?_
      rintro e w7 ⟨rfl, col7, P7⟩
      clear P6 HWC
      have hrX := HR1.out.after (P7).out.below
      have c0 := hrX.cell 0
      have c1 := hrX.cell 1
      have c2 := hrX.cell 2
      have c3 := hrX.cell 3
      simp only [List.getElem?_cons_zero, List.getElem?_cons_succ] at c0 c1 c2 c3
      clear hrX
      go_wp2_with fail
      refine (mayR_any o a n c _ (HW.out.below P7.out.below).2.2.2.1 (by omega) true (Lib.hid HM.out.symm)).mono ?_
      rintro e w8 ⟨rfl, hb8⟩
      have P8 := Lib.hid (P7.out.down hb8)
      clear P7 hb8 c0 c1 c2 c3
      have hrX := HR1.out.after (P8).out.below
      have c0 := hrX.cell 0
      have c1 := hrX.cell 1
      have c2 := hrX.cell 2
      have c3 := hrX.cell 3
      simp only [List.getElem?_cons_zero, List.getElem?_cons_succ] at c0 c1 c2 c3
      clear hrX
      go_wp2_with fail
      refine (works_any _).mono ?_
      rintro e w9 ⟨rfl, hb9⟩
      have P9 := Lib.hid (P8.out.down hb9)
      go_wp2_with fail
      go_ret
      exact ⟨rfl, HB1.out.trans (P9.out.below.mono HB1.out.size)⟩
    have k8' : ((o.k.toNat : Int) != 8) = true := by simp; intro e; exact k8 (u8_eq.2 (by have : (8 : UInt8).toNat = 8 := rfl; omega))
    have HN : Hid (¬ (mayO o = false ∨ o.k = 6 ∨ o.k = 7 ∨ o.k = 8)) := Lib.hid (by rintro (h | h | h | h); rw [HM.out] at h; cases h; exact k6 h; exact k7 h; exact k8 h)
    have HK8 := Lib.hid k8
    clear k6 k7 k8
    obtain ⟨Z, hZ⟩ : ∃ Z, Z = sizeO o := ⟨_, rfl⟩
    have HZ := Lib.hid hZ
    clear hZ
    by_cases hz : m < Z
    · have hz' : (1 : Int) + ((m : Int) - 1) < (Z : Int) := by omega
      go_wp2_with fail
      refine (copy_any o.k.toNat o.t a n c o.l o.s _ (HW.out.below P5.out.below).2.2.2.1 (by omega)).mono ?_
      rintro e w6 ⟨vC, rfl, hoC, hbC⟩
      have P6 := Lib.hid (P5.out.down hbC)
      obtain ⟨aC, cC, rfl⟩ := hoC.form
      have HWC : Hid (ObW w6 o aC n cC) := Lib.hid ⟨HW.out.1, HW.out.2.1, HW.out.2.2.1, hoC.sl, HW.out.2.2.2.2⟩
      clear hoC hbC P5 c0 c1 c2 c3
      go_wp2_with fail
      refine (plf_fill P6.out (by omega) 1 (by decide) o aC n cC HWC.out 6 (Lib.hid ((fA_full (x := x) (m := m) HN.out (by rw [← HZ.out]; exact hz))).1.symm) (fA x) (Lib.hid ((fA_full (x := x) (m := m) HN.out (by rw [← HZ.out]; exact hz))).2.symm)).mono ?_
      rintro e w7 ⟨rfl, col7, P7⟩
      clear P6 HWC
      have hrX := HR1.out.after (P7).out.below
      have c0 := hrX.cell 0
      have c1 := hrX.cell 1
      have c2 := hrX.cell 2
      have c3 := hrX.cell 3
      simp only [List.getElem?_cons_zero, List.getElem?_cons_succ] at c0 c1 c2 c3
      clear hrX
      go_wp2_with fail
      refine (mayR_any o a n c _ (HW.out.below P7.out.below).2.2.2.1 (by omega) true (Lib.hid HM.out.symm)).mono ?_
      rintro e w8 ⟨rfl, hb8⟩
      have P8 := Lib.hid (P7.out.down hb8)
      clear P7 hb8 c0 c1 c2 c3
      have hrX := HR1.out.after (P8).out.below
      have c0 := hrX.cell 0
      have c1 := hrX.cell 1
      have c2 := hrX.cell 2
      have c3 := hrX.cell 3
      simp only [List.getElem?_cons_zero, List.getElem?_cons_succ] at c0 c1 c2 c3
      clear hrX
      go_wp2_with fail
      refine (size_any o a n c _ _ HW.out.1 rfl (by omega) (by have := HW.out.2.2.1; omega) Z HZ).mono ?_
      rintro e w9 ⟨rfl, hb9⟩
      have P9 := Lib.hid (P8.out.down hb9)
      clear P8 hb9 c0 c1 c2 c3
      go_wp2_with fail
      refine (pl_used P9.out 1 (Lib.hid rfl)).mono ?_
      rintro e w10 ⟨rfl, rfl⟩
      have P8 := P9
      go_wp2_with fail
      refine (works_any _).mono ?_
      rintro e w9 ⟨rfl, hb9⟩
      have P9 := Lib.hid (P8.out.down hb9)
      go_wp2_with fail
      go_ret
      exact ⟨rfl, HB1.out.trans (P9.out.below.mono HB1.out.size)⟩
    · have hz' : ¬ (1 : Int) + ((m : Int) - 1) < (Z : Int) := by omega
      go_wp2_with fail
      refine (copy_any o.k.toNat o.t a n c o.l o.s _ (HW.out.below P5.out.below).2.2.2.1 (by omega)).mono ?_
      rintro e w6 ⟨vC, rfl, hoC, hbC⟩
      have P6 := Lib.hid (P5.out.down hbC)
      obtain ⟨aC, cC, rfl⟩ := hoC.form
      have HWC : Hid (ObW w6 o aC n cC) := Lib.hid ⟨HW.out.1, HW.out.2.1, HW.out.2.2.1, hoC.sl, HW.out.2.2.2.2⟩
      clear hoC hbC P5 c0 c1 c2 c3
      go_wp2_with fail
      refine (plf_fill P6.out (by omega) 1 (by decide) o aC n cC HWC.out 0 (Lib.hid ((fB_is (x := x) (m := m) HN.out (by rw [← HZ.out]; omega))).1.symm) (fB x o) (Lib.hid ((fB_is (x := x) (m := m) HN.out (by rw [← HZ.out]; omega))).2.symm)).mono ?_
      rintro e w7 ⟨rfl, col7, P7⟩
      clear P6 HWC
      have hrX := HR1.out.after (P7).out.below
      have c0 := hrX.cell 0
      have c1 := hrX.cell 1
      have c2 := hrX.cell 2
      have c3 := hrX.cell 3
      simp only [List.getElem?_cons_zero, List.getElem?_cons_succ] at c0 c1 c2 c3
      clear hrX
      go_wp2_with fail
      refine (mayR_any o a n c _ (HW.out.below P7.out.below).2.2.2.1 (by omega) true (Lib.hid HM.out.symm)).mono ?_
      rintro e w8 ⟨rfl, hb8⟩
      have P8 := Lib.hid (P7.out.down hb8)
      clear P7 hb8 c0 c1 c2 c3
      have hrX := HR1.out.after (P8).out.below
      have c0 := hrX.cell 0
      have c1 := hrX.cell 1
      have c2 := hrX.cell 2
      have c3 := hrX.cell 3
      simp only [List.getElem?_cons_zero, List.getElem?_cons_succ] at c0 c1 c2 c3
      clear hrX
      go_wp2_with fail
      refine (size_any o a n c _ _ HW.out.1 rfl (by omega) (by have := HW.out.2.2.1; omega) Z HZ).mono ?_
      rintro e w9 ⟨rfl, hb9⟩
      have P9 := Lib.hid (P8.out.down hb9)
      clear P8 hb9 c0 c1 c2 c3
      go_wp2_with fail
      refine (pl_get P9.out (by omega) 1 (by decide)).mono ?_
      rintro e w10 ⟨o7, is7, a7, n7, c7, rfl, H7, P10, hb10⟩
      obtain rfl : is7 = true := H7.out.2.1
      obtain rfl : o7 = o := H7.out.1
      obtain rfl : n7 = n := by rw [← HW.out.1]; exact H7.out.2.2.1.symm
      have S10 := Lib.hid H7.out.2.2.2.sl
      clear P9 H7 hb10
      go_upto_region 18 with (refine wpL_storeRow rfl _ _ _ rfl (cs := [.int .u8 (o7.k.toNat : Int), .int .i64 o7.t, .slice a7 n7 c7, .string (str o7.s)]) rfl rfl (Row.new _ _ _) (by kernel_rfl) rfl rfl ?_; intro w11 hg11 hr11)
      have hb11 : Below w10.heap.size w10 w11 := below_grown ((Below.refl _ _).alloc (Nat.le_refl _) _) hg11 (Nat.le_refl _) (by simp)
      have P11 := Lib.hid (P10.out.down hb11)
      have HR11 := Lib.hid hr11
      have S11 := Lib.hid (S10.out.below hb11)
      clear hg11 hr11 hb11 P10 S10
      have hx0 : (0 : Int) < (x : Int) := by omega
      go_wp2_with fail
      refine (plz_oid P11.out 1 (by decide) (x : Nat) (Lib.hid rfl)).mono ?_
      rintro e w12 ⟨rfl, hb12⟩
      have P12 := Lib.hid (P11.out.down hb12)
      have hr12 := HR11.out.after hb12
      have S12 := Lib.hid (S11.out.below hb12)
      have p0 := hr12.cell 0
      have p1 := hr12.cell 1
      have p2 := hr12.cell 2
      have p3 := hr12.cell 3
      simp only [List.getElem?_cons_zero, List.getElem?_cons_succ] at p0 p1 p2 p3
      clear hr12 hb12 P11 S11 HR11
      have hrX := HR1.out.after (P12).out.below
      have c0 := hrX.cell 0
      have c1 := hrX.cell 1
      have c2 := hrX.cell 2
      have c3 := hrX.cell 3
      simp only [List.getElem?_cons_zero, List.getElem?_cons_succ] at c0 c1 c2 c3
      clear hrX
      go_wp2_with fail
      refine (same_t o7.k.toNat o7.t a7 n7 c7 a c o7.l o7.s _ S12.out (HW.out.below P12.out.below).2.2.2.1).mono ?_
      rintro e w13 ⟨rfl, hb13⟩
      have P13 := Lib.hid (P12.out.down hb13)
      clear P12 S12 hb13 p0 p1 p2 p3 c0 c1 c2 c3
      have hrX := HR1.out.after (P13).out.below
      have c0 := hrX.cell 0
      have c1 := hrX.cell 1
      have c2 := hrX.cell 2
      have c3 := hrX.cell 3
      simp only [List.getElem?_cons_zero, List.getElem?_cons_succ] at c0 c1 c2 c3
      clear hrX
      go_wp2_with fail
      refine (plz_dirty P13.out (by decide) 0 (Lib.hid rfl)).mono ?_
      rintro e w23 ⟨a23, c23, rfl, ho23, hb23⟩
      have P23 := Lib.hid (P13.out.down hb23)
      clear P13 hb23 ho23 c0 c1 c2 c3
      have hrX := HR1.out.after (P23).out.below
      have c0 := hrX.cell 0
      have c1 := hrX.cell 1
      have c2 := hrX.cell 2
      have c3 := hrX.cell 3
      simp only [List.getElem?_cons_zero, List.getElem?_cons_succ] at c0 c1 c2 c3
      clear hrX
      go_wp2_with fail
      refine (plf_fill P23.out (by omega) 1 (by decide) o7 a n7 c (HW.out.below P23.out.below) 3 (Lib.hid (fB_twice HK8.out).1.symm) (fB x o7) (Lib.hid (fB_twice HK8.out).2.symm)).mono ?_
      rintro e w14 ⟨rfl, col14, P14⟩
      clear P23 c0 c1 c2 c3
      have hrX := HR1.out.after (P14).out.below
      have c0 := hrX.cell 0
      have c1 := hrX.cell 1
      have c2 := hrX.cell 2
      have c3 := hrX.cell 3
      simp only [List.getElem?_cons_zero, List.getElem?_cons_succ] at c0 c1 c2 c3
      clear hrX
      obtain ⟨q, hq⟩ : ∃ q, q = o7.k.toNat := ⟨_, rfl⟩
      rw [← hq] at c0
      have HK9 : Hid ((o7.k = 3 ↔ q = 3) ∧ (o7.k = 4 ↔ q = 4)) := Lib.hid (by rw [hq]; exact ⟨u8_eq, u8_eq⟩)
      have HSF : Hid (fSet o7 = ((decide (q = 3) || decide (q = 4)) && decide (0 < n7))) := Lib.hid (by rw [fSet, decide_eq_decide.2 HK9.out.1, decide_eq_decide.2 HK9.out.2, HW.out.1])
      have HKQ := Lib.hid hq
      clear hq k6' k7' k8'
      by_cases n0 : n7 = 0
      · subst n0
        by_cases q3 : q = 3
        · subst q3
          have HS : Hid (fSet o7 = false) := Lib.hid (by rw [HSF.out]; simp; try omega)
          go_wp2_with fail
          refine (number_any 3 _).mono ?_
          rintro e w15 ⟨rfl, hb15⟩
          have P15 := Lib.hid (P14.out.down hb15)
          clear P14 hb15 c0 c1 c2 c3
          go_wp2_with fail
          refine (plf_set P15.out 1 0 (1, 3) (by decide) (by decide) false (Lib.hid (by rw [fB_set, HS.out])) _ (Lib.hid rfl)).mono ?_
          rintro e w16 ⟨rfl, col16, P16⟩
          have HDN : Hid (0 = (dirtyL (setH (fB x o7) 1 0 (1, 3))).length) := Lib.hid (by rw [fB_dirty2 hx90, HS.out]; rfl)
          clear P15
          go_wp2_with fail
          refine (plz_dirty P16.out (by decide) 0 HDN).mono ?_
          rintro e w17 ⟨a17, c17, rfl, ho17, hb17⟩
          have P17 := Lib.hid (P16.out.down hb17)
          clear P16 ho17 hb17
          go_wp2_with fail
          refine (works_any _).mono ?_
          rintro e w18 ⟨rfl, hb18⟩
          have P18 := Lib.hid (P17.out.down hb18)
          go_wp2_with fail
          go_ret
          exact ⟨rfl, HB1.out.trans (P18.out.below.mono HB1.out.size)⟩
        · have q3' : ((q : Int) == 3) = false := by simp; omega
          by_cases q4 : q = 4
          · subst q4
            have HS : Hid (fSet o7 = false) := Lib.hid (by rw [HSF.out]; simp; try omega)
            go_wp2_with fail
            refine (number_any 3 _).mono ?_
            rintro e w15 ⟨rfl, hb15⟩
            have P15 := Lib.hid (P14.out.down hb15)
            clear P14 hb15 c0 c1 c2 c3
            go_wp2_with fail
            refine (plf_set P15.out 1 0 (1, 3) (by decide) (by decide) false (Lib.hid (by rw [fB_set, HS.out])) _ (Lib.hid rfl)).mono ?_
            rintro e w16 ⟨rfl, col16, P16⟩
            have HDN : Hid (0 = (dirtyL (setH (fB x o7) 1 0 (1, 3))).length) := Lib.hid (by rw [fB_dirty2 hx90, HS.out]; rfl)
            clear P15
            go_wp2_with fail
            refine (plz_dirty P16.out (by decide) 0 HDN).mono ?_
            rintro e w17 ⟨a17, c17, rfl, ho17, hb17⟩
            have P17 := Lib.hid (P16.out.down hb17)
            clear P16 ho17 hb17
            go_wp2_with fail
            refine (works_any _).mono ?_
            rintro e w18 ⟨rfl, hb18⟩
            have P18 := Lib.hid (P17.out.down hb18)
            go_wp2_with fail
            go_ret
            exact ⟨rfl, HB1.out.trans (P18.out.below.mono HB1.out.size)⟩
          · have q4' : ((q : Int) == 4) = false := by simp; omega
            have HS : Hid (fSet o7 = false) := Lib.hid (by rw [HSF.out]; simp; try omega)
            go_wp2_with fail
            refine (number_any 3 _).mono ?_
            rintro e w15 ⟨rfl, hb15⟩
            have P15 := Lib.hid (P14.out.down hb15)
            clear P14 hb15 c0 c1 c2 c3
            go_wp2_with fail
            refine (plf_set P15.out 1 0 (1, 3) (by decide) (by decide) false (Lib.hid (by rw [fB_set, HS.out])) _ (Lib.hid rfl)).mono ?_
            rintro e w16 ⟨rfl, col16, P16⟩
            have HDN : Hid (0 = (dirtyL (setH (fB x o7) 1 0 (1, 3))).length) := Lib.hid (by rw [fB_dirty2 hx90, HS.out]; rfl)
            clear P15
            go_wp2_with fail
            refine (plz_dirty P16.out (by decide) 0 HDN).mono ?_
            rintro e w17 ⟨a17, c17, rfl, ho17, hb17⟩
            have P17 := Lib.hid (P16.out.down hb17)
            clear P16 ho17 hb17
            go_wp2_with fail
            refine (works_any _).mono ?_
            rintro e w18 ⟨rfl, hb18⟩
            have P18 := Lib.hid (P17.out.down hb18)
            go_wp2_with fail
            go_ret
            exact ⟨rfl, HB1.out.trans (P18.out.below.mono HB1.out.size)⟩
      · have n0' : (0 : Int) < n7 := by omega
        by_cases q3 : q = 3
        · subst q3
          have HS : Hid (fSet o7 = true) := Lib.hid (by rw [HSF.out]; simp; try omega)
          go_wp2_with fail
          refine (number_any 3 _).mono ?_
          rintro e w15 ⟨rfl, hb15⟩
          have P15 := Lib.hid (P14.out.down hb15)
          clear P14 hb15 c0 c1 c2 c3
          go_wp2_with fail
          refine (plf_set P15.out 1 0 (1, 3) (by decide) (by decide) true (Lib.hid (by rw [fB_set, HS.out])) _ (Lib.hid rfl)).mono ?_
          rintro e w16 ⟨rfl, col16, P16⟩
          have HDN : Hid (1 = (dirtyL (setH (fB x o7) 1 0 (1, 3))).length) := Lib.hid (by rw [fB_dirty2 hx90, HS.out]; rfl)
          clear P15
          go_wp2_with fail
          refine (plz_dirty P16.out (by decide) 1 HDN).mono ?_
          rintro e w17 ⟨a17, c17, rfl, ho17, hb17⟩
          have P17 := Lib.hid (P16.out.down hb17)
          clear P16 ho17 hb17
          go_wp2_with fail
          refine (works_any _).mono ?_
          rintro e w18 ⟨rfl, hb18⟩
          have P18 := Lib.hid (P17.out.down hb18)
          go_wp2_with fail
          go_ret
          exact ⟨rfl, HB1.out.trans (P18.out.below.mono HB1.out.size)⟩
        · have q3' : ((q : Int) == 3) = false := by simp; omega
          by_cases q4 : q = 4
          · subst q4
            have HS : Hid (fSet o7 = true) := Lib.hid (by rw [HSF.out]; simp; try omega)
            go_wp2_with fail
            refine (number_any 3 _).mono ?_
            rintro e w15 ⟨rfl, hb15⟩
            have P15 := Lib.hid (P14.out.down hb15)
            clear P14 hb15 c0 c1 c2 c3
            go_wp2_with fail
            refine (plf_set P15.out 1 0 (1, 3) (by decide) (by decide) true (Lib.hid (by rw [fB_set, HS.out])) _ (Lib.hid rfl)).mono ?_
            rintro e w16 ⟨rfl, col16, P16⟩
            have HDN : Hid (1 = (dirtyL (setH (fB x o7) 1 0 (1, 3))).length) := Lib.hid (by rw [fB_dirty2 hx90, HS.out]; rfl)
            clear P15
            go_wp2_with fail
            refine (plz_dirty P16.out (by decide) 1 HDN).mono ?_
            rintro e w17 ⟨a17, c17, rfl, ho17, hb17⟩
            have P17 := Lib.hid (P16.out.down hb17)
            clear P16 ho17 hb17
            go_wp2_with fail
            refine (works_any _).mono ?_
            rintro e w18 ⟨rfl, hb18⟩
            have P18 := Lib.hid (P17.out.down hb18)
            go_wp2_with fail
            go_ret
            exact ⟨rfl, HB1.out.trans (P18.out.below.mono HB1.out.size)⟩
          · have q4' : ((q : Int) == 4) = false := by simp; omega
            have HS : Hid (fSet o7 = false) := Lib.hid (by rw [HSF.out]; simp; try omega)
            go_wp2_with fail
            refine (number_any 3 _).mono ?_
            rintro e w15 ⟨rfl, hb15⟩
            have P15 := Lib.hid (P14.out.down hb15)
            clear P14 hb15 c0 c1 c2 c3
            go_wp2_with fail
            refine (plf_set P15.out 1 0 (1, 3) (by decide) (by decide) false (Lib.hid (by rw [fB_set, HS.out])) _ (Lib.hid rfl)).mono ?_
            rintro e w16 ⟨rfl, col16, P16⟩
            have HDN : Hid (0 = (dirtyL (setH (fB x o7) 1 0 (1, 3))).length) := Lib.hid (by rw [fB_dirty2 hx90, HS.out]; rfl)
            clear P15
            go_wp2_with fail
            refine (plz_dirty P16.out (by decide) 0 HDN).mono ?_
            rintro e w17 ⟨a17, c17, rfl, ho17, hb17⟩
            have P17 := Lib.hid (P16.out.down hb17)
            clear P16 ho17 hb17
            go_wp2_with fail
            refine (works_any _).mono ?_
            rintro e w18 ⟨rfl, hb18⟩
            have P18 := Lib.hid (P17.out.down hb18)
            go_wp2_with fail
            go_ret
            exact ⟨rfl, HB1.out.trans (P18.out.below.mono HB1.out.size)⟩
theorem heapFills_any (x y : Int) (hx : (Lit.int .u16 x).wf = true) (hy : (Lit.int .u8 y).wf = true) (c0 : List Value) (d : UInt8 × Int × List (UInt8 × Int) × List UInt8) (w : World) (h : VObj w c0 d) :
    Calls Try.prog 3 #[.int .u16 x, .agg c0.toArray, .int .u8 y] w fun e w' => e = .returned (.bool true) ∧ Below w.heap.size w w' := by
  obtain ⟨o, a, n, c, ho⟩ := obj_open h
  have hcs := ho.cs
  subst hcs
  have hx9 : 0 ≤ x ∧ x ≤ 65535 := by simpa [Lit.wf, IntKind.min, IntKind.max, IntKind.signed, IntKind.bits] using hx
  have hy9 : 0 ≤ y ∧ y ≤ 255 := by simpa [Lit.wf, IntKind.min, IntKind.max, IntKind.signed, IntKind.bits] using hy
  have := heapFills_walk x.toNat (y + 1).toNat (by omega) (by omega) (by omega) o a n c w ho
  rw [show (((y + 1).toNat : Nat) : Int) - 1 = y by omega, show ((x.toNat : Nat) : Int) = x by omega] at this
  exact this
end Go.Proofs.Ytekmgffjdheifaa
