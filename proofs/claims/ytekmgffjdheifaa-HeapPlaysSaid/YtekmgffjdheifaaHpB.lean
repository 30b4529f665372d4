/-
  What a heap tells: New, Get, Word, Oid, Of, Used, Count, Limit. Conditions: the heap reads as one.
-/
import Derived.Test.YtekmgffjdheifaaHpA
namespace Go.Proofs.Ytekmgffjdheifaa
open Go.RowKit
set_option linter.unusedVariables false
set_option linter.unusedSimpArgs false
set_option maxRecDepth 100000

theorem results_cell_objB {fn : Func} {p u : Tmp} (h : fn.results = #[.cell p 25, .tmp u]) {tmps : Array Value} {w : World} {b : Nat} {x0 x1 x2 x3 : Value} (hp : tmps.getD p undef = .pointer (some ⟨b, 0, none⟩)) (hr : Row w b 25 [x0, x1, x2, x3]) :
    (results fn tmps).run Try.prog w = .ok (.tuple #[.agg #[x0, x1, x2, x3], tmps.getD u undef]) w := by
  rw [results_cell_tmp h, hp]
  have c0 := hr.cell 0
  have c1 := hr.cell 1
  have c2 := hr.cell 2
  have c3 := hr.cell 3
  simp only [List.getElem?_cons_zero, List.getElem?_cons_succ] at c0 c1 c2 c3
  have hz : Try.t25.size = 4 := by kernel_rfl
  simp [go_sem, loadVar, isAgg, run_underlying Try.underlying25, sizeOf, hz, c0, c1, c2, c3]
theorem results_cell_wordB {fn : Func} {p u : Tmp} (h : fn.results = #[.cell p 47, .tmp u]) {tmps : Array Value} {w : World} {b : Nat} {x0 x1 : Value} (hp : tmps.getD p undef = .pointer (some ⟨b, 0, none⟩)) (hr : Row w b 47 [x0, x1]) :
    (results fn tmps).run Try.prog w = .ok (.tuple #[.agg #[x0, x1], tmps.getD u undef]) w := by
  rw [results_cell_tmp h, hp]
  have c0 := hr.cell 0
  have c1 := hr.cell 1
  simp only [List.getElem?_cons_zero, List.getElem?_cons_succ] at c0 c1
  have hz : Try.t47.size = 2 := by kernel_rfl
  simp [go_sem, loadVar, isAgg, run_underlying Try.underlying47, sizeOf, hz, c0, c1]
theorem results_cell_obj1 {fn : Func} {p : Tmp} (h : fn.results = #[.cell p 25]) {tmps : Array Value} {w : World} {b : Nat} {x0 x1 x2 x3 : Value} (hp : tmps.getD p undef = .pointer (some ⟨b, 0, none⟩)) (hr : Row w b 25 [x0, x1, x2, x3]) :
    (results fn tmps).run Try.prog w = .ok (.agg #[x0, x1, x2, x3]) w :=
  results_cell_row (P := Try.prog) h tmps w b 25 #[x0, x1, x2, x3] (0, 0) _ hp hr Try.underlying25 rfl (by kernel_rfl)
set_option maxHeartbeats 1600000 in
theorem cloneO_any (k : Nat) (t : Int) (a : Option Addr) (n c : Nat) (l : List (UInt8 × Int)) (s : ByteArray) (w : World) (hl : Sl w 2 (.slice a n c) n (wcells l)) (hn9 : n ≤ 1073741824) :
    Calls Try.prog 46 #[.agg #[.int .u8 (k : Int), .int .i64 t, .slice a n c, .string s]] w fun e w' => ∃ v, e = .returned (.agg #[.int .u8 (k : Int), .int .i64 t, v, .string s]) ∧ Own w' w.heap.size 2 v n (wcells l) ∧ Below w.heap.size w w' := by
  go_enter Try.func46, Try.ntmps46
  go_upto_region 1 with fail
  have hb1 : Below w.heap.size w ((w.alloc (.cells #[.int .u8 (k : Int), .int .i64 t, .slice a n c, .string s] 25)).alloc (.cells #[.int .u8 0, .int .i64 0, .slice none 0 0, .string ⟨#[]⟩] 25)) := ((Below.refl _ _).alloc (Nat.le_refl _) _).alloc (by simp) _
  have hrA := (Row.new w [.int .u8 (k : Int), .int .i64 t, .slice a n c, .string s] 25).alloc (.cells #[.int .u8 0, .int .i64 0, .slice none 0 0, .string ⟨#[]⟩] 25)
  have hrB := Row.new (w.alloc (.cells [.int .u8 (k : Int), .int .i64 t, .slice a n c, .string s].toArray 25)) [.int .u8 0, .int .i64 0, .slice none 0 0, .string ⟨#[]⟩] 25
  rw [World.size_alloc] at hrB
  generalize hW : (w.alloc (.cells #[.int .u8 (k : Int), .int .i64 t, .slice a n c, .string s] 25)).alloc (.cells #[.int .u8 0, .int .i64 0, .slice none 0 0, .string ⟨#[]⟩] 25) = w1 at hb1 hrA hrB ⊢
  have hs1 : w1.heap.size = w.heap.size + 2 := by rw [← hW]; simp
  clear hW
  have HL := Lib.hid (hl.below hb1)
  have HA := Lib.hid hrA
  have HB := Lib.hid hrB
  have c2 := hrA.cell 2
  simp only [List.getElem?_cons_zero, List.getElem?_cons_succ] at c2
  clear hl hrA hrB
  go_wp2_with fail
  refine (cloneW_any a n c l w1 HL.out hn9).mono ?_
  rintro e w2 ⟨v, rfl, ho, hb2⟩
  have hA2 := HA.out.after hb2
  have HB2 := Lib.hid (HB.out.after hb2)
  have HO := Lib.hid ho
  have hB2 := hb1.trans (hb2.mono hb1.size)
  clear ho hb2 HA HB HL c2
  obtain ⟨a2, c2, rfl⟩ := HO.out.form
  go_upto_region 2 with (refine wpL_storeAt rfl _ _ _ rfl (v := .slice a2 n c2) rfl rfl rfl rfl (by kernel_rfl) hA2 rfl ?_; intro w3 hg3 hr3; simp only [List.set_cons_zero, List.set_cons_succ] at hr3)
  have hne : w.heap.size + 1 ≠ w.heap.size := by omega
  have HB3 : Row w3 (w.heap.size + 1) 25 [.int .u8 0, .int .i64 0, .slice none 0 0, .string ⟨#[]⟩] := HB2.out.grown hg3 (fun e => hne (Option.some.inj e))
  have ho3 := HO.out.kept hg3 (own_ne HO.out (by omega))
  have hB3 := below_grown hB2 hg3 (Nat.le_refl _) hB2.size
  clear hA2 HO HB2 hB2 hb1 hg3
  go_wp2_with (first | refine wpL_loadRow rfl _ _ rfl rfl hr3 Try.underlying25 rfl (by kernel_rfl) ?_ | (refine wpL_storeRow rfl _ _ _ rfl rfl rfl HB3 (by kernel_rfl) rfl rfl ?_; intro w6 hg6 hr6))
  have ho6 := ho3.kept hg6 (own_ne ho3 (by omega))
  have hB6 := below_grown hB3 hg6 (by omega) hB3.size
  try simp only [Exit.inBlock, Exit.then]
  refine bodyPost_ret (results_cell_obj1 rfl rfl hr6) rfl ?_
  exact ⟨_, rfl, ho6.mono (by omega), hB6⟩
section
variable {col : Nat → Nat} {w : World} {b m bm bt : Nat} {H : List Th} {ks ts : List Int} {at_ : Int → Option Nat} {tf : Int → Int}
theorem thing_p (h : HpIn col w b m H bm bt ks at_ ts tf) (k : Int) (hk : (Lit.int .i64 k).wf = true) :
    Calls Try.prog 47 #[.pointer (some ⟨b, 0, none⟩), .int .i64 k] w fun e w' => e = .returned (ptrV (at_ k)) ∧ w = w' := by
  have c3 := h.c3
  have hlk := h.look hk
  clear h
  go_enter Try.func47, Try.ntmps47
  go_wp2_with fail
  go_ret
  exact ⟨rfl, rfl⟩
theorem thing_no (h : HpIn col w b m H bm bt ks at_ ts tf) (k : Int) (hk : (Lit.int .i64 k).wf = true) (hn : (thAt H k).is = false) :
    Calls Try.prog 47 #[.pointer (some ⟨b, 0, none⟩), .int .i64 k] w fun e w' => e = .returned (.pointer none) ∧ w = w' := by
  have := thing_p h k hk
  rw [h.non hn] at this
  exact this
theorem thing_yes (h : HpIn col w b m H bm bt ks at_ ts tf) (k : Int) (hk : (Lit.int .i64 k).wf = true) {g : Nat} (hg : at_ k = some g) :
    Calls Try.prog 47 #[.pointer (some ⟨b, 0, none⟩), .int .i64 k] w fun e w' => e = .returned (.pointer (some ⟨g, 0, none⟩)) ∧ w = w' := by
  have := thing_p h k hk
  rw [hg] at this
  exact this
end
theorem thing_nil (k : Int) (w : World) : Calls Try.prog 47 #[.pointer none, .int .i64 k] w fun e w' => e = .returned (.pointer none) ∧ w = w' := by
  go_enter Try.func47, Try.ntmps47
  go_wp2_with fail
  go_ret
  exact ⟨rfl, rfl⟩
/-! ### New -/
def newIs (z : Int) : Bool := decide (1 ≤ z ∧ z ≤ 16777216)
theorem new_no (z : Int) (w : World) (h : Hid (newIs z = false)) : Calls Try.prog 12 #[.int .i64 z] w fun e w' => e = .returned (.tuple #[.pointer none, .int .i64 1]) ∧ w = w' := by
  by_cases h1 : z < 1
  · go_enter Try.func12, Try.ntmps12
    go_wp2_with fail
    go_ret2
    exact ⟨rfl, rfl⟩
  · have h2 : 16777216 < z := by have := h.out; simp [newIs] at this; omega
    go_enter Try.func12, Try.ntmps12
    go_wp2_with fail
    go_ret2
    exact ⟨rfl, rfl⟩
theorem new_yes (m : Nat) (col : Nat → Nat) (w : World) (h : 1 ≤ m ∧ m ≤ 16777216) : Calls Try.prog 12 #[.int .i64 (m : Nat)] w fun e w' => ∃ b, e = .returned (.tuple #[.pointer (some ⟨b, 0, none⟩), .int .i64 0]) ∧ Hid (w.heap.size ≤ b ∧ HpAt (recol col w.heap.size 5) w' b m newH ∧ Below w.heap.size w w') := by
  have h1 : ¬ (m : Int) < 1 := by omega
  have h2 : ¬ (16777216 : Int) < m := by omega
  have hmm := @run_makeMap Try.prog
  clear h
  go_enter Try.func12, Try.ntmps12
  go_wp2_with fail
  go_ret2
  have hm1 := MapIs.made ptrE Try.prog 3 w
  have hm2 := MapIs.made intE Try.prog 3 (w.alloc (.map #[] 0))
  rw [World.size_alloc] at hm2
  have hb1 : Below w.heap.size w (w.alloc (.map #[] 0)) := (Below.refl _ _).alloc (Nat.le_refl _) _
  have hb2 : Below (w.alloc (.map #[] 0)).heap.size (w.alloc (.map #[] 0)) ((w.alloc (.map #[] 0)).alloc (.map #[] 0)) := (Below.refl _ _).alloc (Nat.le_refl _) _
  have hb3 : Below ((w.alloc (.map #[] 0)).alloc (.map #[] 0)).heap.size ((w.alloc (.map #[] 0)).alloc (.map #[] 0)) (((w.alloc (.map #[] 0)).alloc (.map #[] 0)).alloc (.cells #[.int .i64 (m : Nat), .int .i64 0, .int .i64 0, .map (some w.heap.size), .map (some (w.heap.size + 1))] 80)) := (Below.refl _ _).alloc (Nat.le_refl _) _
  have hr := Row.new ((w.alloc (.map #[] 0)).alloc (.map #[] 0)) [.int .i64 (m : Nat), .int .i64 0, .int .i64 0, .map (some w.heap.size), .map (some (w.heap.size + 1))] 80
  rw [World.size_alloc, World.size_alloc] at hr
  have hof : ∀ x, ofH newH x = 0 := fun x => ofH_zero' x
  refine ⟨w.heap.size + 1 + 1, rfl, Lib.hid ⟨by omega, ⟨w.heap.size, w.heap.size + 1, [], fun _ => ptrE.z, [], fun _ => intE.z, ⟨hr, recol_ge (by omega), recol_ge (Nat.le_refl _), recol_ge (Nat.le_succ _), (hm1.below hb2).below hb3, hm2.below hb3, by omega, by omega, by omega, fun k => ?_, fun k hk => (by cases hk), fun x => ?_, fun x => ?_⟩⟩, (hb1.trans (hb2.mono (by simp))).trans (hb3.mono (by simp; omega))⟩⟩
  · rw [newH_at]; simp [noTh]
  · rw [hof]; simp
  · rw [hof]; rfl

/-! ### what is told -/
theorem str_nil : str [] = ⟨#[]⟩ := rfl
section
variable {col : Nat → Nat} {w : World} {b m bm bt : Nat} {H : List Th} {ks ts : List Int} {at_ : Int → Option Nat} {tf : Int → Int}
/-- Get: the object, in new memory -/
theorem get_p (h : HpIn col w b m H bm bt ks at_ ts tf) (hg : Good H m) (hm : m ≤ 16777216) (k : Int) (hk : (Lit.int .i64 k).wf = true) (o : Ob) (ho : Hid (o = (thAt H k).o)) (is : Bool) (hi : Hid (is = (thAt H k).is)) (n : Nat) (hn : Hid (n = o.l.length)) :
    Calls Try.prog 19 #[.pointer (some ⟨b, 0, none⟩), .int .i64 k] w fun e w' => ∃ v, e = .returned (.tuple #[.agg #[.int .u8 (o.k.toNat : Int), .int .i64 o.t, v, .string (str o.s)], .bool is]) ∧ Own w' w.heap.size 2 v n (wcells o.l) ∧ Below w.heap.size w w' := by
  have h0 := hi.out
  cases is with
  | false =>
    have hno := hg.non k h0.symm
    rw [hno] at ho
    obtain rfl : o = noOb := ho.out
    obtain rfl : n = 0 := hn.out
    have HH := Lib.hid h
    have H0 := Lib.hid h0
    clear h h0 hno
    go_enter Try.func19, Try.ntmps19
    go_wp2_with fail
    have hb1 : Below w.heap.size w (w.alloc (.cells #[.int .u8 0, .int .i64 0, .slice none 0 0, .string ⟨#[]⟩] 25)) := (Below.refl _ _).alloc (Nat.le_refl _) _
    refine (thing_no (HH.out.fresh hb1) k hk H0.out.symm).mono ?_
    rintro e w1 ⟨rfl, rfl⟩
    have hr := Row.new w [.int .u8 0, .int .i64 0, .slice none 0 0, .string ⟨#[]⟩] 25
    go_wp2_with (refine wpL_storeRow rfl _ _ _ rfl (cs := [.int .u8 0, .int .i64 0, .slice none 0 0, .string ⟨#[]⟩]) rfl rfl hr (by kernel_rfl) rfl rfl ?_; intro w6 hg6 hr6)
    try simp only [Exit.inBlock, Exit.then]
    refine bodyPost_ret (results_cell_objB rfl rfl hr6) rfl ?_
    exact ⟨_, rfl, Own.nil _ _ _, below_grown hb1 hg6 (Nat.le_refl _) hb1.size⟩
  | true =>
    obtain ⟨g, v, hat, hth⟩ := h.has h0.symm
    have hmay := hg.may k h0.symm
    rw [← ho.out] at hmay
    have hwl := sizeO_words hmay
    have hz : sizeO o ≤ m := by
      have := sz_le (H := H) k
      have := hg.room
      rw [show sz (thAt H k) = sizeO (thAt H k).o from if_pos h0.symm, ← ho.out] at *
      omega
    have hn9 : n ≤ 1073741824 := by rw [hn.out]; omega
    have HH := Lib.hid h
    have HT := Lib.hid hth
    obtain ⟨a, c, rfl⟩ := hth.own.1.form
    have hlen : (thAt H k).o.l.length = n := by rw [← ho.out]; exact hn.out.symm
    rw [hlen] at HT
    clear h h0 hth hmay hwl hz
    go_enter Try.func19, Try.ntmps19
    go_wp2_with fail
    have hb1 : Below w.heap.size w (w.alloc (.cells #[.int .u8 0, .int .i64 0, .slice none 0 0, .string ⟨#[]⟩] 25)) := (Below.refl _ _).alloc (Nat.le_refl _) _
    have hr := Row.new w [.int .u8 0, .int .i64 0, .slice none 0 0, .string ⟨#[]⟩] 25
    refine (thing_yes (HH.out.fresh hb1) k hk hat).mono ?_
    rintro e w1 ⟨rfl, rfl⟩
    have T1 := HT.out.st (St.fresh hb1 (fun _ => False) col) (fun h => h)
    have d0 := T1.cell 0
    have d1 := T1.cell 1
    have d2 := T1.cell 2
    have d3 := T1.cell 3
    simp only [thRow, List.getElem?_cons_zero, List.getElem?_cons_succ] at d0 d1 d2 d3
    rw [← ho.out] at d0 d1 d3
    have S1 : Hid (Sl (w.alloc (.cells #[.int .u8 0, .int .i64 0, .slice none 0 0, .string ⟨#[]⟩] 25)) 2 (.slice a n c) n (wcells o.l)) := Lib.hid (by have := T1.own.1.sl; rw [hlen, ← ho.out] at this; exact this)
    clear T1 hlen
    go_wp2_with fail
    refine (cloneO_any o.k.toNat o.t a n c o.l (str o.s) _ S1.out hn9).mono ?_
    rintro e w2 ⟨v2, rfl, ho2, hb2⟩
    have hr2 := hr.after hb2
    have HB2 := Lib.hid (hb1.trans (hb2.mono hb1.size))
    have HO2 := Lib.hid ho2
    clear ho2 hb2 hb1 hr S1 d0 d1 d2 d3
    go_wp2_with (refine wpL_storeRow rfl _ _ _ rfl (cs := [.int .u8 (o.k.toNat : Int), .int .i64 o.t, v2, .string (str o.s)]) rfl rfl hr2 (by kernel_rfl) rfl (by obtain ⟨a', c', e'⟩ := HO2.out.form; rw [e']; rfl) ?_; intro w6 hg6 hr6)
    try simp only [Exit.inBlock, Exit.then]
    refine bodyPost_ret (results_cell_objB rfl rfl hr6) rfl ?_
    exact ⟨_, rfl, (HO2.out.kept hg6 (own_ne HO2.out (by simp))).mono (by simp), below_grown HB2.out hg6 (Nat.le_refl _) HB2.out.size⟩
end
theorem get_nil (k : Int) (w : World) : Calls Try.prog 19 #[.pointer none, .int .i64 k] w fun e w' => e = .returned (.tuple #[.agg #[.int .u8 0, .int .i64 0, .slice none 0 0, .string ⟨#[]⟩], .bool false]) ∧ Below w.heap.size w w' := by
  go_enter Try.func19, Try.ntmps19
  go_wp2_with fail
  have hb1 : Below w.heap.size w (w.alloc (.cells #[.int .u8 0, .int .i64 0, .slice none 0 0, .string ⟨#[]⟩] 25)) := (Below.refl _ _).alloc (Nat.le_refl _) _
  refine (thing_nil k _).mono ?_
  rintro e w1 ⟨rfl, rfl⟩
  have hr := Row.new w [.int .u8 0, .int .i64 0, .slice none 0 0, .string ⟨#[]⟩] 25
  go_wp2_with (refine wpL_storeRow rfl _ _ _ rfl (cs := [.int .u8 0, .int .i64 0, .slice none 0 0, .string ⟨#[]⟩]) rfl rfl hr (by kernel_rfl) rfl rfl ?_; intro w6 hg6 hr6)
  try simp only [Exit.inBlock, Exit.then]
  refine bodyPost_ret (results_cell_objB rfl rfl hr6) rfl ?_
  exact ⟨rfl, below_grown hb1 hg6 (Nat.le_refl _) hb1.size⟩
end Go.Proofs.Ytekmgffjdheifaa
