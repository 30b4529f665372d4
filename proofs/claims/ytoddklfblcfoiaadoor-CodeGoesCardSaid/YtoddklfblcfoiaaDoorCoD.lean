/-
  Code behind bytes, walked. Condition: code within a machine's reach.
-/
import Derived.Test.YtoddklfblcfoiaaDoorCoC
namespace Go.Proofs.YtoddklfblcfoiaaDoor
open Go Go.RowKit
set_option linter.unusedVariables false
set_option linter.unusedSimpArgs false
set_option maxRecDepth 100000

def outC (c : Cod) (i : Nat) : List UInt8 := digs c.f.length 4 ++ (c.f.take i).flatMap (lenL insL)
def inC (c : Cod) (i : Nat) (f : List Ins) (j : Nat) : List UInt8 := outC c i ++ digs f.length 4 ++ (f.take j).flatMap insL
def rootC (c : Cod) (i : Nat) : List UInt8 := lenL (lenL insL) c.f ++ digs c.r.length 4 ++ (c.r.take i).flatMap staL
theorem take_more {α : Type} {l : List α} {i : Nat} {x : α} (h : l[i]? = some x) : l.take (i + 1) = l.take i ++ [x] := by
  obtain ⟨h1, h2⟩ := List.getElem?_eq_some_iff.1 h
  rw [List.take_add_one, h]; rfl
theorem inC_more {c : Cod} {i : Nat} {f : List Ins} {j : Nat} {x : Ins} (h : f[j]? = some x) : inC c i f j ++ insL x = inC c i f (j + 1) := by
  simp [inC, take_more h]
theorem inC_end {c : Cod} {i : Nat} {f : List Ins} (h : c.f[i]? = some f) : inC c i f f.length = outC c (i + 1) := by
  simp [inC, outC, take_more h, lenL]
theorem outC_end (c : Cod) : outC c c.f.length = lenL (lenL insL) c.f := by simp [outC, lenL]
theorem rootC_more {c : Cod} {i : Nat} {x : Sta} (h : c.r[i]? = some x) : rootC c i ++ textL x.n ++ textL x.s = rootC c (i + 1) := by
  simp [rootC, take_more h, staL]
theorem rootC_end (c : Cod) : rootC c c.r.length = codL c := by simp [rootC, codL, lenL]
theorem flat_take_le {α : Type} (g : α → List UInt8) (l : List α) (i : Nat) : ((l.take i).flatMap g).length ≤ (l.flatMap g).length := by
  conv => rhs; rw [← List.take_append_drop i l]
  rw [List.flatMap_append, List.length_append]; omega
theorem outC_le (c : Cod) (i : Nat) : (outC c i).length + 4 ≤ (codL c).length := by
  have := flat_take_le (lenL insL) c.f i
  simp [outC, codL, lenL, digs_length] at *
  omega
theorem inC_le {c : Cod} {i : Nat} {f : List Ins} (h : c.f[i]? = some f) (j : Nat) : (inC c i f j).length + 4 ≤ (codL c).length := by
  have h1 := outC_le c (i + 1)
  rw [← inC_end h] at h1
  have := flat_take_le insL f j
  simp [inC] at *
  omega
theorem rootC_le (c : Cod) (i : Nat) : (rootC c i).length ≤ (codL c).length := by
  have := flat_take_le staL c.r i
  simp [rootC, codL, lenL] at *
  omega

def WrR (w1 : World) (l : List UInt8) (v3 : Value) (wr : World) : Prop :=
  ∃ (a : Option Addr) (M k : Nat), v3 = .slice a M k ∧ M ≤ 1000000000 ∧ Hid (M = l.length ∧ Own wr w1.heap.size 1 (.slice a M k) M (bvs l) ∧ Below w1.heap.size w1 wr)
theorem WrR.next {w1 : World} {l l2 : List UInt8} {v3 v4 : Value} {wr w2 : World} (h : WrR w1 l v3 wr) (ho : Own w2 w1.heap.size 1 v4 l2.length (bvs l2)) (hb : Below w1.heap.size wr w2) (hl : l2.length ≤ 1000000000) : WrR w1 l2 v4 w2 := by
  obtain ⟨a, M, k, rfl, hM, H⟩ := h
  obtain ⟨h1, h2, h3⟩ := H.out
  obtain ⟨a2, c2, rfl⟩ := ho.form
  exact ⟨a2, _, c2, rfl, hl, Lib.hid ⟨rfl, ho, h3.trans hb⟩⟩
theorem WrR.below {w1 : World} {l : List UInt8} {v3 : Value} {wr : World} (h : WrR w1 l v3 wr) : Below w1.heap.size w1 wr := by
  obtain ⟨a, M, k, rfl, hM, H⟩ := h
  exact H.out.2.2
set_option maxHeartbeats 4000000 in
theorem write_p (aF : Option Addr) (nF kF : Nat) (aR : Option Addr) (nR kR : Nat) (c : Cod) (w : World) (hc : CodM w (.slice aF nF kF) (.slice aR nR kR) c) (HS : Hid ((codL c).length ≤ 1000000000)) :
    Calls Tryd.prog 12 #[.agg #[.slice aF nF kF, .slice aR nR kR]] w fun e w' => ∃ v, e = .returned v ∧ Own w' w.heap.size 1 v (codL c).length (bvs (codL c)) ∧ Below w.heap.size w w' := by
  have hnF : c.f.length = nF ∧ nF ≤ 9223372036854775807 := by obtain ⟨⟨vs, h1, h2⟩, h3⟩ := hc; have := h1.cap; omega
  have hnR : c.r.length = nR ∧ nR ≤ 9223372036854775807 := by obtain ⟨_, h3⟩ := hc; have := h3.cap; have h4 := this.2.2.2; rw [flat_len staC 2 (fun _ => rfl)] at h4; omega
  have HNF := Lib.hid hnF.1
  have HNR := Lib.hid hnR.1
  obtain ⟨w1, hw1⟩ : ∃ y, y = w.alloc (.cells #[.slice aF nF kF, .slice aR nR kR] 25) := ⟨_, rfl⟩
  have hr1 : Row w1 w.heap.size 25 [.slice aF nF kF, .slice aR nR kR] := by rw [hw1]; exact Row.new w _ _
  have hb1 : Below w.heap.size w w1 := by rw [hw1]; exact (Below.refl _ _).alloc (Nat.le_refl _) _
  have HR1 := Lib.hid hr1
  have HB1 := Lib.hid hb1
  have HC1 := Lib.hid (hc.below hb1)
  have c0 := hr1.cell 0
  simp only [List.getElem?_cons_zero, List.getElem?_cons_succ] at c0
  have hF2 := hnF.2
  have hR2 := hnR.2
  clear hc hnF hnR hr1 hb1
  go_enter Tryd.func12, Tryd.ntmps12
  go_upto_region 1 with fail
  rw [← hw1]
  clear hw1
  try go_frame
  go_wp2_with fail
  refine (put_any none 0 0 [] w1 nF 4 (Sl.nil w1 1) (by omega) (by omega)).mono ?_
  rintro e w2 ⟨v2, rfl, ho2, hb2⟩
  have e0 : putL [] nF 4 = outC c 0 := by rw [putL4, ← HNF.out]; simp [outC]
  rw [e0] at ho2
  have H0 : Hid (WrR w1 (outC c 0) v2 w2) := by
    obtain ⟨a2, c2, rfl⟩ := ho2.form
    exact Lib.hid ⟨a2, _, c2, rfl, by have := outC_le c 0; have := HS.out; omega, Lib.hid ⟨rfl, ho2, hb2⟩⟩
  have c0 := (HR1.out.after hb2).cell 0
  simp only [List.getElem?_cons_zero, List.getElem?_cons_succ] at c0
  clear ho2 hb2 e0
  go_wp2_with fail
  clear c0
  go_loopw [3, 18] (fun v3 v18 wr => ∃ i : Nat, i ≤ nF ∧ v18 = .int .i64 (i : Nat) ∧ Hid (WrR w1 (outC c i) v3 wr)) (fun _ v18 _ => nF - (intOf v18).toNat)
  case atStart => exact ⟨0, Nat.zero_le _, rfl, H0⟩
  case round =>
    clear H0
    obtain ⟨i, hi, rfl, HW⟩ := hrel
    by_cases hin : i = nF
    · subst hin
      have d1 := (HR1.out.after HW.out.below).cell 1
      simp only [List.getElem?_cons_zero, List.getElem?_cons_succ] at d1
      obtain ⟨a3, M, k3, rfl, hM, HX⟩ := HW.out
      have HW := Lib.hid (show WrR w1 (outC c i) (.slice a3 M k3) wr from ⟨a3, M, k3, rfl, hM, HX⟩)
      go_wp2_with fail
      refine (put_any a3 M k3 (outC c i) wr nR 4 HX.out.2.1.sl (by omega) (by omega)).mono ?_
      rintro e w4 ⟨v4, rfl, ho4, hb4⟩
      have e4 : putL (outC c i) nR 4 = rootC c 0 := by rw [putL4, ← HNF.out, outC_end, ← HNR.out]; simp [rootC]
      rw [e4] at ho4
      have HW4 := Lib.hid (HW.out.next (ho4.mono HX.out.2.2.size) (hb4.mono HX.out.2.2.size) (by have := rootC_le c 0; have := HS.out; omega))
      have c1 := (HR1.out.after HW4.out.below).cell 1
      simp only [List.getElem?_cons_zero, List.getElem?_cons_succ] at c1
      clear ho4 hb4 HX e4 HW d1
      go_wp2_with fail
      clear c1
      go_loopw [3, 47] (fun v3 v47 wr => ∃ j : Nat, j ≤ nR ∧ v47 = .int .i64 (j : Nat) ∧ Hid (WrR w1 (rootC c j) v3 wr)) (fun _ v47 _ => nR - (intOf v47).toNat)
      case atStart => exact ⟨0, Nat.zero_le _, rfl, HW4⟩
      case round =>
        clear HW4
        obtain ⟨j, hj, rfl, HV⟩ := hrel
        by_cases hjn : j = nR
        · subst hjn
          have e9 : rootC c j = codL c := by rw [← HNR.out]; exact rootC_end c
          go_wp2_with fail
          go_ret
          obtain ⟨a6, M6, k6, rfl, hM6, HY⟩ := HV.out
          have h9 : Own wr w.heap.size 1 (.slice a6 M6 k6) (codL c).length (bvs (codL c)) := by
            have h9 := HY.out.2.1
            have h11 := HY.out.1
            rw [e9] at h9 h11
            rw [← h11]
            exact h9.mono HB1.out.size
          exact ⟨_, rfl, h9, HB1.out.trans (HY.out.2.2.mono HB1.out.size)⟩
        · have hroots := (HC1.out.below HV.out.below).2
          rw [HNR.out] at hroots
          obtain ⟨b5, o5, x, rfl, hx, hc5⟩ := hroots.elem staC staC_len (by decide) j (by omega)
          clear hroots
          have HX5 := Lib.hid hx
          have d0 := hc5 0 _ rfl
          have d1 := hc5 1 _ rfl
          simp only [Nat.add_zero] at d0
          have hjlt : (j : Int) < nR := by omega
          obtain ⟨a6, M6, k6, rfl, hM6, HY⟩ := HV.out
          have HV1 := Lib.hid (show WrR w1 (rootC c j) (.slice a6 M6 k6) wr from ⟨a6, M6, k6, rfl, hM6, HY⟩)
          clear hc5 hx HV
          go_upto_region 16 with fail
          clear d0 d1
          obtain ⟨w7, hw7⟩ : ∃ y, y = wr.alloc (.cells #[.string (str x.n), .string (str x.s)] 48) := ⟨_, rfl⟩
          have hb7 : Below wr.heap.size wr w7 := by rw [hw7]; exact (Below.refl _ _).alloc (Nat.le_refl _) _
          have hr7 : Row w7 wr.heap.size 48 [.string (str x.n), .string (str x.s)] := by rw [hw7]; exact Row.new wr _ _
          rw [← hw7]
          clear hw7
          have f0 := hr7.cell 0
          have f1 := hr7.cell 1
          simp only [List.getElem?_cons_zero, List.getElem?_cons_succ] at f0 f1
          have q0 := later_cell f0
          have q1 := later_cell f1
          have HS7 := Lib.hid (HY.out.2.1.sl.below hb7)
          clear f0 f1 hr7
          refine wp_region_idx Rb Rb_refl Rb_trans [(0,0),(0,1),(0,2),(0,4),(0,5),(1,3),(1,6),(0,7)] (by kernel_rfl) (by kernel_rfl) (by kernel_rfl) ?_
          simp only [pickO, List.getD_cons_succ, List.getD_cons_zero]
          refine wpCan_seg 5 (by kernel_rfl) ?_
          simp only [List.take_succ_cons, List.take_zero, List.drop_succ_cons, List.drop_zero, List.map_cons, List.map_nil]
          iterate 5 (go_big_quiet_step (fail))
          refine wpQuiet_nil ?_
          clear q0 q1
          have hle := rootC_le c (j + 1)
          rw [← rootC_more HX5.out, List.length_append, List.length_append] at hle
          have hxn : x.n.length ≤ (textL x.n).length := by simp [textL, digs_length]
          have hxs : x.s.length ≤ (textL x.s).length := by simp [textL, digs_length]
          have hsz := HS.out
          refine wpCan_list (k := 0) (fun KK hK => ?_) (fun _ => Rb_refl _)
          go_wp2_with fail
          refine (text_p a6 M6 k6 (rootC c j) x.n w7.drew HS7.out.drew (by omega) (by omega)).mono ?_
          rintro e w8 ⟨v8, rfl, ho8, hb8⟩
          obtain ⟨N8, hN8⟩ : ∃ n, n = (rootC c j ++ textL x.n).length := ⟨_, rfl⟩
          have hN9 : N8 ≤ 1000000000 := by rw [hN8, List.length_append]; omega
          rw [← hN8] at ho8
          clear hN8
          have HO8 := Lib.hid ho8.sl
          have HB8 := Lib.hid ((Below.mono (Below.drew (Below.refl w7.heap.size w7)) (Nat.le_refl _)).trans (hb8.mono (Nat.le_refl _)))
          obtain ⟨a8, c8, rfl⟩ := ho8.form
          clear ho8
          go_wp2_with fail
          refine hK _ _ (fun _ => hb8) ?_
          clear hK KK hb8
          refine wpCan_list (k := 0) (fun KK hK => ?_) (fun _ => Rb_refl _)
          go_wp2_with fail
          refine (text_p a8 N8 c8 (rootC c j ++ textL x.n) x.s w8 HO8.out (by omega) (by omega)).mono ?_
          rintro e w9 ⟨v9, rfl, ho9, hb9⟩
          rw [rootC_more HX5.out] at ho9
          have HO9 := Lib.hid ho9
          have HB9 := Lib.hid (HB8.out.trans (show Below w7.heap.size w8 w9 from hb9.mono HB8.out.size))
          clear ho9
          go_wp2_with fail
          refine hK _ _ (fun _ => hb9) ?_
          clear hK KK hb9
          refine wpCan_seg 1 (by kernel_rfl) ?_
          simp only [List.take_succ_cons, List.take_zero, List.drop_succ_cons, List.drop_zero, List.map_cons, List.map_nil]
          iterate 1 (go_big_quiet_step (fail))
          refine wpQuiet_nil ?_
          unfold wpCan
          have hs1 := HY.out.2.2.size
          have hs7 := hb7.size
          have hs8 := HB8.out.size
          have HN := Lib.hid (HV1.out.next (HO9.out.mono (by omega)) ((hb7.mono hs1).trans (HB9.out.mono (Nat.le_trans hs1 hs7))) (by rw [← rootC_more HX5.out, List.length_append, List.length_append]; omega))
          clear hs1 hs7 hs8 HB9 HO9 HB8 HO8 HS7
          go_wp2_with fail
          exact ⟨⟨j + 1, by omega, by go_num, HN⟩, by simp [intOf]; omega⟩
    · have hic : i < c.f.length := by have := HNF.out; omega
      obtain ⟨f, hf⟩ : ∃ f, c.f[i]? = some f := ⟨_, List.getElem?_eq_getElem hic⟩
      clear hic
      have HF := Lib.hid hf
      clear hf
      obtain ⟨g, off, av, cv, rfl, hcell1, hsl1⟩ := HC1.out.fun_at i f HF.out
      have hcell := (HW.out.below.cell (lt_of_cell hcell1)).trans hcell1
      have hsl := hsl1.below HW.out.below
      have HSL1 := Lib.hid hsl1
      clear hcell1 hsl1
      obtain ⟨a3, M, k3, rfl, hM, HX⟩ := HW.out
      obtain ⟨nf, hnf⟩ : ∃ n, n = f.length := ⟨_, rfl⟩
      have HNf := Lib.hid hnf
      rw [← hnf] at hcell hsl
      rw [← hnf] at HSL1
      have HSL := Lib.hid hsl
      have hnf2 := hsl.cap.2.1
      have hnf1 := hsl.cap.1
      clear hsl hnf HW
      have hlt : (i : Int) < nF := by omega
      have HW := Lib.hid (show WrR w1 (outC c i) (.slice a3 M k3) wr from ⟨a3, M, k3, rfl, hM, HX⟩)
      go_wp2_with fail
      refine (put_any a3 M k3 (outC c i) wr nf 4 HX.out.2.1.sl (by omega) (by omega)).mono ?_
      rintro e w4 ⟨v4, rfl, ho4, hb4⟩
      have e4 : putL (outC c i) nf 4 = inC c i f 0 := by rw [putL4, HNf.out]; simp [inC]
      rw [e4] at ho4
      have HW4 := Lib.hid (HW.out.next (ho4.mono HX.out.2.2.size) (hb4.mono HX.out.2.2.size) (by have := inC_le HF.out 0; have := HS.out; omega))
      have HSL4 := Lib.hid (HSL.out.below hb4)
      clear ho4 hb4 HX HSL e4 HW hcell
      go_wp2_with fail
      go_loopw [3, 29] (fun v3 v29 wr => ∃ j : Nat, j ≤ nf ∧ v29 = .int .i64 (j : Nat) ∧ Hid (WrR w1 (inC c i f j) v3 wr ∧ Sl wr 5 (.slice av nf cv) nf (inCells f))) (fun _ v29 _ => nf - (intOf v29).toNat)
      case atStart => exact ⟨0, Nat.zero_le _, rfl, Lib.hid ⟨HW4.out, HSL4.out⟩⟩
      case round =>
        clear HW4 HSL4
        obtain ⟨j, hj, rfl, HV⟩ := hrel
        by_cases hjn : j = nf
        · subst hjn
          go_wp2_with fail
          have e9 : inC c i f j = outC c (i + 1) := by rw [HNf.out]; exact inC_end HF.out
          exact ⟨⟨i + 1, by omega, by go_num, Lib.hid (by rw [← e9]; exact HV.out.1)⟩, by simp [intOf]; omega⟩
        · obtain ⟨b5, o5, x, rfl, hx, hc5⟩ := HV.out.2.elem insC insC_len (by decide) j (by omega)
          have HX5 := Lib.hid hx
          have d0 := hc5 0 _ rfl
          have d1 := hc5 1 _ rfl
          have d2 := hc5 2 _ rfl
          have d3 := hc5 3 _ rfl
          have d4 := hc5 4 _ rfl
          have hjlt : (j : Int) < nf := by omega
          simp only [Nat.add_zero] at d0
          have HV2 := Lib.hid HV.out.2
          obtain ⟨a6, M6, k6, rfl, hM6, HY⟩ := HV.out.1
          have HV1 := Lib.hid (show WrR w1 (inC c i f j) (.slice a6 M6 k6) wr from ⟨a6, M6, k6, rfl, hM6, HY⟩)
          clear hc5 hx HV
          go_wp2_with fail
          obtain ⟨w7, hw7⟩ : ∃ y, y = wr.alloc (.cells #[.int .u8 (x.op.toNat : Int), .int .i64 x.a, .int .i64 x.b, .int .i64 x.c, .string (str x.t)] 46) := ⟨_, rfl⟩
          have hb7 : Below wr.heap.size wr w7 := by rw [hw7]; exact (Below.refl _ _).alloc (Nat.le_refl _) _
          rw [← hw7]
          have HB7 := Lib.hid (HY.out.2.2.trans (hb7.mono HY.out.2.2.size))
          have HY7 := Lib.hid (HY.out.2.1.below hb7)
          have hle := inC_le HF.out (j + 1)
          rw [← inC_more HX5.out, List.length_append] at hle
          have hxt : x.t.length ≤ (insL x).length := by simp [insL, textL, digs_length]; omega
          have hsz := HS.out
          refine (instr_p a6 M6 k6 (inC c i f j) x w7 w1.heap.size HY7.out HB7.out.size hM6 (by omega)).mono ?_
          rintro e w8 ⟨v8, rfl, ho8, hb8⟩
          rw [inC_more HX5.out] at ho8
          have hle2 := inC_le HF.out (j + 1)
          have HN8 := Lib.hid (HV1.out.next ho8 ((hb7.mono HY.out.2.2.size).trans hb8) (by omega))
          have HS8 := Lib.hid (HSL1.out.below HN8.out.below)
          clear ho8 hb8 HB7 HY7 hb7 hw7 hle hxt HV1 HY d0 d1 d2 d3 d4
          go_wp2_with fail
          exact ⟨⟨j + 1, by omega, by go_num, Lib.hid ⟨HN8.out, HS8.out⟩⟩, by simp [intOf]; omega⟩
end Go.Proofs.YtoddklfblcfoiaaDoor
