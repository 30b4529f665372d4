/-
  Code behind bytes, the document's, walked. Condition: code within a machine's reach.
-/
import Derived.Test.YtoddklfblcfoiaaDoorCoD
namespace Go.Proofs.YtoddklfblcfoiaaDoor
open Go Go.RowKit
set_option linter.unusedVariables false
set_option linter.unusedSimpArgs false
set_option maxRecDepth 100000

theorem insTo_more (x : Ins) : insTo x 0 ++ digs (u64 x.a) 8 = insTo x 1 ∧ insTo x 1 ++ digs (u64 x.b) 8 = insTo x 2 ∧ insTo x 2 ++ digs (u64 x.c) 8 = insTo x 3 := by simp [insTo]
theorem WrR.put {w1 : World} {l : List UInt8} {v3 v4 : Value} {wr w2 : World} {z n : Nat} (h : WrR w1 l v3 wr) (ho : Own w2 wr.heap.size 1 v4 (putL l z (n : Int)).length (bvs (putL l z (n : Int)))) (hb : Below wr.heap.size wr w2) (l2 : List UInt8) (he : putL l z (n : Int) = l2) (hl : l2.length ≤ 1000000000) : WrR w1 l2 v4 w2 := by
  subst he
  have hs := h.below.size
  exact h.next (ho.mono hs) (hb.mono hs) hl
theorem insTo_le (x : Ins) {i : Nat} (h : i ≤ 3) : (insTo x i).length ≤ (insL x).length := by
  rw [← insTo_all, List.length_append, insTo_len x h, insTo_len x (by decide)]
  omega
theorem to_put (l : List UInt8) (x : Ins) : putL (l ++ insTo x 0) (u64 x.a) 8 = l ++ insTo x 1 ∧ putL (l ++ insTo x 1) (u64 x.b) 8 = l ++ insTo x 2 ∧ putL (l ++ insTo x 2) (u64 x.c) 8 = l ++ insTo x 3 := by
  simp only [putL8, List.append_assoc, (insTo_more x).1, (insTo_more x).2.1, (insTo_more x).2.2, true_and, and_self]
def InR (w1 : World) (g : Nat) (x : Ins) (l : List UInt8) (v : Value) (wr : World) : Prop := WrR w1 l v wr ∧ Row wr g 46 [.int .u8 (x.op.toNat : Int), .int .i64 x.a, .int .i64 x.b, .int .i64 x.c, .string (str x.t)]
theorem InR.step {w1 : World} {g : Nat} {x : Ins} {l l2 : List UInt8} {v v2 : Value} {wr w2 : World} (h : InR w1 g x l v wr) (ho : Own w2 wr.heap.size 1 v2 l2.length (bvs l2)) (hb : Below wr.heap.size wr w2) (hl : l2.length ≤ 1000000000) : InR w1 g x l2 v2 w2 :=
  ⟨h.1.next (ho.mono h.1.below.size) (hb.mono h.1.below.size) hl, h.2.after hb⟩
set_option maxHeartbeats 4000000 in
theorem rwrite_p (aF : Option Addr) (nF kF : Nat) (aR : Option Addr) (nR kR : Nat) (c : Cod) (w : World) (hc : CodM w (.slice aF nF kF) (.slice aR nR kR) c) (HS : Hid ((codL c).length ≤ 1000000000)) :
    Calls Tryd.prog 17 #[.agg #[.slice aF nF kF, .slice aR nR kR]] w fun e w' => ∃ v, e = .returned v ∧ Own w' w.heap.size 1 v (codL c).length (bvs (codL c)) ∧ Below w.heap.size w w' := by
  have hnF : c.f.length = nF ∧ nF ≤ 9223372036854775807 := by obtain ⟨⟨vs, h1, h2⟩, h3⟩ := hc; have := h1.cap; omega
  have hnR : c.r.length = nR ∧ nR ≤ 9223372036854775807 := by obtain ⟨_, h3⟩ := hc; have := h3.cap; have h4 := this.2.2.2; rw [flat_len staC 2 (fun _ => rfl)] at h4; omega
  have HNF := Lib.hid hnF.1
  have HNR := Lib.hid hnR.1
  obtain ⟨w1, hw1⟩ : ∃ y, y = w.alloc (.cells #[.slice aF nF kF, .slice aR nR kR] 25) := ⟨_, rfl⟩
  have hr1 : Row w1 w.heap.size 25 [.slice aF nF kF, .slice aR nR kR] := by rw [hw1]; exact Row.new w _ _
  have hb1 : Below w.heap.size w w1 := by rw [hw1]; exact (Below.refl _ _).alloc (Nat.le_refl _) _
  have HR1 := Lib.hid hr1
  have HB1 := Lib.hid hb1
  have HC1 := Lib.hid (hc.below hb1)
  have c0 := hr1.cell 0
  simp only [List.getElem?_cons_zero, List.getElem?_cons_succ] at c0
  have hF2 := hnF.2
  have hR2 := hnR.2
  clear hc hnF hnR hr1 hb1
  go_enter Tryd.func17, Tryd.ntmps17
  go_upto_region 1 with fail
  rw [← hw1]
  clear hw1
  try go_frame
  go_wp2_with fail
  refine (rput_any none 0 0 [] w1 nF 4 (Sl.nil w1 1) (by omega) (by omega)).mono ?_
  rintro e w2 ⟨v2, rfl, ho2, hb2⟩
  have e0 : putL [] nF 4 = outC c 0 := by rw [putL4, ← HNF.out]; simp [outC]
  rw [e0] at ho2
  have H0 : Hid (WrR w1 (outC c 0) v2 w2) := by
    obtain ⟨a2, c2, rfl⟩ := ho2.form
    exact Lib.hid ⟨a2, _, c2, rfl, by have := outC_le c 0; have := HS.out; omega, Lib.hid ⟨rfl, ho2, hb2⟩⟩
  clear ho2 hb2 e0 c0
  go_wp2_with fail
  go_loopw [3, 4] (fun v3 v4 wr => ∃ i : Nat, i ≤ nF ∧ v4 = .int .i64 (i : Nat) ∧ Hid (WrR w1 (outC c i) v3 wr)) (fun _ v4 _ => nF - (intOf v4).toNat)
  case atStart => exact ⟨0, Nat.zero_le _, rfl, H0⟩
  case round =>
    clear H0
    obtain ⟨i, hi, rfl, HW⟩ := hrel
    have c0 := (HR1.out.after HW.out.below).cell 0
    simp only [List.getElem?_cons_zero, List.getElem?_cons_succ] at c0
    by_cases hin : i = nF
    · subst hin
      have d1 := (HR1.out.after HW.out.below).cell 1
      simp only [List.getElem?_cons_zero, List.getElem?_cons_succ] at d1
      obtain ⟨a3, M, k3, rfl, hM, HX⟩ := HW.out
      have HW := Lib.hid (show WrR w1 (outC c i) (.slice a3 M k3) wr from ⟨a3, M, k3, rfl, hM, HX⟩)
      go_wp2_with fail
      refine (rput_any a3 M k3 (outC c i) wr nR 4 HX.out.2.1.sl (by omega) (by omega)).mono ?_
      rintro e w4 ⟨v4, rfl, ho4, hb4⟩
      have e4 : putL (outC c i) nR 4 = rootC c 0 := by rw [putL4, ← HNF.out, outC_end, ← HNR.out]; simp [rootC]
      rw [e4] at ho4
      have HW4 := Lib.hid (HW.out.next (ho4.mono HX.out.2.2.size) (hb4.mono HX.out.2.2.size) (by have := rootC_le c 0; have := HS.out; omega))
      clear ho4 hb4 HX e4 HW d1 c0
      go_wp2_with fail
      go_loopw [3, 7] (fun v3 v7 wr => ∃ j : Nat, j ≤ nR ∧ v7 = .int .i64 (j : Nat) ∧ Hid (WrR w1 (rootC c j) v3 wr)) (fun _ v7 _ => nR - (intOf v7).toNat)
      case atStart => exact ⟨0, Nat.zero_le _, rfl, HW4⟩
      case round =>
        clear HW4
        obtain ⟨j, hj, rfl, HV⟩ := hrel
        have c1 := (HR1.out.after HV.out.below).cell 1
        simp only [List.getElem?_cons_zero, List.getElem?_cons_succ] at c1
        by_cases hjn : j = nR
        · subst hjn
          have e9 : rootC c j = codL c := by rw [← HNR.out]; exact rootC_end c
          go_wp2_with fail
          go_ret
          obtain ⟨a6, M6, k6, rfl, hM6, HY⟩ := HV.out
          have h9 : Own wr w.heap.size 1 (.slice a6 M6 k6) (codL c).length (bvs (codL c)) := by
            have h9 := HY.out.2.1
            have h11 := HY.out.1
            rw [e9] at h9 h11
            rw [← h11]
            exact h9.mono HB1.out.size
          exact ⟨_, rfl, h9, HB1.out.trans (HY.out.2.2.mono HB1.out.size)⟩
        · have hroots := HC1.out.2
          rw [HNR.out] at hroots
          obtain ⟨b5, o5, x, rfl, hx, hc5⟩ := hroots.elem staC staC_len (by decide) j (by omega)
          clear hroots
          have HX5 := Lib.hid hx
          have f0 := hc5 0 _ rfl
          have f1 := hc5 1 _ rfl
          simp only [Nat.add_zero] at f0
          have HD0 := Lib.hid f0
          have HD1 := Lib.hid f1
          clear f0 f1
          have d0 := (HV.out.below.cell (lt_of_cell HD0.out)).trans HD0.out
          have hjlt : (j : Int) < nR := by omega
          have hle := rootC_le c (j + 1)
          rw [← rootC_more HX5.out, List.length_append, List.length_append] at hle
          have hxn : x.n.length ≤ (textL x.n).length := by simp [textL, digs_length]
          have hxs : x.s.length ≤ (textL x.s).length := by simp [textL, digs_length]
          have hsz := HS.out
          obtain ⟨a6, M6, k6, rfl, hM6, HY⟩ := HV.out
          have HV1 := Lib.hid (show WrR w1 (rootC c j) (.slice a6 M6 k6) wr from ⟨a6, M6, k6, rfl, hM6, HY⟩)
          clear hc5 hx HV
          go_wp2_with fail
          refine (rtext_p a6 M6 k6 (rootC c j) x.n wr HY.out.2.1.sl (by omega) (by omega)).mono ?_
          rintro e w8 ⟨v8, rfl, ho8, hb8⟩
          have HN8 := Lib.hid (HV1.out.next (ho8.mono HY.out.2.2.size) (hb8.mono HY.out.2.2.size) (by rw [List.length_append]; omega))
          have c1 := (HR1.out.after HN8.out.below).cell 1
          simp only [List.getElem?_cons_zero, List.getElem?_cons_succ] at c1
          have d1 := (HN8.out.below.cell (lt_of_cell HD1.out)).trans HD1.out
          obtain ⟨a8, M8, k8, rfl, hM8, HZ⟩ := HN8.out
          have HN8 := Lib.hid (show WrR w1 (rootC c j ++ textL x.n) (.slice a8 M8 k8) w8 from ⟨a8, M8, k8, rfl, hM8, HZ⟩)
          clear ho8 hb8 d0 HY HV1
          go_wp2_with fail
          refine (rtext_p a8 M8 k8 (rootC c j ++ textL x.n) x.s w8 HZ.out.2.1.sl (by omega) (by omega)).mono ?_
          rintro e w9 ⟨v9, rfl, ho9, hb9⟩
          rw [rootC_more HX5.out] at ho9
          have HN9 := Lib.hid (HN8.out.next (ho9.mono HZ.out.2.2.size) (hb9.mono HZ.out.2.2.size) (by rw [← rootC_more HX5.out, List.length_append, List.length_append]; omega))
          clear ho9 hb9 d1 HZ HN8 c1
          go_wp2_with fail
          exact ⟨⟨j + 1, by omega, by go_num, HN9⟩, by simp [intOf]; omega⟩
    · have hic : i < c.f.length := by have := HNF.out; omega
      obtain ⟨f, hf⟩ : ∃ f, c.f[i]? = some f := ⟨_, List.getElem?_eq_getElem hic⟩
      clear hic
      have HF := Lib.hid hf
      clear hf
      obtain ⟨g, off, av, cv, rfl, hcell1, hsl1⟩ := HC1.out.fun_at i f HF.out
      have hcell := (HW.out.below.cell (lt_of_cell hcell1)).trans hcell1
      have hsl := hsl1.below HW.out.below
      have HSL1 := Lib.hid hsl1
      have HCL1 := Lib.hid hcell1
      clear hcell1 hsl1
      obtain ⟨a3, M, k3, rfl, hM, HX⟩ := HW.out
      obtain ⟨nf, hnf⟩ : ∃ n, n = f.length := ⟨_, rfl⟩
      have HNf := Lib.hid hnf
      rw [← hnf] at hcell hsl
      rw [← hnf] at HSL1 HCL1
      have HSL := Lib.hid hsl
      have hnf2 := hsl.cap.2.1
      have hnf1 := hsl.cap.1
      clear hsl hnf HW
      have hlt : (i : Int) < nF := by omega
      have HW := Lib.hid (show WrR w1 (outC c i) (.slice a3 M k3) wr from ⟨a3, M, k3, rfl, hM, HX⟩)
      go_wp2_with fail
      refine (rput_any a3 M k3 (outC c i) wr nf 4 HX.out.2.1.sl (by omega) (by omega)).mono ?_
      rintro e w4 ⟨v4, rfl, ho4, hb4⟩
      have e4 : putL (outC c i) nf 4 = inC c i f 0 := by rw [putL4, HNf.out]; simp [inC]
      rw [e4] at ho4
      have HW4 := Lib.hid (HW.out.next (ho4.mono HX.out.2.2.size) (hb4.mono HX.out.2.2.size) (by have := inC_le HF.out 0; have := HS.out; omega))
      clear ho4 hb4 HX HSL e4 HW hcell c0
      go_wp2_with fail
      go_loopw [3, 5] (fun v3 v5 wr => ∃ j : Nat, j ≤ nf ∧ v5 = .int .i64 (j : Nat) ∧ Hid (WrR w1 (inC c i f j) v3 wr)) (fun _ v5 _ => nf - (intOf v5).toNat)
      case atStart => exact ⟨0, Nat.zero_le _, rfl, HW4⟩
      case round =>
        clear HW4
        obtain ⟨j, hj, rfl, HV⟩ := hrel
        have c0 := (HR1.out.after HV.out.below).cell 0
        simp only [List.getElem?_cons_zero, List.getElem?_cons_succ] at c0
        have hcell := (HV.out.below.cell (lt_of_cell HCL1.out)).trans HCL1.out
        by_cases hjn : j = nf
        · subst hjn
          go_wp2_with fail
          have e9 : inC c i f j = outC c (i + 1) := by rw [HNf.out]; exact inC_end HF.out
          exact ⟨⟨i + 1, by omega, by go_num, Lib.hid (by rw [← e9]; exact HV.out)⟩, by simp [intOf]; omega⟩
        · have hel := HSL1.out.elem insC insC_len (by decide) j (by omega)
          obtain ⟨b5, o5, x, rfl, hx, hc5⟩ := hel
          have HX5 := Lib.hid hx
          have hbv := HV.out.below
          have d0 := (hbv.cell (lt_of_cell (hc5 0 _ rfl))).trans (hc5 0 _ rfl)
          have d1 := (hbv.cell (lt_of_cell (hc5 1 _ rfl))).trans (hc5 1 _ rfl)
          have d2 := (hbv.cell (lt_of_cell (hc5 2 _ rfl))).trans (hc5 2 _ rfl)
          have d3 := (hbv.cell (lt_of_cell (hc5 3 _ rfl))).trans (hc5 3 _ rfl)
          have d4 := (hbv.cell (lt_of_cell (hc5 4 _ rfl))).trans (hc5 4 _ rfl)
          simp only [Nat.add_zero] at d0
          have hjlt : (j : Int) < nf := by omega
          obtain ⟨a6, M6, k6, rfl, hM6, HY⟩ := HV.out
          have HV1 := Lib.hid (show WrR w1 (inC c i f j) (.slice a6 M6 k6) wr from ⟨a6, M6, k6, rfl, hM6, HY⟩)
          clear hc5 hx HV hbv
          go_upto_region 10 with fail
          clear d0 d1 d2 d3 d4 hcell c0
          obtain ⟨w7, hw7⟩ : ∃ y, y = wr.alloc (.cells #[.int .u8 (x.op.toNat : Int), .int .i64 x.a, .int .i64 x.b, .int .i64 x.c, .string (str x.t)] 46) := ⟨_, rfl⟩
          have hb7 : Below wr.heap.size wr w7 := by rw [hw7]; exact (Below.refl _ _).alloc (Nat.le_refl _) _
          have hr7 : Row w7 wr.heap.size 46 [.int .u8 (x.op.toNat : Int), .int .i64 x.a, .int .i64 x.b, .int .i64 x.c, .string (str x.t)] := by rw [hw7]; exact Row.new wr _ _
          rw [← hw7]
          clear hw7
          have c0 := hr7.cell 0
          simp only [List.getElem?_cons_zero, List.getElem?_cons_succ] at c0
          have hs1 := HY.out.2.2.size
          have HOL : Hid (∀ g, (Value.slice a6 M6 k6).ownBlock = some g → g < wr.heap.size) := Lib.hid (fun g hg => HY.out.2.1.lives g hg)
          have ho7 := HY.out.2.1.below hb7
          have HO2 := Lib.hid (ho7.alloc (.cells #[.int .u8 (x.op.toNat : Int)] 5))
          have hs2 : Sl (w7.alloc (.cells #[.int .u8 (x.op.toNat : Int)] 5)) 1 (.slice (some ⟨w7.heap.size, 0, none⟩) 1 1) 1 [.int .u8 (x.op.toNat : Int)] := Sl.one w7 _ _
          have HR2 := Lib.hid (hr7.alloc (.cells #[.int .u8 (x.op.toNat : Int)] 5))
          have hs7 := hb7.size
          have HB2 := Lib.hid ((HY.out.2.2.trans (hb7.mono hs1)).alloc (Nat.le_trans hs1 hs7) (.cells #[.int .u8 (x.op.toNat : Int)] 5))
          have hs9 : w1.heap.size ≤ (w7.alloc (.cells #[.int .u8 (x.op.toNat : Int)] 5)).heap.size := HB2.out.size
          have HS9 := Lib.hid hs9
          clear ho7 hr7 hs1 hs7 hs9
          go_upto_region 11 with (at_builtin; refine wpL_append etB rfl _ _ rfl HO2.out rfl hs2 rfl (by simp [Value.oneCell']) (by omega) (by simp [maxLen]; omega) HS9.out ?_; intro v3 w3 ho3 hg3; obtain ⟨a3, c3, rfl⟩ := ho3.form)
          have hle := inC_le HF.out (j + 1)
          rw [← inC_more HX5.out, List.length_append] at hle
          have hsz := HS.out
          have HF7 : Hid (InR w1 wr.heap.size x (inC c i f j ++ insTo x 0) (.slice a3 (M6 + 1) c3) w3) := Lib.hid (by
            have hb3 : Below w1.heap.size w1 w3 := below_own HB2.out HO2.out hg3 (Nat.le_refl _) HS9.out
            have hlen : (inC c i f j ++ insTo x 0).length = M6 + 1 := by rw [List.length_append, insTo_len x (by decide), HY.out.1]
            have e : bvs (inC c i f j ++ insTo x 0) = bvs (inC c i f j) ++ [.int .u8 (x.op.toNat : Int)] := by rw [bvs_append]; simp [insTo, bvs]
            refine ⟨⟨a3, _, c3, rfl, ?_, Lib.hid ⟨hlen.symm, ?_, hb3⟩⟩, HR2.out.grown hg3 (fun e => by have := HOL.out _ e.symm; omega)⟩
            · rw [← hlen, List.length_append]; have := insTo_le x (i := 0) (by decide); omega
            · rw [e]; exact ho3)
          clear ho3 hg3 c0 hs2 HB2 HR2 HO2 HS9 HOL HY HV1 hb7
          have c1 := HF7.out.2.cell (0 + 1)
          simp only [List.getElem?_cons_zero, List.getElem?_cons_succ, Nat.zero_add, Nat.reduceAdd] at c1
          obtain ⟨aq, Mq, kq, hvq, hMq, HQ⟩ := HF7.out.1
          cases hvq
          have HF0 := HF7
          clear HF7
          have hz := u64_lt (x.a)
          go_wp2_with fail
          rw [u64w]
          refine (rput_any _ _ _ (inC c i f j ++ insTo x 0) w3 (Go.Proofs.YtoddklfblcfoiaaDoor.u64 (x.a)) 8 HQ.out.2.1.sl (by omega) hz).mono ?_
          rintro e w2 ⟨v2, rfl, ho2, hb2⟩
          rw [((to_put (inC c i f j) x).1)] at ho2
          have HF7 := Lib.hid (HF0.out.step ho2 hb2 (by rw [List.length_append]; have hq := insTo_le x (i := 0 + 1) (by decide); simp only [Nat.reduceAdd] at hq; omega))
          clear ho2 hb2 c1 HQ HF0 hz
          have c1 := HF7.out.2.cell (1 + 1)
          simp only [List.getElem?_cons_zero, List.getElem?_cons_succ, Nat.zero_add, Nat.reduceAdd] at c1
          obtain ⟨aq, Mq, kq, hvq, hMq, HQ⟩ := HF7.out.1
          cases hvq
          have HF0 := HF7
          clear HF7
          have hz := u64_lt (x.b)
          go_wp2_with fail
          rw [u64w]
          refine (rput_any _ _ _ (inC c i f j ++ insTo x 1) w2 (Go.Proofs.YtoddklfblcfoiaaDoor.u64 (x.b)) 8 HQ.out.2.1.sl (by omega) hz).mono ?_
          rintro e w2 ⟨v2, rfl, ho2, hb2⟩
          rw [((to_put (inC c i f j) x).2.1)] at ho2
          have HF7 := Lib.hid (HF0.out.step ho2 hb2 (by rw [List.length_append]; have hq := insTo_le x (i := 1 + 1) (by decide); simp only [Nat.reduceAdd] at hq; omega))
          clear ho2 hb2 c1 HQ HF0 hz
          have c1 := HF7.out.2.cell (2 + 1)
          simp only [List.getElem?_cons_zero, List.getElem?_cons_succ, Nat.zero_add, Nat.reduceAdd] at c1
          obtain ⟨aq, Mq, kq, hvq, hMq, HQ⟩ := HF7.out.1
          cases hvq
          have HF0 := HF7
          clear HF7
          have hz := u64_lt (x.c)
          go_wp2_with fail
          rw [u64w]
          refine (rput_any _ _ _ (inC c i f j ++ insTo x 2) w2 (Go.Proofs.YtoddklfblcfoiaaDoor.u64 (x.c)) 8 HQ.out.2.1.sl (by omega) hz).mono ?_
          rintro e w2 ⟨v2, rfl, ho2, hb2⟩
          rw [((to_put (inC c i f j) x).2.2)] at ho2
          have HF7 := Lib.hid (HF0.out.step ho2 hb2 (by rw [List.length_append]; have hq := insTo_le x (i := 2 + 1) (by decide); simp only [Nat.reduceAdd] at hq; omega))
          clear ho2 hb2 c1 HQ HF0 hz
          have c4 := HF7.out.2.cell 4
          simp only [List.getElem?_cons_zero, List.getElem?_cons_succ] at c4
          obtain ⟨aq, Mq, kq, hvq, hMq, HQ⟩ := HF7.out.1
          subst hvq
          have hxt : x.t.length ≤ (insL x).length := by simp [insL, textL, digs_length]; omega
          have hle2 := inC_le HF.out (j + 1)
          go_wp2_with fail
          refine (rtext_p aq Mq kq (inC c i f j ++ insTo x 3) x.t w2 HQ.out.2.1.sl (by omega) (by omega)).mono ?_
          rintro e w9 ⟨v9, rfl, ho9, hb9⟩
          rw [List.append_assoc, insTo_all, inC_more HX5.out] at ho9
          have HN := Lib.hid (HF7.out.1.next (ho9.mono HQ.out.2.2.size) (hb9.mono HQ.out.2.2.size) (by omega))
          clear ho9 hb9 c4 HQ HF7
          go_wp2_with fail
          exact ⟨⟨j + 1, by omega, by go_num, HN⟩, by simp [intOf]; omega⟩
end Go.Proofs.YtoddklfblcfoiaaDoor
