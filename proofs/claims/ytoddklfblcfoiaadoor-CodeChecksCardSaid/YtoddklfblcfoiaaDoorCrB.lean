/-
  The document's answer: whether the roots, and whether an instruction's operands are right. Condition: code within a machine's reach.
-/
import Derived.Test.YtoddklfblcfoiaaDoorCpB
import Derived.Test.YtoddklfblcfoiaaDoorCoL
import Derived.Test.YtoddklfblcfoiaaDoorCoR
import Derived.Deep.CutBlock
namespace Go.Proofs.YtoddklfblcfoiaaDoor
open Go Go.RowKit
set_option linter.unusedVariables false
set_option linter.unusedSimpArgs false
set_option maxRecDepth 100000

set_option maxHeartbeats 400000 in
theorem rwithin_p (x a b : Int) (w : World) (B : Bool) (HB : Hid (B = inB (a, b) x)) : Calls Tryd.prog 67 #[.int .i64 x, .int .i64 a, .int .i64 b] w fun e w' => e = .returned (.bool B) ∧ Below w.heap.size w w' := by
  go_enter Tryd.func67, Tryd.ntmps67
  by_cases h1 : a ≤ x
  · by_cases h2 : x ≤ b
    · have hb : Hid (B = true) := Lib.hid (HB.out.trans (by unfold inB; rw [decide_eq_true h1, decide_eq_true h2]; rfl))
      go_wp2_with fail
      go_ret
      rw [hb.out]
      exact ⟨rfl, Below.refl _ _⟩
    · have hb : Hid (B = false) := Lib.hid (HB.out.trans (by unfold inB; rw [decide_eq_true h1, decide_eq_false h2]; rfl))
      go_wp2_with fail
      go_ret
      rw [hb.out]
      exact ⟨rfl, Below.refl _ _⟩
  · have hb : Hid (B = false) := Lib.hid (HB.out.trans (by unfold inB; rw [decide_eq_false h1]; rfl))
    go_wp2_with fail
    go_ret
    rw [hb.out]
    exact ⟨rfl, Below.refl _ _⟩
set_option maxHeartbeats 2000000 in
theorem rrooted_p (aR : Option Addr) (nR kR : Nat) (l : List Sta) (w : World) (hl : Sl w 2 (.slice aR nR kR) nR (stCells l)) (hz : Hid (∀ x ∈ l, x.n.length ≤ 1000000 ∧ x.s.length ≤ 1000000)) (B : Bool) (HB : Hid (B = rootedV l)) :
    Calls Tryd.prog 43 #[.slice aR nR kR] w fun e w' => e = .returned (.bool B) ∧ Below w.heap.size w w' := by
  have HN : Hid (l.length = nR) := Lib.hid (by have := hl.1; rw [flat_len staC 2 staC_len] at this; omega)
  have hn2 := hl.cap.2.1
  have hn3 := hl.cap.1
  have HL := Lib.hid hl
  clear hl
  go_enter Tryd.func43, Tryd.ntmps43
  by_cases h24 : nR ≤ 24
  · have h24' : ¬ (24 : Int) < nR := by omega
    go_wp2_with fail
    clear h24'
    go_loopw [3] (fun v3 wr => ∃ i : Nat, i ≤ nR ∧ v3 = .int .i64 (i : Nat) ∧ Hid (Below w.heap.size w wr ∧ ∀ j, j < i → ∀ x, l[j]? = some x → rootAt l j x)) (fun v3 _ => nR - (intOf v3).toNat)
    case atStart => exact ⟨0, Nat.zero_le _, rfl, Lib.hid ⟨Below.refl _ _, fun j hj => by omega⟩⟩
    case round =>
      obtain ⟨i, hi, rfl, HT⟩ := hrel
      by_cases hin : i = nR
      · subst hin
        have hB := Lib.hid (show B = true from HB.out.trans (rootedV_yes ⟨by have := HN.out; omega, fun j x hx => HT.out.2 j (by have := (List.getElem?_eq_some_iff.1 hx).1; have := HN.out; omega) x hx⟩))
        go_wp2_with fail
        go_ret
        rw [hB.out]
        exact ⟨rfl, HT.out.1⟩
      · have hlt : i < nR := by omega
        have hlt' : (i : Int) < nR := by omega
        obtain ⟨b5, o5, x, rfl, hx, hc5⟩ := (HL.out.below HT.out.1).elem staC staC_len (by decide) i hlt
        have d0 := hc5 0 _ rfl
        have d1 := hc5 1 _ rfl
        simp only [Nat.add_zero] at d0
        have HX := Lib.hid hx
        have hzx := hz.out x (List.mem_of_getElem? hx)
        have hz1 := hzx.1
        have hz2 := hzx.2
        obtain ⟨n1, hn1⟩ : ∃ y, y = x.n.length := ⟨_, rfl⟩
        obtain ⟨n2, hn22⟩ : ∃ y, y = x.s.length := ⟨_, rfl⟩
        have HN1 := Lib.hid hn1
        have HN2 := Lib.hid hn22
        have s1 : (str x.n).size = n1 := by rw [hn1]; exact str_size _
        have s2 : (str x.s).size = n2 := by rw [hn22]; exact str_size _
        rw [← hn1] at hz1
        rw [← hn22] at hz2
        obtain ⟨sn, hsn⟩ : ∃ y, y = str x.n := ⟨_, rfl⟩
        obtain ⟨ss, hss⟩ : ∃ y, y = str x.s := ⟨_, rfl⟩
        have HSN := Lib.hid hsn
        rw [← hsn] at s1 d0
        rw [← hss] at s2 d1
        clear hn1 hn22 hzx hsn hss hc5 hx
        have HSTA : Hid (staB x = (decide (1 ≤ n1) && decide (n1 ≤ 32) && decide (1 ≤ n2) && decide (n2 ≤ 200))) := Lib.hid (by
          rw [HN1.out, HN2.out]
          unfold staB
          have e1 : decide (x.n ≠ []) = decide (1 ≤ x.n.length) := decide_eq_decide.2 (by rw [← List.length_pos_iff]; omega)
          have e2 : decide (x.s ≠ []) = decide (1 ≤ x.s.length) := decide_eq_decide.2 (by rw [← List.length_pos_iff]; omega)
          rw [e1, e2]
          cases decide (1 ≤ x.n.length) <;> cases decide (1 ≤ x.s.length) <;> cases decide (x.n.length ≤ 32) <;> cases decide (x.s.length ≤ 200) <;> rfl)
        have HNO : Hid (staB x = false → B = false) := Lib.hid (fun h => HB.out.trans (root_no HX.out (fun hr => by rw [hr.2] at h; cases h)))
        by_cases g1 : ¬ 1 ≤ n1
        · have HBF := Lib.hid (HNO.out (by rw [HSTA.out, decide_eq_false g1]; rfl))
          have g1' : (n1 : Int) < 1 := by omega
          go_wp2_with fail
          go_ret
          rw [HBF.out]
          exact ⟨rfl, HT.out.1⟩
        have g1 := Decidable.not_not.1 g1
        have g1' : ¬ (n1 : Int) < 1 := by omega
        by_cases g2 : ¬ n1 ≤ 32
        · have HBF := Lib.hid (HNO.out (by rw [HSTA.out, decide_eq_false g2]; simp))
          have g2' : (32 : Int) < n1 := by omega
          go_wp2_with fail
          go_ret
          rw [HBF.out]
          exact ⟨rfl, HT.out.1⟩
        have g2 := Decidable.not_not.1 g2
        have g2' : ¬ (32 : Int) < n1 := by omega
        by_cases g3 : ¬ 1 ≤ n2
        · have HBF := Lib.hid (HNO.out (by rw [HSTA.out, decide_eq_false g3]; simp))
          have g3' : (n2 : Int) < 1 := by omega
          go_wp2_with fail
          go_ret
          rw [HBF.out]
          exact ⟨rfl, HT.out.1⟩
        have g3 := Decidable.not_not.1 g3
        have g3' : ¬ (n2 : Int) < 1 := by omega
        by_cases g4 : ¬ n2 ≤ 200
        · have HBF := Lib.hid (HNO.out (by rw [HSTA.out, decide_eq_false g4]; simp))
          have g4' : (200 : Int) < n2 := by omega
          go_wp2_with fail
          go_ret
          rw [HBF.out]
          exact ⟨rfl, HT.out.1⟩
        have g4 := Decidable.not_not.1 g4
        have g4' : ¬ (200 : Int) < n2 := by omega
        have HST : Hid (staB x = true) := Lib.hid (by rw [HSTA.out, decide_eq_true g1, decide_eq_true g2, decide_eq_true g3, decide_eq_true g4]; rfl)
        clear g1 g2 g3 g4
        go_wp2_with fail
        clear g1 g2 g3 g4 g1' g2' g3' g4' s1 s2 d0 d1 hz1 hz2
        have HTT := HT
        clear HT
        go_loopw [4] (fun v4 wr2 => ∃ j : Nat, j ≤ i ∧ v4 = .int .i64 (j : Nat) ∧ Hid (Below w.heap.size w wr2 ∧ ∀ q, q < j → ∀ y, l[q]? = some y → y.n ≠ x.n)) (fun v4 _ => i - (intOf v4).toNat)
        case atStart => exact ⟨0, Nat.zero_le _, rfl, Lib.hid ⟨HTT.out.1, fun q hq => by omega⟩⟩
        case round =>
          obtain ⟨j, hj, rfl, HT⟩ := hrel
          by_cases hji : j = i
          · have hji' : i = j := hji.symm
            subst hji'
            go_wp2_with fail
            refine ⟨⟨i + 1, by omega, by go_num, Lib.hid ⟨HT.out.1, fun q hq y hy => ?_⟩⟩, by simp [intOf]; omega⟩
            by_cases hqi : q = i
            · subst hqi
              rw [HX.out] at hy
              cases hy
              exact ⟨HT.out.2, HST.out⟩
            · exact HTT.out.2 q (by omega) y hy
          · have hjlt : j < i := by omega
            have hjlt' : (j : Int) < i := by omega
            have hjn : (j : Int) < nR := by omega
            have hin' : (i : Int) < nR := by omega
            obtain ⟨b6, o6, y, e6, hy, hc6⟩ := (HL.out.below HT.out.1).elem staC staC_len (by decide) j (by omega)
            cases e6
            obtain ⟨b7, o7, x7, e7, hx7, hc7⟩ := (HL.out.below HT.out.1).elem staC staC_len (by decide) i (by omega)
            cases e7
            rw [HX.out] at hx7
            cases hx7
            have d0 := hc6 0 _ rfl
            have d1 := hc7 0 _ rfl
            simp only [Nat.add_zero] at d0 d1
            have HYN := Lib.hid hy
            by_cases hyx : y.n = x.n
            · have hb : ((str y.n).toList == (str x.n).toList) = true := by rw [str_eqb]; exact decide_eq_true hyx
              have HBF : Hid (B = false) := Lib.hid (HB.out.trans (root_no HX.out (fun hr => hr.1 j hjlt y HYN.out hyx)))
              clear hyx hc6 hc7 hy
              go_wp2_with fail
              go_quiet (fail)
              go_wp2_with fail
              go_ret
              rw [HBF.out]
              exact ⟨rfl, below_drewN HT.out.1 _⟩
            · have hb : ((str y.n).toList == (str x.n).toList) = false := by rw [str_eqb]; exact decide_eq_false hyx
              have HYX := Lib.hid hyx
              clear hyx hc6 hc7 hy
              go_wp2_with fail
              go_quiet (fail)
              go_wp2_with fail
              refine ⟨⟨j + 1, by omega, by go_num, Lib.hid ⟨below_drewN HT.out.1 _, fun q hq y2 hy2 => ?_⟩⟩, by simp [intOf]; omega⟩
              by_cases hqj : q = j
              · subst hqj
                rw [HYN.out] at hy2
                cases hy2
                exact HYX.out
              · exact HT.out.2 q (by omega) y2 hy2
  · have h24' : (24 : Int) < nR := by omega
    have hB : Hid (B = false) := Lib.hid (HB.out.trans (rootedV_no (fun h => by have := h.1; have := HN.out; omega)))
    go_wp2_with fail
    go_ret
    rw [hB.out]
    exact ⟨rfl, Below.refl _ _⟩
end Go.Proofs.YtoddklfblcfoiaaDoor
namespace Go.Proofs.YtoddklfblcfoiaaDoor
open Go Go.RowKit
set_option linter.unusedVariables false
set_option linter.unusedSimpArgs false
set_option maxRecDepth 100000

def RoR (w1 : World) (nF nR nl : Nat) (x : Ins) (v8 v9 v10 v11 v12 : Value) (wr : World) : Prop :=
  ∃ (le a b k : Int) (t : Bool), v8 = .int .i64 le ∧ v9 = .int .i64 a ∧ v10 = .int .i64 b ∧ v11 = .int .i64 k ∧ v12 = .bool t ∧ Hid (Below w1.heap.size w1 wr ∧ opB nF nR nl x = (inB (le, a) x.a && (inB (0, b) x.b && (inB (0, k) x.c && (t || decide (x.t = []))))))
theorem RoR.mk {w1 : World} {nF nR nl : Nat} {x : Ins} {wr : World} (le a b k : Int) (t : Bool) (hb : Below w1.heap.size w1 wr) (h : opB nF nR nl x = (inB (le, a) x.a && (inB (0, b) x.b && (inB (0, k) x.c && (t || decide (x.t = [])))))) : RoR w1 nF nR nl x (.int .i64 le) (.int .i64 a) (.int .i64 b) (.int .i64 k) (.bool t) wr :=
  ⟨le, a, b, k, t, rfl, rfl, rfl, rfl, rfl, Lib.hid ⟨hb, h⟩⟩
theorem ro_eq (S A B C : Bool) : (S && A && B && C) = (A && (B && (C && (false || S)))) := by cases S <;> cases A <;> cases B <;> cases C <;> rfl
theorem ro_eqT (S A B C t D : Bool) (h : S = (t || D)) : (S && A && B && C) = (A && (B && (C && (t || D)))) := by subst h; cases t <;> cases D <;> cases A <;> cases B <;> cases C <;> rfl
theorem ro_grp {nF nR nl : Nat} {x : Ins} (h6 : x.op.toNat = 6) : opB nF nR nl x = (if x.b < 1 ∨ (nF : Int) - x.b < x.a then false else inB (1, (nF : Int) - 1) x.a && (inB (0, (nF : Int)) x.b && (inB (0, 65535) x.c && (false || decide (x.t = []))))) := by
  rw [opB, h6]
  show (decide (x.t = []) && inB (1, (nF : Int) - 1) x.a && inB (1, (nF : Int) - min (max x.a 0) nF) x.b && inB (0, 65535) x.c) = _
  by_cases ha : 1 ≤ x.a ∧ x.a ≤ (nF : Int) - 1
  · have e1 : inB (1, (nF : Int) - 1) x.a = true := by unfold inB; rw [decide_eq_true ha.1, decide_eq_true ha.2]; rfl
    have e2 : min (max x.a 0) (nF : Int) = x.a := by omega
    rw [e1, e2]
    split
    · rename_i hc
      have e3 : inB (1, (nF : Int) - x.a) x.b = false := by
        unfold inB
        rcases hc with hc | hc
        · rw [decide_eq_false (by simp only; omega), Bool.false_and]
        · rw [decide_eq_false (p := x.b ≤ (1, (nF : Int) - x.a).2) (by simp only; omega), Bool.and_false]
      rw [e3]
      simp
    · rename_i hc
      have e3 : inB (1, (nF : Int) - x.a) x.b = true := by unfold inB; rw [decide_eq_true (by simp only; omega), decide_eq_true (by simp only; omega)]; rfl
      have e4 : inB (0, (nF : Int)) x.b = true := by unfold inB; rw [decide_eq_true (by simp only; omega), decide_eq_true (by simp only; omega)]; rfl
      rw [e3, e4]
      cases decide (x.t = []) <;> cases inB (0, 65535) x.c <;> rfl
  · have e1 : inB (1, (nF : Int) - 1) x.a = false := by
      unfold inB
      by_cases h1 : 1 ≤ x.a
      · rw [decide_eq_false (p := x.a ≤ (1, (nF : Int) - 1).2) (by simp only; omega), Bool.and_false]
      · rw [decide_eq_false (p := (1, (nF : Int) - 1).1 ≤ x.a) (by simp only; omega), Bool.false_and]
    rw [e1]
    simp
set_option maxHeartbeats 4000000 in
theorem roperands_p (aF : Option Addr) (nF kF : Nat) (aR : Option Addr) (nR kR : Nat) (c : Cod) (f : Nat) (l : List Ins) (x : Ins) (w : World) (hc : CodM w (.slice aF nF kF) (.slice aR nR kR) c) (hf : c.f[f]? = some l) (hF : nF ≤ 65536) (hR : nR ≤ 1000000) (hlen : l.length ≤ 1000000) (ht : x.t.length ≤ 1000000) (hi : In64 x.b) (B : Bool) (HB : Hid (B = opB nF nR l.length x)) :
    Calls Tryd.prog 44 #[.agg #[.slice aF nF kF, .slice aR nR kR], .int .i64 (f : Nat), .agg #[.int .u8 (x.op.toNat : Int), .int .i64 x.a, .int .i64 x.b, .int .i64 x.c, .string (str x.t)]] w fun e w' => e = .returned (.bool B) ∧ Below w.heap.size w w' := by
  have HNF : Hid (c.f.length = nF) := Lib.hid (by obtain ⟨⟨vs, h1, h2⟩, h3⟩ := hc; have := h1.cap; omega)
  have hff : f < nF := by rw [← HNF.out]; exact (List.getElem?_eq_some_iff.1 hf).1
  have hff' : (f : Int) < nF := by omega
  obtain ⟨nl, hnl⟩ : ∃ y, y = l.length := ⟨_, rfl⟩
  rw [← hnl] at hlen HB
  obtain ⟨w0, hw0⟩ : ∃ y, y = w.alloc (.cells #[.slice aF nF kF, .slice aR nR kR] 25) := ⟨_, rfl⟩
  have hb0 : Below w.heap.size w w0 := by rw [hw0]; exact (Below.refl _ _).alloc (Nat.le_refl _) _
  have hs0 : w0.heap.size = w.heap.size + 1 := by rw [hw0]; simp
  obtain ⟨w1, hw1⟩ : ∃ y, y = w0.alloc (.cells #[.int .u8 (x.op.toNat : Int), .int .i64 x.a, .int .i64 x.b, .int .i64 x.c, .string (str x.t)] 46) := ⟨_, rfl⟩
  have hb1 : Below w0.heap.size w0 w1 := by rw [hw1]; exact (Below.refl _ _).alloc (Nat.le_refl _) _
  have r0 : Row w1 w.heap.size 25 [.slice aF nF kF, .slice aR nR kR] := by
    have h0 : Row w0 w.heap.size 25 [.slice aF nF kF, .slice aR nR kR] := by rw [hw0]; exact Row.new w _ _
    exact h0.after hb1
  have r1 : Row w1 (w.heap.size + 1) 46 (insC x) := by rw [hw1, ← hs0]; exact Row.new w0 _ _
  have HB1 : Hid (Below w.heap.size w w1) := Lib.hid (hb0.trans (hb1.mono (by omega)))
  obtain ⟨gF, oF, aL, cL, rfl, hcell, _⟩ := (hc.below HB1.out).fun_at f l hf
  rw [← hnl] at hcell
  have HR1 := Lib.hid r1
  obtain ⟨kc, hkc⟩ : ∃ y, y = w.heap.size := ⟨_, rfl⟩
  have q0 : w1.cell? ⟨kc, 0, none⟩ = some (.slice (some ⟨gF, oF, none⟩) nF kF) := by rw [hkc]; exact r0.cell 0
  have q1 : w1.cell? ⟨kc, 1, none⟩ = some (.slice aR nR kR) := by rw [hkc]; exact r0.cell 1
  have x0 : w1.cell? ⟨kc + 1, 0, none⟩ = some (.int .u8 (x.op.toNat : Int)) := by rw [hkc]; exact r1.cell 0
  have x1 : w1.cell? ⟨kc + 1, 1, none⟩ = some (.int .i64 x.a) := by rw [hkc]; exact r1.cell 1
  have x2 : w1.cell? ⟨kc + 1, 2, none⟩ = some (.int .i64 x.b) := by rw [hkc]; exact r1.cell 2
  have x3 : w1.cell? ⟨kc + 1, 3, none⟩ = some (.int .i64 x.c) := by rw [hkc]; exact r1.cell 3
  have x4 : w1.cell? ⟨kc + 1, 4, none⟩ = some (.string (str x.t)) := by rw [hkc]; exact r1.cell 4
  have hib1 := hi.1
  have hib2 := hi.2
  clear hc hf hnl r0 r1 hb0 hb1 hi
  go_enter Tryd.func44, Tryd.ntmps44
  go_upto_region 1 with fail
  rw [← hw0, ← hw1, ← hkc]
  clear hw0 hw1 hs0
  have HK := Lib.hid hkc
  clear hkc
  obtain ⟨o, ho⟩ : ∃ y, y = x.op.toNat := ⟨_, rfl⟩
  have HO : Hid (x.op.toNat = o) := Lib.hid ho.symm
  rw [← ho] at x0
  clear ho
  go_upto_block 0 with fail
  have HBW : Hid (Below w1.heap.size w1 w1) := Lib.hid (Below.refl _ _)
  go_cut [8, 9, 10, 11, 12] from 21 (fun v8 v9 v10 v11 v12 wr => RoR w1 nF nR nl x v8 v9 v10 v11 v12 wr)
  case first =>
    by_cases ho0 : o = 0
    · as_aux_lemma =>
        subst ho0
        go_wp2_with fail
        go_ret
        rw [HB.out]
        refine ⟨?_, HB1.out.trans (HBW.out.mono HB1.out.size)⟩
        rw [op_zero HO.out]
        rfl
    by_cases ho26 : 26 ≤ o
    · as_aux_lemma =>
        go_wp2_with fail
        go_ret
        rw [HB.out]
        refine ⟨?_, HB1.out.trans (HBW.out.mono HB1.out.size)⟩
        rw [op_high (by rw [HO.out]; exact ho26)]
        rfl
    have hcs : o = 1 ∨ o = 2 ∨ o = 3 ∨ o = 4 ∨ o = 5 ∨ o = 6 ∨ o = 7 ∨ o = 8 ∨ o = 9 ∨ o = 10 ∨ o = 11 ∨ o = 12 ∨ o = 13 ∨ o = 14 ∨ o = 15 ∨ o = 16 ∨ o = 17 ∨ o = 18 ∨ o = 19 ∨ o = 20 ∨ o = 21 ∨ o = 22 ∨ o = 23 ∨ o = 24 ∨ o = 25 := by omega
    clear ho0 ho26
    rcases hcs with rfl | rfl | rfl | rfl | rfl | rfl | rfl | rfl | rfl | rfl | rfl | rfl | rfl | rfl | rfl | rfl | rfl | rfl | rfl | rfl | rfl | rfl | rfl | rfl | rfl
    · as_aux_lemma =>
        go_wp2_with fail
        go_meet
        case rel =>
          refine RoR.mk (-4611686018427387904 : Int) (4611686018427387903 : Int) (0 : Int) (0 : Int) false HBW.out ?_
          rw [opB, HO.out]
          exact ro_eq _ _ _ _
    · as_aux_lemma =>
        have hsz : (str x.t).size = x.t.length := str_size x.t
        go_wp2_with fail
        go_meet
        case rel =>
          refine RoR.mk 0 0 0 0 (decide ((x.t.length : Int) ≤ 16384)) HBW.out ?_
          rw [opB, HO.out, show decide ((x.t.length : Int) ≤ 16384) = decide (x.t.length ≤ 16384) from decide_eq_decide.2 (by omega)]
          refine ro_eqT _ _ _ _ _ _ ?_
          by_cases hn : x.t = []
          · rw [hn]; rfl
          · rw [decide_eq_false hn, Bool.or_false]
    · as_aux_lemma =>
        go_wp2_with fail
        go_meet
        case rel =>
          refine RoR.mk (0 : Int) (65535 : Int) (0 : Int) (0 : Int) false HBW.out ?_
          rw [opB, HO.out]
          exact ro_eq _ _ _ _
    · as_aux_lemma =>
        go_wp2_with fail
        go_meet
        case rel =>
          refine RoR.mk (0 : Int) (65535 : Int) (0 : Int) (0 : Int) false HBW.out ?_
          rw [opB, HO.out]
          exact ro_eq _ _ _ _
    · as_aux_lemma =>
        go_wp2_with fail
        go_meet
        case rel =>
          refine RoR.mk (0 : Int) (65535 : Int) (0 : Int) (0 : Int) false HBW.out ?_
          rw [opB, HO.out]
          exact ro_eq _ _ _ _
    · as_aux_lemma =>
        by_cases hb1 : x.b < 1
        · go_wp2_with fail
          go_ret
          rw [HB.out]
          refine ⟨?_, HB1.out.trans (HBW.out.mono HB1.out.size)⟩
          rw [ro_grp HO.out, if_pos (Or.inl hb1)]
          rfl
        · by_cases hb2 : (nF : Int) - x.b < x.a
          · go_wp2_with fail
            go_ret
            rw [HB.out]
            refine ⟨?_, HB1.out.trans (HBW.out.mono HB1.out.size)⟩
            rw [ro_grp HO.out, if_pos (Or.inr hb2)]
            rfl
          · go_wp2_with fail
            go_meet
            case rel =>
              refine RoR.mk 1 ((nF : Int) - 1) (nF : Int) 65535 false HBW.out ?_
              rw [ro_grp HO.out, if_neg (by omega)]
    · as_aux_lemma =>
        go_wp2_with fail
        go_meet
        case rel =>
          refine RoR.mk (0 : Int) (0 : Int) (0 : Int) (0 : Int) false HBW.out ?_
          rw [opB, HO.out]
          exact ro_eq _ _ _ _
    · as_aux_lemma =>
        go_wp2_with fail
        go_meet
        case rel =>
          refine RoR.mk (0 : Int) (0 : Int) (0 : Int) (0 : Int) false HBW.out ?_
          rw [opB, HO.out]
          exact ro_eq _ _ _ _
    · as_aux_lemma =>
        go_wp2_with fail
        go_meet
        case rel =>
          refine RoR.mk (0 : Int) ((nl : Int) - 1) (0 : Int) (0 : Int) false HBW.out ?_
          rw [opB, HO.out]
          exact ro_eq _ _ _ _
    · as_aux_lemma =>
        go_wp2_with fail
        go_meet
        case rel =>
          refine RoR.mk (0 : Int) ((nl : Int) - 1) (0 : Int) (0 : Int) false HBW.out ?_
          rw [opB, HO.out]
          exact ro_eq _ _ _ _
    · as_aux_lemma =>
        go_wp2_with fail
        go_meet
        case rel =>
          refine RoR.mk (2 : Int) (65535 : Int) (0 : Int) (0 : Int) false HBW.out ?_
          rw [opB, HO.out]
          exact ro_eq _ _ _ _
    · as_aux_lemma =>
        go_wp2_with fail
        go_meet
        case rel =>
          refine RoR.mk (0 : Int) (65535 : Int) (0 : Int) (0 : Int) false HBW.out ?_
          rw [opB, HO.out]
          exact ro_eq _ _ _ _
    · as_aux_lemma =>
        go_wp2_with fail
        go_meet
        case rel =>
          refine RoR.mk (0 : Int) (65535 : Int) (1 : Int) (0 : Int) false HBW.out ?_
          rw [opB, HO.out]
          exact ro_eq _ _ _ _
    · as_aux_lemma =>
        go_wp2_with fail
        go_meet
        case rel =>
          refine RoR.mk (0 : Int) (65535 : Int) (0 : Int) (0 : Int) false HBW.out ?_
          rw [opB, HO.out]
          exact ro_eq _ _ _ _
    · as_aux_lemma =>
        go_wp2_with fail
        go_meet
        case rel =>
          refine RoR.mk (0 : Int) (0 : Int) (0 : Int) (0 : Int) false HBW.out ?_
          rw [opB, HO.out]
          exact ro_eq _ _ _ _
    · as_aux_lemma =>
        go_wp2_with fail
        refine (rtakes_p x.t w1).mono ?_
        rintro e W9 ⟨rfl, hb9⟩
        obtain ⟨T, hT⟩ : ∃ y, y = takesB x.t := ⟨_, rfl⟩
        have HT := Lib.hid hT
        rw [← hT]
        have HBW2 := Lib.hid hb9
        have x1' := (hb9.cell (lt_of_cell x1)).trans x1
        clear hT hb9 q0 q1 hcell x0 x2 x3 x4
        cases T with
        | false =>
          go_wp2_with fail
          go_ret
          refine ⟨?_, HB1.out.trans (HBW2.out.mono HB1.out.size)⟩
          rw [HB.out, opB, HO.out]
          show _ = Ending.returned (Value.bool (takesB x.t && _ && _ && _))
          rw [← HT.out]
          rfl
        | true =>
          go_wp2_with fail
          go_meet
          case rel =>
            refine RoR.mk 0 0 0 0 true HBW2.out ?_
            rw [opB, HO.out]
            refine ro_eqT _ _ _ _ _ _ ?_
            rw [← HT.out, Bool.true_or]
    · as_aux_lemma =>
        go_wp2_with fail
        go_meet
        case rel =>
          refine RoR.mk (0 : Int) (0 : Int) (0 : Int) (0 : Int) false HBW.out ?_
          rw [opB, HO.out]
          exact ro_eq _ _ _ _
    · as_aux_lemma =>
        go_wp2_with fail
        go_meet
        case rel =>
          refine RoR.mk (0 : Int) ((nl : Int) - 1) (0 : Int) (0 : Int) false HBW.out ?_
          rw [opB, HO.out]
          exact ro_eq _ _ _ _
    · as_aux_lemma =>
        go_wp2_with fail
        go_meet
        case rel =>
          refine RoR.mk (0 : Int) (0 : Int) (0 : Int) (0 : Int) false HBW.out ?_
          rw [opB, HO.out]
          exact ro_eq _ _ _ _
    · as_aux_lemma =>
        go_wp2_with fail
        go_meet
        case rel =>
          refine RoR.mk (0 : Int) (65535 : Int) (0 : Int) (0 : Int) false HBW.out ?_
          rw [opB, HO.out]
          exact ro_eq _ _ _ _
    · as_aux_lemma =>
        go_wp2_with fail
        go_meet
        case rel =>
          refine RoR.mk (0 : Int) (0 : Int) (0 : Int) (0 : Int) false HBW.out ?_
          rw [opB, HO.out]
          exact ro_eq _ _ _ _
    · as_aux_lemma =>
        go_wp2_with fail
        go_meet
        case rel =>
          refine RoR.mk (0 : Int) (65535 : Int) (1 : Int) (0 : Int) false HBW.out ?_
          rw [opB, HO.out]
          exact ro_eq _ _ _ _
    · as_aux_lemma =>
        go_wp2_with fail
        go_meet
        case rel =>
          refine RoR.mk (0 : Int) ((nR : Int) - 1) ((nl : Int) - 1) (0 : Int) false HBW.out ?_
          rw [opB, HO.out]
          exact ro_eq _ _ _ _
    · as_aux_lemma =>
        go_wp2_with fail
        go_meet
        case rel =>
          refine RoR.mk (0 : Int) ((nR : Int) - 1) (0 : Int) (0 : Int) false HBW.out ?_
          rw [opB, HO.out]
          exact ro_eq _ _ _ _
    · as_aux_lemma =>
        go_wp2_with fail
        go_meet
        case rel =>
          refine RoR.mk (0 : Int) (0 : Int) (0 : Int) (0 : Int) false HBW.out ?_
          rw [opB, HO.out]
          exact ro_eq _ _ _ _
  case rest =>
    as_aux_lemma =>
      obtain ⟨le, a, b, k, t, rfl, rfl, rfl, rfl, rfl, HR⟩ := hcut
      have hb := HR.out.1
      have HOP := Lib.hid (HB.out.trans HR.out.2)
      clear HR q0 q1 hcell x0
      replace x1 := (hb.cell (lt_of_cell x1)).trans x1
      have hx2 := (hb.cell (lt_of_cell x2)).trans x2
      have hx3 := (hb.cell (lt_of_cell x3)).trans x3
      have hx4 := (hb.cell (lt_of_cell x4)).trans x4
      have HB2 := Lib.hid (HB1.out.trans (hb.mono HB1.out.size))
      clear hb x2 x3 x4 HBW
      go_wp2_with fail
      obtain ⟨P, hP⟩ : ∃ P, P = inB (le, a) x.a := ⟨_, rfl⟩
      have HP := Lib.hid hP
      refine (rwithin_p x.a le a _ P HP).mono ?_
      rintro e W2 ⟨rfl, hb2⟩
      have x2 := (hb2.cell (lt_of_cell hx2)).trans hx2
      replace hx3 := (hb2.cell (lt_of_cell hx3)).trans hx3
      replace hx4 := (hb2.cell (lt_of_cell hx4)).trans hx4
      have HB3 := Lib.hid (HB2.out.trans (hb2.mono HB2.out.size))
      clear hP x1 hb2 HB2
      cases P with
      | false =>
        go_wp2_with fail
        go_ret
        refine ⟨?_, HB3.out⟩
        rw [HOP.out, ← HP.out]
        rfl
      | true =>
        go_wp2_with fail
        obtain ⟨P2, hP2⟩ : ∃ P, P = inB (0, b) x.b := ⟨_, rfl⟩
        have HP2 := Lib.hid hP2
        refine (rwithin_p x.b 0 b _ P2 HP2).mono ?_
        rintro e W3 ⟨rfl, hb3⟩
        have x3 := (hb3.cell (lt_of_cell hx3)).trans hx3
        replace hx4 := (hb3.cell (lt_of_cell hx4)).trans hx4
        have HB4 := Lib.hid (HB3.out.trans (hb3.mono HB3.out.size))
        clear hP2 x2 hb3 HB3 hx2 hx3
        cases P2 with
        | false =>
          go_wp2_with fail
          go_ret
          refine ⟨?_, HB4.out⟩
          rw [HOP.out, ← HP.out, ← HP2.out]
          rfl
        | true =>
          go_wp2_with fail
          obtain ⟨P3, hP3⟩ : ∃ P, P = inB (0, k) x.c := ⟨_, rfl⟩
          have HP3 := Lib.hid hP3
          refine (rwithin_p x.c 0 k _ P3 HP3).mono ?_
          rintro e W4 ⟨rfl, hb4⟩
          have x4 := (hb4.cell (lt_of_cell hx4)).trans hx4
          have HB5 := Lib.hid (HB4.out.trans (hb4.mono HB4.out.size))
          clear hP3 x3 hb4 HB4 hx4
          cases P3 with
          | false =>
            go_wp2_with fail
            go_ret
            refine ⟨?_, HB5.out⟩
            rw [HOP.out, ← HP.out, ← HP2.out, ← HP3.out]
            rfl
          | true =>
            cases t with
            | true =>
              go_wp2_with fail
              go_ret
              refine ⟨?_, HB5.out⟩
              rw [HOP.out, ← HP.out, ← HP2.out, ← HP3.out]
              rfl
            | false =>
              obtain ⟨T0, hT0⟩ : ∃ T, T = decide (x.t = []) := ⟨_, rfl⟩
              have ht0 : ((str x.t).toList == []) = T0 := (str_nilb x.t).trans hT0.symm
              have HT0 := Lib.hid hT0
              clear hT0
              go_wp2_with fail
              go_ret
              refine ⟨?_, HB5.out⟩
              rw [HOP.out, ← HP.out, ← HP2.out, ← HP3.out, ← HT0.out]
              cases T0 <;> rfl
end Go.Proofs.YtoddklfblcfoiaaDoor
