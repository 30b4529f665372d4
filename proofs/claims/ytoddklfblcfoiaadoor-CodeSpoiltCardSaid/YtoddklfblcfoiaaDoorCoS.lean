/-
  Operands, walked. Condition: code within a machine's reach; the table as laid.
-/
import Derived.Test.YtoddklfblcfoiaaDoorCoR
import Derived.Test.YtoddklfblcfoiaaDoorStore
import Derived.Deep.Cut
import Derived.Deep.CutBlock
namespace Go.Proofs.YtoddklfblcfoiaaDoor
open Go Go.RowKit
set_option linter.unusedVariables false
set_option linter.unusedSimpArgs false
set_option maxRecDepth 100000

theorem has_p (a b x : Int) (w : World) : Calls Tryd.prog 62 #[.agg #[.int .i64 a, .int .i64 b], .int .i64 x] w fun e w' => e = .returned (.bool (inB (a, b) x)) ∧ Below w.heap.size w w' := by
  by_cases h1 : a ≤ x
  · by_cases h2 : x ≤ b
    · go_enter Tryd.func62, Tryd.ntmps62
      go_wp2_with fail
      go_ret
      exact ⟨by simp [inB]; omega, (Below.refl _ _).alloc (Nat.le_refl _) _⟩
    · go_enter Tryd.func62, Tryd.ntmps62
      go_wp2_with fail
      go_ret
      exact ⟨by simp [inB]; omega, (Below.refl _ _).alloc (Nat.le_refl _) _⟩
  · go_enter Tryd.func62, Tryd.ntmps62
    go_wp2_with fail
    go_ret
    exact ⟨by simp [inB]; omega, (Below.refl _ _).alloc (Nat.le_refl _) _⟩
def OpR (w : World) (c : Cod) (l : List Ins) (x : Ins) (v13 : Value) (wr : World) : Prop :=
  ∃ (A B C : Rng) (S : Bool), v13 = .bool S ∧ Hid (Row wr w.heap.size 46 (insC x) ∧ Row wr (w.heap.size + 1) 112 [.int .i64 A.1, .int .i64 A.2] ∧ Row wr (w.heap.size + 1 + 1) 112 [.int .i64 B.1, .int .i64 B.2] ∧ Row wr (w.heap.size + 1 + 1 + 1) 112 [.int .i64 C.1, .int .i64 C.2] ∧ Below w.heap.size w wr ∧ opB c.f.length c.r.length l.length x = opV (some (A, B, C, S)) x)
theorem OpR.mk {w : World} {c : Cod} {l : List Ins} {x : Ins} {wr : World} (A B C : Rng) (S : Bool) (h1 : Row wr w.heap.size 46 (insC x)) (h2 : Row wr (w.heap.size + 1) 112 [.int .i64 A.1, .int .i64 A.2]) (h3 : Row wr (w.heap.size + 1 + 1) 112 [.int .i64 B.1, .int .i64 B.2]) (h4 : Row wr (w.heap.size + 1 + 1 + 1) 112 [.int .i64 C.1, .int .i64 C.2]) (h5 : Below w.heap.size w wr) (h6 : opB c.f.length c.r.length l.length x = opV (some (A, B, C, S)) x) : OpR w c l x (.bool S) wr :=
  ⟨A, B, C, S, rfl, Lib.hid ⟨h1, h2, h3, h4, h5, h6⟩⟩
def grpW (W : World) (n : Nat) (U V : Int) : World := (((((W.setCell ⟨n + 1, 0, none⟩ (.int .i64 1)).setCell ⟨n + 1, 1, none⟩ (.int .i64 U)).setCell ⟨n + 1 + 1 + 1, 0, none⟩ (.int .i64 0)).setCell ⟨n + 1 + 1 + 1, 1, none⟩ (.int .i64 65535)).setCell ⟨n + 1 + 1, 0, none⟩ (.int .i64 1)).setCell ⟨n + 1 + 1, 1, none⟩ (.int .i64 V)
theorem grp_rows {W : World} {n : Nat} {U V : Int} {w : World} {x : Ins} (hx : Row W n 46 (insC x)) (ha : Row W (n + 1) 112 [.int .i64 0, .int .i64 0]) (hb : Row W (n + 1 + 1) 112 [.int .i64 0, .int .i64 0]) (hc : Row W (n + 1 + 1 + 1) 112 [.int .i64 0, .int .i64 0]) (hw : Below w.heap.size w W) (hn : n = w.heap.size) :
    Row (grpW W n U V) n 46 (insC x) ∧ Row (grpW W n U V) (n + 1) 112 [.int .i64 1, .int .i64 U] ∧ Row (grpW W n U V) (n + 1 + 1) 112 [.int .i64 1, .int .i64 V] ∧ Row (grpW W n U V) (n + 1 + 1 + 1) 112 [.int .i64 0, .int .i64 65535] ∧ Below w.heap.size w (grpW W n U V) := by
  unfold grpW
  refine ⟨?_, ?_, ?_, ?_, ?_⟩
  · exact (((((hx.other (by omega) _).other (by omega) _).other (by omega) _).other (by omega) _).other (by omega) _).other (by omega) _
  · exact (((((ha.set 0 (.int .i64 1)).set 1 (.int .i64 U)).other (by omega) _).other (by omega) _).other (by omega) _).other (by omega) _
  · exact (((((hb.other (by omega) _).other (by omega) _).other (by omega) _).other (by omega) _).set 0 (.int .i64 1)).set 1 (.int .i64 V)
  · exact (((((hc.other (by omega) _).other (by omega) _).set 0 (.int .i64 0)).set 1 (.int .i64 65535)).other (by omega) _).other (by omega) _
  · have hm : Mods (fun g => n ≤ g) W (grpW W n U V) := by
      unfold grpW
      exact (((((((Mods.set _ _ _ _).mono fun g h => by omega).trans ((Mods.set _ _ _ _).mono fun g h => by omega)).trans ((Mods.set _ _ _ _).mono fun g h => by omega)).trans ((Mods.set _ _ _ _).mono fun g h => by omega)).trans ((Mods.set _ _ _ _).mono fun g h => by omega))).trans ((Mods.set _ _ _ _).mono fun g h => by omega)
    exact below_mods hw hm (fun g hg => by omega) hw.size
set_option maxHeartbeats 4000000 in
theorem operands_p (W0 : World) (pb fuel pn : Nat) (HP0 : Hid (PrimsR W0 pb fuel pn)) (k : Nat) (aF : Option Addr) (nF kF : Nat) (aR : Option Addr) (nR kR : Nat) (vB : Value) (c : Cod) (i : Nat) (l : List Ins) (x : Ins) (w : World) (hW0 : Hid (Below W0.heap.size W0 w)) (hc : CodM w (.slice aF nF kF) (.slice aR nR kR) c) (hk : Row w k 79 [.slice aF nF kF, .slice aR nR kR, vB]) (hi : c.f[i]? = some l) (hF : nF ≤ 65536) (hlen : l.length ≤ 1000000) (hR : nR ≤ 1000000) (htl : x.t.length ≤ 1000000) :
    Calls Tryd.prog 40 #[.pointer (some ⟨k, 0, none⟩), .int .i64 (i : Nat), .agg #[.int .u8 (x.op.toNat : Int), .int .i64 x.a, .int .i64 x.b, .int .i64 x.c, .string (str x.t)]] w fun e w' => e = .returned (.bool (opB c.f.length c.r.length l.length x)) ∧ Below w.heap.size w w' := by
  have hnF : c.f.length = nF := by obtain ⟨⟨vs, h1, h2⟩, h3⟩ := hc; have := h1.cap; omega
  have hnR : c.r.length = nR := by obtain ⟨_, h3⟩ := hc; have h4 := h3.cap.2.2.2; rw [flat_len staC 2 (fun _ => rfl)] at h4; omega
  obtain ⟨g, off, av, cv, rfl, hcell, hsl⟩ := hc.fun_at i l hi
  have hilt : i < nF := by have := (List.getElem?_eq_some_iff.1 hi).1; omega
  have HNF := Lib.hid hnF
  have HNR := Lib.hid hnR
  obtain ⟨nl, hnl⟩ : ∃ n, n = l.length := ⟨_, rfl⟩
  have HNL := Lib.hid hnl
  rw [← hnl] at hcell hlen hsl
  have hF1 := (show nF ≤ kF by obtain ⟨⟨vs, h1, h2⟩, h3⟩ := hc; exact h1.cap.1)
  clear hnF hnR hnl
  obtain ⟨w4, hw4⟩ : ∃ y, y = (((w.alloc (.cells #[.int .u8 (x.op.toNat : Int), .int .i64 x.a, .int .i64 x.b, .int .i64 x.c, .string (str x.t)] 46)).alloc (.cells #[.int .i64 0, .int .i64 0] 112)).alloc (.cells #[.int .i64 0, .int .i64 0] 112)).alloc (.cells #[.int .i64 0, .int .i64 0] 112) := ⟨_, rfl⟩
  have hall : Row w4 w.heap.size 46 (insC x) ∧ Row w4 (w.heap.size + 1) 112 [.int .i64 0, .int .i64 0] ∧ Row w4 (w.heap.size + 1 + 1) 112 [.int .i64 0, .int .i64 0] ∧ Row w4 (w.heap.size + 1 + 1 + 1) 112 [.int .i64 0, .int .i64 0] ∧ Below w.heap.size w w4 := by
    rw [hw4]
    obtain ⟨wa, hwa⟩ : ∃ y, y = w.alloc (.cells #[.int .u8 (x.op.toNat : Int), .int .i64 x.a, .int .i64 x.b, .int .i64 x.c, .string (str x.t)] 46) := ⟨_, rfl⟩
    have ra : Row wa w.heap.size 46 (insC x) := by rw [hwa]; exact Row.new w _ _
    have sa : wa.heap.size = w.heap.size + 1 := by rw [hwa]; simp
    have ba : Below w.heap.size w wa := by rw [hwa]; exact (Below.refl _ _).alloc (Nat.le_refl _) _
    rw [← hwa]
    clear hwa
    obtain ⟨wb, hwb⟩ : ∃ y, y = wa.alloc (.cells #[.int .i64 0, .int .i64 0] 112) := ⟨_, rfl⟩
    have rb : Row wb wa.heap.size 112 [.int .i64 0, .int .i64 0] := by rw [hwb]; exact Row.new wa _ _
    have sb : wb.heap.size = w.heap.size + 1 + 1 := by rw [hwb]; simp [sa]
    have bb : Below wa.heap.size wa wb := by rw [hwb]; exact (Below.refl _ _).alloc (Nat.le_refl _) _
    rw [← hwb]
    clear hwb
    obtain ⟨wc, hwc⟩ : ∃ y, y = wb.alloc (.cells #[.int .i64 0, .int .i64 0] 112) := ⟨_, rfl⟩
    have rc : Row wc wb.heap.size 112 [.int .i64 0, .int .i64 0] := by rw [hwc]; exact Row.new wb _ _
    have sc : wc.heap.size = w.heap.size + 1 + 1 + 1 := by rw [hwc]; simp [sb]
    have bc : Below wb.heap.size wb wc := by rw [hwc]; exact (Below.refl _ _).alloc (Nat.le_refl _) _
    rw [← hwc]
    clear hwc
    have rd := Row.new wc [.int .i64 0, .int .i64 0] 112
    have bd := (Below.refl wc.heap.size wc).alloc (Nat.le_refl _) (.cells [Value.int .i64 0, .int .i64 0].toArray 112)
    rw [sa] at rb
    rw [sb] at rc
    rw [sc] at rd
    refine ⟨((ra.after bb).after bc).after bd, (rb.after bc).after bd, rc.after bd, rd, ba.trans ?_⟩
    exact ((bb.mono (by omega)).trans (bc.mono (by omega))).trans (bd.mono (by omega))
  obtain ⟨rX, rA, rB, rC, bw⟩ := hall
  have x0 := rX.cell 0
  have x1 := rX.cell 1
  have x4 := rX.cell 4
  simp only [insC, List.getElem?_cons_zero, List.getElem?_cons_succ] at x0 x1 x4
  have k0 := (hk.after bw).cell 0
  have k1 := (hk.after bw).cell 1
  have kc := (bw.cell (lt_of_cell hcell)).trans hcell
  simp only [List.getElem?_cons_zero, List.getElem?_cons_succ] at k0 k1
  have q0 := later_cell k0
  have q1 := later_cell k1
  have q2 := later_cell kc
  have HRX0 := Lib.hid rX.drew
  have HRA0 := Lib.hid rA.drew
  have HRB0 := Lib.hid rB.drew
  have HRC0 := Lib.hid rC.drew
  have HBW0 : Hid (Below w.heap.size w w4.drew) := Lib.hid bw.drew
  clear rX rA rB rC bw k0 k1 kc hcell hk hc hsl x0 x1 x4
  go_enter Tryd.func40, Tryd.ntmps40
  go_upto_region 2 with fail
  rw [← hw4]
  clear hw4
  refine wp_region_idx Rb Rb_refl Rb_trans [(0,0),(0,1),(0,2),(0,3),(0,4),(0,5),(0,6),(0,7),(0,8),(0,9),(0,10),(0,11),(0,12),(0,13),(0,14),(0,15),(0,16),(0,17),(0,18),(0,19),(0,20),(0,21),(0,22),(0,23)] (by kernel_rfl) (by kernel_rfl) (by kernel_rfl) ?_
  simp only [pickO, List.getD_cons_succ, List.getD_cons_zero]
  refine wpCan_seg 24 (by kernel_rfl) ?_
  simp only [List.take_succ_cons, List.take_zero, List.drop_succ_cons, List.drop_zero, List.map_cons, List.map_nil]
  iterate 24 (go_big_quiet_step (fail))
  refine wpQuiet_nil ?_
  clear q0 q1 q2
  unfold wpCan
  obtain ⟨W, hW⟩ : ∃ y, y = w4.drew := ⟨_, rfl⟩
  rw [← hW] at HRX0 HRA0 HRB0 HRC0 HBW0 ⊢
  clear hW
  have x0 := HRX0.out.cell 0
  have x4 := HRX0.out.cell 4
  simp only [insC, List.getElem?_cons_zero, List.getElem?_cons_succ] at x0 x4
  obtain ⟨T0, hT0⟩ : ∃ T, T = decide (x.t = []) := ⟨_, rfl⟩
  have ht0 : ((str x.t).toList == []) = T0 := by
    rw [hT0]
    by_cases h : x.t = []
    · rw [decide_eq_true h]; rw [ByteArray.toList_eq, str_toList, h]; rfl
    · rw [decide_eq_false h]; rw [ByteArray.toList_eq, str_toList, beq_eq_false_iff_ne]; exact h
  have HT0 := Lib.hid hT0
  clear hT0
  go_upto_block 0 with fail
  clear x0 x4 ht0
  obtain ⟨o, ho⟩ : ∃ o, o = x.op.toNat := ⟨_, rfl⟩
  have HO := Lib.hid ho
  rw [← ho]
  clear ho
  go_cut [2, 13] from 14 (fun _ v13 wr => OpR w c l x v13 wr)
  case first =>
    by_cases ho0 : o = 0
    · as_aux_lemma =>
        subst ho0
        go_wp2_with fail
        go_ret
        exact ⟨by rw [op_zero HO.out.symm]; rfl, HBW0.out⟩
    by_cases ho26 : 26 ≤ o
    · as_aux_lemma =>
        go_wp2_with fail
        go_ret
        exact ⟨by rw [op_high (by rw [← HO.out]; exact ho26)]; rfl, HBW0.out⟩
    have hcs : o = 1 ∨ o = 2 ∨ o = 3 ∨ o = 4 ∨ o = 5 ∨ o = 6 ∨ o = 7 ∨ o = 8 ∨ o = 9 ∨ o = 10 ∨ o = 11 ∨ o = 12 ∨ o = 13 ∨ o = 14 ∨ o = 15 ∨ o = 16 ∨ o = 17 ∨ o = 18 ∨ o = 19 ∨ o = 20 ∨ o = 21 ∨ o = 22 ∨ o = 23 ∨ o = 24 ∨ o = 25 := by omega
    clear ho0 ho26
    rcases hcs with rfl | rfl | rfl | rfl | rfl | rfl | rfl | rfl | rfl | rfl | rfl | rfl | rfl | rfl | rfl | rfl | rfl | rfl | rfl | rfl | rfl | rfl | rfl | rfl | rfl
    · as_aux_lemma =>
        have y0 := HRA0.out.cell 0
        have z0 := HRA0.out.free 0
        have y1 := HRA0.out.cell 1
        have z1 := HRA0.out.free 1
        simp only [List.getElem?_cons_zero, List.getElem?_cons_succ] at y0 y1
        go_wp2_with fail
        clear y0 z0 y1 z1
        have hm1 := Mods.set W (w.heap.size + 1) 0 (.int .i64 (-4611686018427387904 : Int))
        have hra := (HRA0.out.set 0 (.int .i64 (-4611686018427387904 : Int))).set 1 (.int .i64 (4611686018427387903 : Int))
        have hrb := (HRB0.out.other (b' := w.heap.size + 1) (o := 0) (by omega) (.int .i64 (-4611686018427387904 : Int))).other (b' := w.heap.size + 1) (o := 1) (by omega) (.int .i64 (4611686018427387903 : Int))
        have hrc := (HRC0.out.other (b' := w.heap.size + 1) (o := 0) (by omega) (.int .i64 (-4611686018427387904 : Int))).other (b' := w.heap.size + 1) (o := 1) (by omega) (.int .i64 (4611686018427387903 : Int))
        have hrx := (HRX0.out.other (b' := w.heap.size + 1) (o := 0) (by omega) (.int .i64 (-4611686018427387904 : Int))).other (b' := w.heap.size + 1) (o := 1) (by omega) (.int .i64 (4611686018427387903 : Int))
        have hb1 := below_mods HBW0.out hm1 (fun g hg => by omega) HBW0.out.size
        have hbw := below_mods hb1 (Mods.set (W.setCell ⟨w.heap.size + 1, 0, none⟩ (.int .i64 (-4611686018427387904 : Int))) (w.heap.size + 1) 1 (.int .i64 (4611686018427387903 : Int))) (fun g hg => by omega) hb1.size
        obtain ⟨W1, hW1⟩ : ∃ y, y = (W.setCell ⟨w.heap.size + 1, 0, none⟩ (.int .i64 (-4611686018427387904 : Int))).setCell ⟨w.heap.size + 1, 1, none⟩ (.int .i64 (4611686018427387903 : Int)) := ⟨_, rfl⟩
        rw [← hW1] at hra hrb hrc hrx hbw ⊢
        clear hW1 HRA0 HRB0 HRC0 HRX0 HBW0 hm1 hb1
        have HRA := Lib.hid hra
        have HRB := Lib.hid hrb
        have HRC := Lib.hid hrc
        have HRX := Lib.hid hrx
        have HBW := Lib.hid hbw
        clear hra hrb hrc hrx hbw
        go_meet
        case rel =>
          refine OpR.mk ((-4611686018427387904 : Int), (4611686018427387903 : Int)) ((0 : Int), (0 : Int)) ((0 : Int), (0 : Int)) T0 HRX.out HRA.out HRB.out HRC.out HBW.out ?_
          have e1 := HNL.out
          have e2 := HNF.out
          have e3 := HNR.out
          rw [opB, ← HO.out, e2, e3, ← e1]
          first
            | (rw [HT0.out]; rfl)
            | rfl
    · as_aux_lemma =>
        have hsz : (str x.t).size = x.t.length := str_size x.t
        have x4 := HRX0.out.cell 4
        simp only [insC, List.getElem?_cons_zero, List.getElem?_cons_succ] at x4
        go_wp2_with fail
        clear hsz x4
        go_meet
        case rel =>
          refine OpR.mk (0, 0) (0, 0) (0, 0) (decide ((x.t.length : Int) ≤ 16384)) HRX0.out HRA0.out HRB0.out HRC0.out HBW0.out ?_
          rw [opB, ← HO.out, show decide ((x.t.length : Int) ≤ 16384) = decide (x.t.length ≤ 16384) from decide_eq_decide.2 (by omega)]
          rfl
    · as_aux_lemma =>
        have y1 := HRA0.out.cell 1
        have z1 := HRA0.out.free 1
        simp only [List.getElem?_cons_zero, List.getElem?_cons_succ] at y1
        go_wp2_with fail
        clear y1 z1
        have hra := HRA0.out.set 1 (.int .i64 (65535 : Int))
        have hrb := HRB0.out.other (b' := w.heap.size + 1) (o := 1) (by omega) (.int .i64 (65535 : Int))
        have hrc := HRC0.out.other (b' := w.heap.size + 1) (o := 1) (by omega) (.int .i64 (65535 : Int))
        have hrx := HRX0.out.other (b' := w.heap.size + 1) (o := 1) (by omega) (.int .i64 (65535 : Int))
        have hbw := below_mods HBW0.out (Mods.set W (w.heap.size + 1) 1 (.int .i64 (65535 : Int))) (fun g hg => by omega) HBW0.out.size
        obtain ⟨W1, hW1⟩ : ∃ y, y = W.setCell ⟨w.heap.size + 1, 1, none⟩ (.int .i64 (65535 : Int)) := ⟨_, rfl⟩
        rw [← hW1] at hra hrb hrc hrx hbw ⊢
        clear hW1 HRA0 HRB0 HRC0 HRX0 HBW0
        have HRA := Lib.hid hra
        have HRB := Lib.hid hrb
        have HRC := Lib.hid hrc
        have HRX := Lib.hid hrx
        have HBW := Lib.hid hbw
        clear hra hrb hrc hrx hbw
        go_meet
        case rel =>
          refine OpR.mk ((0 : Int), (65535 : Int)) ((0 : Int), (0 : Int)) ((0 : Int), (0 : Int)) T0 HRX.out HRA.out HRB.out HRC.out HBW.out ?_
          have e1 := HNL.out
          have e2 := HNF.out
          have e3 := HNR.out
          rw [opB, ← HO.out, e2, e3, ← e1]
          first
            | (rw [HT0.out]; rfl)
            | rfl
    · as_aux_lemma =>
        have y1 := HRA0.out.cell 1
        have z1 := HRA0.out.free 1
        simp only [List.getElem?_cons_zero, List.getElem?_cons_succ] at y1
        go_wp2_with fail
        clear y1 z1
        have hra := HRA0.out.set 1 (.int .i64 (65535 : Int))
        have hrb := HRB0.out.other (b' := w.heap.size + 1) (o := 1) (by omega) (.int .i64 (65535 : Int))
        have hrc := HRC0.out.other (b' := w.heap.size + 1) (o := 1) (by omega) (.int .i64 (65535 : Int))
        have hrx := HRX0.out.other (b' := w.heap.size + 1) (o := 1) (by omega) (.int .i64 (65535 : Int))
        have hbw := below_mods HBW0.out (Mods.set W (w.heap.size + 1) 1 (.int .i64 (65535 : Int))) (fun g hg => by omega) HBW0.out.size
        obtain ⟨W1, hW1⟩ : ∃ y, y = W.setCell ⟨w.heap.size + 1, 1, none⟩ (.int .i64 (65535 : Int)) := ⟨_, rfl⟩
        rw [← hW1] at hra hrb hrc hrx hbw ⊢
        clear hW1 HRA0 HRB0 HRC0 HRX0 HBW0
        have HRA := Lib.hid hra
        have HRB := Lib.hid hrb
        have HRC := Lib.hid hrc
        have HRX := Lib.hid hrx
        have HBW := Lib.hid hbw
        clear hra hrb hrc hrx hbw
        go_meet
        case rel =>
          refine OpR.mk ((0 : Int), (65535 : Int)) ((0 : Int), (0 : Int)) ((0 : Int), (0 : Int)) T0 HRX.out HRA.out HRB.out HRC.out HBW.out ?_
          have e1 := HNL.out
          have e2 := HNF.out
          have e3 := HNR.out
          rw [opB, ← HO.out, e2, e3, ← e1]
          first
            | (rw [HT0.out]; rfl)
            | rfl
    · as_aux_lemma =>
        have y1 := HRA0.out.cell 1
        have z1 := HRA0.out.free 1
        simp only [List.getElem?_cons_zero, List.getElem?_cons_succ] at y1
        go_wp2_with fail
        clear y1 z1
        have hra := HRA0.out.set 1 (.int .i64 (65535 : Int))
        have hrb := HRB0.out.other (b' := w.heap.size + 1) (o := 1) (by omega) (.int .i64 (65535 : Int))
        have hrc := HRC0.out.other (b' := w.heap.size + 1) (o := 1) (by omega) (.int .i64 (65535 : Int))
        have hrx := HRX0.out.other (b' := w.heap.size + 1) (o := 1) (by omega) (.int .i64 (65535 : Int))
        have hbw := below_mods HBW0.out (Mods.set W (w.heap.size + 1) 1 (.int .i64 (65535 : Int))) (fun g hg => by omega) HBW0.out.size
        obtain ⟨W1, hW1⟩ : ∃ y, y = W.setCell ⟨w.heap.size + 1, 1, none⟩ (.int .i64 (65535 : Int)) := ⟨_, rfl⟩
        rw [← hW1] at hra hrb hrc hrx hbw ⊢
        clear hW1 HRA0 HRB0 HRC0 HRX0 HBW0
        have HRA := Lib.hid hra
        have HRB := Lib.hid hrb
        have HRC := Lib.hid hrc
        have HRX := Lib.hid hrx
        have HBW := Lib.hid hbw
        clear hra hrb hrc hrx hbw
        go_meet
        case rel =>
          refine OpR.mk ((0 : Int), (65535 : Int)) ((0 : Int), (0 : Int)) ((0 : Int), (0 : Int)) T0 HRX.out HRA.out HRB.out HRC.out HBW.out ?_
          have e1 := HNL.out
          have e2 := HNF.out
          have e3 := HNR.out
          rw [opB, ← HO.out, e2, e3, ← e1]
          first
            | (rw [HT0.out]; rfl)
            | rfl
    · as_aux_lemma =>
        have y0 := HRA0.out.cell 0
        have z0 := HRA0.out.free 0
        have y1 := HRA0.out.cell 1
        have z1 := HRA0.out.free 1
        have b0 := HRB0.out.cell 0
        have d0 := HRB0.out.free 0
        have b1 := HRB0.out.cell 1
        have d1 := HRB0.out.free 1
        have e0 := HRC0.out.cell 0
        have f0 := HRC0.out.free 0
        have e1 := HRC0.out.cell 1
        have f1 := HRC0.out.free 1
        have x1 := HRX0.out.cell 1
        simp only [insC, List.getElem?_cons_zero, List.getElem?_cons_succ] at y0 y1 b0 b1 e0 e1 x1
        by_cases h1 : x.a < 0
        · go_wp2_with fail
          clear y0 z0 y1 z1 b0 d0 b1 d1 e0 f0 e1 f1 x1
          obtain ⟨g1, g2, g3, g4, g5⟩ := grp_rows (U := (nF : Int) - 1) (V := (nF : Int)) HRX0.out HRA0.out HRB0.out HRC0.out HBW0.out rfl
          go_meet
          case rel =>
            refine OpR.mk (1, (nF : Int) - 1) (1, (nF : Int)) (0, 65535) T0 g1 g2 g3 g4 g5 ?_
            have e2 := HNF.out
            rw [opB, ← HO.out, e2, HT0.out]
            have hv : (nF : Int) - min (max x.a 0) nF = (nF : Int) := by omega
            show opV (some ((1, (nF : Int) - 1), (1, (nF : Int) - min (max x.a 0) nF), (0, 65535), _)) x = _
            rw [hv]
        · by_cases h2 : x.a ≤ nF
          · go_wp2_with fail
            clear y0 z0 y1 z1 b0 d0 b1 d1 e0 f0 e1 f1 x1
            obtain ⟨g1, g2, g3, g4, g5⟩ := grp_rows (U := (nF : Int) - 1) (V := ((nF : Int) - x.a)) HRX0.out HRA0.out HRB0.out HRC0.out HBW0.out rfl
            go_meet
            case rel =>
              refine OpR.mk (1, (nF : Int) - 1) (1, ((nF : Int) - x.a)) (0, 65535) T0 g1 g2 g3 g4 g5 ?_
              have e2 := HNF.out
              rw [opB, ← HO.out, e2, HT0.out]
              have hv : (nF : Int) - min (max x.a 0) nF = ((nF : Int) - x.a) := by omega
              show opV (some ((1, (nF : Int) - 1), (1, (nF : Int) - min (max x.a 0) nF), (0, 65535), _)) x = _
              rw [hv]
          · go_wp2_with fail
            clear y0 z0 y1 z1 b0 d0 b1 d1 e0 f0 e1 f1 x1
            obtain ⟨g1, g2, g3, g4, g5⟩ := grp_rows (U := (nF : Int) - 1) (V := (0 : Int)) HRX0.out HRA0.out HRB0.out HRC0.out HBW0.out rfl
            go_meet
            case rel =>
              refine OpR.mk (1, (nF : Int) - 1) (1, (0 : Int)) (0, 65535) T0 g1 g2 g3 g4 g5 ?_
              have e2 := HNF.out
              rw [opB, ← HO.out, e2, HT0.out]
              have hv : (nF : Int) - min (max x.a 0) nF = (0 : Int) := by omega
              show opV (some ((1, (nF : Int) - 1), (1, (nF : Int) - min (max x.a 0) nF), (0, 65535), _)) x = _
              rw [hv]
    · as_aux_lemma =>
        go_wp2_with fail
        have HRA := HRA0
        have HRB := HRB0
        have HRC := HRC0
        have HRX := HRX0
        have HBW := HBW0
        go_meet
        case rel =>
          refine OpR.mk ((0 : Int), (0 : Int)) ((0 : Int), (0 : Int)) ((0 : Int), (0 : Int)) T0 HRX.out HRA.out HRB.out HRC.out HBW.out ?_
          have e1 := HNL.out
          have e2 := HNF.out
          have e3 := HNR.out
          rw [opB, ← HO.out, e2, e3, ← e1]
          first
            | (rw [HT0.out]; rfl)
            | rfl
    · as_aux_lemma =>
        go_wp2_with fail
        have HRA := HRA0
        have HRB := HRB0
        have HRC := HRC0
        have HRX := HRX0
        have HBW := HBW0
        go_meet
        case rel =>
          refine OpR.mk ((0 : Int), (0 : Int)) ((0 : Int), (0 : Int)) ((0 : Int), (0 : Int)) T0 HRX.out HRA.out HRB.out HRC.out HBW.out ?_
          have e1 := HNL.out
          have e2 := HNF.out
          have e3 := HNR.out
          rw [opB, ← HO.out, e2, e3, ← e1]
          first
            | (rw [HT0.out]; rfl)
            | rfl
    · as_aux_lemma =>
        have y1 := HRA0.out.cell 1
        have z1 := HRA0.out.free 1
        simp only [List.getElem?_cons_zero, List.getElem?_cons_succ] at y1
        go_wp2_with fail
        clear y1 z1
        have hra := HRA0.out.set 1 (.int .i64 ((nl : Int) - 1))
        have hrb := HRB0.out.other (b' := w.heap.size + 1) (o := 1) (by omega) (.int .i64 ((nl : Int) - 1))
        have hrc := HRC0.out.other (b' := w.heap.size + 1) (o := 1) (by omega) (.int .i64 ((nl : Int) - 1))
        have hrx := HRX0.out.other (b' := w.heap.size + 1) (o := 1) (by omega) (.int .i64 ((nl : Int) - 1))
        have hbw := below_mods HBW0.out (Mods.set W (w.heap.size + 1) 1 (.int .i64 ((nl : Int) - 1))) (fun g hg => by omega) HBW0.out.size
        obtain ⟨W1, hW1⟩ : ∃ y, y = W.setCell ⟨w.heap.size + 1, 1, none⟩ (.int .i64 ((nl : Int) - 1)) := ⟨_, rfl⟩
        rw [← hW1] at hra hrb hrc hrx hbw ⊢
        clear hW1 HRA0 HRB0 HRC0 HRX0 HBW0
        have HRA := Lib.hid hra
        have HRB := Lib.hid hrb
        have HRC := Lib.hid hrc
        have HRX := Lib.hid hrx
        have HBW := Lib.hid hbw
        clear hra hrb hrc hrx hbw
        go_meet
        case rel =>
          refine OpR.mk ((0 : Int), (((nl : Int) - 1) : Int)) ((0 : Int), (0 : Int)) ((0 : Int), (0 : Int)) T0 HRX.out HRA.out HRB.out HRC.out HBW.out ?_
          have e1 := HNL.out
          have e2 := HNF.out
          have e3 := HNR.out
          rw [opB, ← HO.out, e2, e3, ← e1]
          first
            | (rw [HT0.out]; rfl)
            | rfl
    · as_aux_lemma =>
        have y1 := HRA0.out.cell 1
        have z1 := HRA0.out.free 1
        simp only [List.getElem?_cons_zero, List.getElem?_cons_succ] at y1
        go_wp2_with fail
        clear y1 z1
        have hra := HRA0.out.set 1 (.int .i64 ((nl : Int) - 1))
        have hrb := HRB0.out.other (b' := w.heap.size + 1) (o := 1) (by omega) (.int .i64 ((nl : Int) - 1))
        have hrc := HRC0.out.other (b' := w.heap.size + 1) (o := 1) (by omega) (.int .i64 ((nl : Int) - 1))
        have hrx := HRX0.out.other (b' := w.heap.size + 1) (o := 1) (by omega) (.int .i64 ((nl : Int) - 1))
        have hbw := below_mods HBW0.out (Mods.set W (w.heap.size + 1) 1 (.int .i64 ((nl : Int) - 1))) (fun g hg => by omega) HBW0.out.size
        obtain ⟨W1, hW1⟩ : ∃ y, y = W.setCell ⟨w.heap.size + 1, 1, none⟩ (.int .i64 ((nl : Int) - 1)) := ⟨_, rfl⟩
        rw [← hW1] at hra hrb hrc hrx hbw ⊢
        clear hW1 HRA0 HRB0 HRC0 HRX0 HBW0
        have HRA := Lib.hid hra
        have HRB := Lib.hid hrb
        have HRC := Lib.hid hrc
        have HRX := Lib.hid hrx
        have HBW := Lib.hid hbw
        clear hra hrb hrc hrx hbw
        go_meet
        case rel =>
          refine OpR.mk ((0 : Int), (((nl : Int) - 1) : Int)) ((0 : Int), (0 : Int)) ((0 : Int), (0 : Int)) T0 HRX.out HRA.out HRB.out HRC.out HBW.out ?_
          have e1 := HNL.out
          have e2 := HNF.out
          have e3 := HNR.out
          rw [opB, ← HO.out, e2, e3, ← e1]
          first
            | (rw [HT0.out]; rfl)
            | rfl
    · as_aux_lemma =>
        have y0 := HRA0.out.cell 0
        have z0 := HRA0.out.free 0
        have y1 := HRA0.out.cell 1
        have z1 := HRA0.out.free 1
        simp only [List.getElem?_cons_zero, List.getElem?_cons_succ] at y0 y1
        go_wp2_with fail
        clear y0 z0 y1 z1
        have hm1 := Mods.set W (w.heap.size + 1) 0 (.int .i64 (2 : Int))
        have hra := (HRA0.out.set 0 (.int .i64 (2 : Int))).set 1 (.int .i64 (65535 : Int))
        have hrb := (HRB0.out.other (b' := w.heap.size + 1) (o := 0) (by omega) (.int .i64 (2 : Int))).other (b' := w.heap.size + 1) (o := 1) (by omega) (.int .i64 (65535 : Int))
        have hrc := (HRC0.out.other (b' := w.heap.size + 1) (o := 0) (by omega) (.int .i64 (2 : Int))).other (b' := w.heap.size + 1) (o := 1) (by omega) (.int .i64 (65535 : Int))
        have hrx := (HRX0.out.other (b' := w.heap.size + 1) (o := 0) (by omega) (.int .i64 (2 : Int))).other (b' := w.heap.size + 1) (o := 1) (by omega) (.int .i64 (65535 : Int))
        have hb1 := below_mods HBW0.out hm1 (fun g hg => by omega) HBW0.out.size
        have hbw := below_mods hb1 (Mods.set (W.setCell ⟨w.heap.size + 1, 0, none⟩ (.int .i64 (2 : Int))) (w.heap.size + 1) 1 (.int .i64 (65535 : Int))) (fun g hg => by omega) hb1.size
        obtain ⟨W1, hW1⟩ : ∃ y, y = (W.setCell ⟨w.heap.size + 1, 0, none⟩ (.int .i64 (2 : Int))).setCell ⟨w.heap.size + 1, 1, none⟩ (.int .i64 (65535 : Int)) := ⟨_, rfl⟩
        rw [← hW1] at hra hrb hrc hrx hbw ⊢
        clear hW1 HRA0 HRB0 HRC0 HRX0 HBW0 hm1 hb1
        have HRA := Lib.hid hra
        have HRB := Lib.hid hrb
        have HRC := Lib.hid hrc
        have HRX := Lib.hid hrx
        have HBW := Lib.hid hbw
        clear hra hrb hrc hrx hbw
        go_meet
        case rel =>
          refine OpR.mk ((2 : Int), (65535 : Int)) ((0 : Int), (0 : Int)) ((0 : Int), (0 : Int)) T0 HRX.out HRA.out HRB.out HRC.out HBW.out ?_
          have e1 := HNL.out
          have e2 := HNF.out
          have e3 := HNR.out
          rw [opB, ← HO.out, e2, e3, ← e1]
          first
            | (rw [HT0.out]; rfl)
            | rfl
    · as_aux_lemma =>
        have y1 := HRA0.out.cell 1
        have z1 := HRA0.out.free 1
        simp only [List.getElem?_cons_zero, List.getElem?_cons_succ] at y1
        go_wp2_with fail
        clear y1 z1
        have hra := HRA0.out.set 1 (.int .i64 (65535 : Int))
        have hrb := HRB0.out.other (b' := w.heap.size + 1) (o := 1) (by omega) (.int .i64 (65535 : Int))
        have hrc := HRC0.out.other (b' := w.heap.size + 1) (o := 1) (by omega) (.int .i64 (65535 : Int))
        have hrx := HRX0.out.other (b' := w.heap.size + 1) (o := 1) (by omega) (.int .i64 (65535 : Int))
        have hbw := below_mods HBW0.out (Mods.set W (w.heap.size + 1) 1 (.int .i64 (65535 : Int))) (fun g hg => by omega) HBW0.out.size
        obtain ⟨W1, hW1⟩ : ∃ y, y = W.setCell ⟨w.heap.size + 1, 1, none⟩ (.int .i64 (65535 : Int)) := ⟨_, rfl⟩
        rw [← hW1] at hra hrb hrc hrx hbw ⊢
        clear hW1 HRA0 HRB0 HRC0 HRX0 HBW0
        have HRA := Lib.hid hra
        have HRB := Lib.hid hrb
        have HRC := Lib.hid hrc
        have HRX := Lib.hid hrx
        have HBW := Lib.hid hbw
        clear hra hrb hrc hrx hbw
        go_meet
        case rel =>
          refine OpR.mk ((0 : Int), (65535 : Int)) ((0 : Int), (0 : Int)) ((0 : Int), (0 : Int)) T0 HRX.out HRA.out HRB.out HRC.out HBW.out ?_
          have e1 := HNL.out
          have e2 := HNF.out
          have e3 := HNR.out
          rw [opB, ← HO.out, e2, e3, ← e1]
          first
            | (rw [HT0.out]; rfl)
            | rfl
    · as_aux_lemma =>
        have y1 := HRA0.out.cell 1
        have z1 := HRA0.out.free 1
        have y2 := HRB0.out.cell 1
        have z2 := HRB0.out.free 1
        simp only [List.getElem?_cons_zero, List.getElem?_cons_succ] at y1 y2
        go_wp2_with fail
        clear y1 z1 y2 z2
        have hm1 := Mods.set W (w.heap.size + 1 + 1) 1 (.int .i64 (1 : Int))
        have hra := (HRA0.out.other (b' := w.heap.size + 1 + 1) (o := 1) (by omega) (.int .i64 (1 : Int))).set 1 (.int .i64 (65535 : Int))
        have hrb := (HRB0.out.set 1 (.int .i64 (1 : Int))).other (b' := w.heap.size + 1) (o := 1) (by omega) (.int .i64 (65535 : Int))
        have hrc := (HRC0.out.other (b' := w.heap.size + 1 + 1) (o := 1) (by omega) (.int .i64 (1 : Int))).other (b' := w.heap.size + 1) (o := 1) (by omega) (.int .i64 (65535 : Int))
        have hrx := (HRX0.out.other (b' := w.heap.size + 1 + 1) (o := 1) (by omega) (.int .i64 (1 : Int))).other (b' := w.heap.size + 1) (o := 1) (by omega) (.int .i64 (65535 : Int))
        have hb1 := below_mods HBW0.out hm1 (fun g hg => by omega) HBW0.out.size
        have hbw := below_mods hb1 (Mods.set (W.setCell ⟨w.heap.size + 1 + 1, 1, none⟩ (.int .i64 (1 : Int))) (w.heap.size + 1) 1 (.int .i64 (65535 : Int))) (fun g hg => by omega) hb1.size
        obtain ⟨W1, hW1⟩ : ∃ y, y = (W.setCell ⟨w.heap.size + 1 + 1, 1, none⟩ (.int .i64 (1 : Int))).setCell ⟨w.heap.size + 1, 1, none⟩ (.int .i64 (65535 : Int)) := ⟨_, rfl⟩
        rw [← hW1] at hra hrb hrc hrx hbw ⊢
        clear hW1 HRA0 HRB0 HRC0 HRX0 HBW0 hm1 hb1
        have HRA := Lib.hid hra
        have HRB := Lib.hid hrb
        have HRC := Lib.hid hrc
        have HRX := Lib.hid hrx
        have HBW := Lib.hid hbw
        clear hra hrb hrc hrx hbw
        go_meet
        case rel =>
          refine OpR.mk ((0 : Int), (65535 : Int)) ((0 : Int), (1 : Int)) ((0 : Int), (0 : Int)) T0 HRX.out HRA.out HRB.out HRC.out HBW.out ?_
          have e1 := HNL.out
          have e2 := HNF.out
          have e3 := HNR.out
          rw [opB, ← HO.out, e2, e3, ← e1]
          first
            | (rw [HT0.out]; rfl)
            | rfl
    · as_aux_lemma =>
        have y1 := HRA0.out.cell 1
        have z1 := HRA0.out.free 1
        simp only [List.getElem?_cons_zero, List.getElem?_cons_succ] at y1
        go_wp2_with fail
        clear y1 z1
        have hra := HRA0.out.set 1 (.int .i64 (65535 : Int))
        have hrb := HRB0.out.other (b' := w.heap.size + 1) (o := 1) (by omega) (.int .i64 (65535 : Int))
        have hrc := HRC0.out.other (b' := w.heap.size + 1) (o := 1) (by omega) (.int .i64 (65535 : Int))
        have hrx := HRX0.out.other (b' := w.heap.size + 1) (o := 1) (by omega) (.int .i64 (65535 : Int))
        have hbw := below_mods HBW0.out (Mods.set W (w.heap.size + 1) 1 (.int .i64 (65535 : Int))) (fun g hg => by omega) HBW0.out.size
        obtain ⟨W1, hW1⟩ : ∃ y, y = W.setCell ⟨w.heap.size + 1, 1, none⟩ (.int .i64 (65535 : Int)) := ⟨_, rfl⟩
        rw [← hW1] at hra hrb hrc hrx hbw ⊢
        clear hW1 HRA0 HRB0 HRC0 HRX0 HBW0
        have HRA := Lib.hid hra
        have HRB := Lib.hid hrb
        have HRC := Lib.hid hrc
        have HRX := Lib.hid hrx
        have HBW := Lib.hid hbw
        clear hra hrb hrc hrx hbw
        go_meet
        case rel =>
          refine OpR.mk ((0 : Int), (65535 : Int)) ((0 : Int), (0 : Int)) ((0 : Int), (0 : Int)) T0 HRX.out HRA.out HRB.out HRC.out HBW.out ?_
          have e1 := HNL.out
          have e2 := HNF.out
          have e3 := HNR.out
          rw [opB, ← HO.out, e2, e3, ← e1]
          first
            | (rw [HT0.out]; rfl)
            | rfl
    · as_aux_lemma =>
        go_wp2_with fail
        have HRA := HRA0
        have HRB := HRB0
        have HRC := HRC0
        have HRX := HRX0
        have HBW := HBW0
        go_meet
        case rel =>
          refine OpR.mk ((0 : Int), (0 : Int)) ((0 : Int), (0 : Int)) ((0 : Int), (0 : Int)) T0 HRX.out HRA.out HRB.out HRC.out HBW.out ?_
          have e1 := HNL.out
          have e2 := HNF.out
          have e3 := HNR.out
          rw [opB, ← HO.out, e2, e3, ← e1]
          first
            | (rw [HT0.out]; rfl)
            | rfl
    · as_aux_lemma =>
        have x4 := HRX0.out.cell 4
        simp only [insC, List.getElem?_cons_zero, List.getElem?_cons_succ] at x4
        go_wp2_with fail
        refine (takes_p W0 pb fuel pn HP0 x.t W (hW0.out.trans (HBW0.out.mono hW0.out.size))).mono ?_
        rintro e W9 ⟨rfl, hb9⟩
        have HRA := Lib.hid (HRA0.out.after hb9)
        have HRB := Lib.hid (HRB0.out.after hb9)
        have HRC := Lib.hid (HRC0.out.after hb9)
        have HRX := Lib.hid (HRX0.out.after hb9)
        have HBW := Lib.hid (HBW0.out.trans (hb9.mono HBW0.out.size))
        clear HRA0 HRB0 HRC0 HRX0 HBW0 x4 hb9
        go_wp2_with fail
        go_meet
        case rel =>
          refine OpR.mk ((0 : Int), (0 : Int)) ((0 : Int), (0 : Int)) ((0 : Int), (0 : Int)) (takesB x.t) HRX.out HRA.out HRB.out HRC.out HBW.out ?_
          have e1 := HNL.out
          have e2 := HNF.out
          have e3 := HNR.out
          rw [opB, ← HO.out, e2, e3, ← e1]
          first
            | (rw [HT0.out]; rfl)
            | rfl
    · as_aux_lemma =>
        go_wp2_with fail
        have HRA := HRA0
        have HRB := HRB0
        have HRC := HRC0
        have HRX := HRX0
        have HBW := HBW0
        go_meet
        case rel =>
          refine OpR.mk ((0 : Int), (0 : Int)) ((0 : Int), (0 : Int)) ((0 : Int), (0 : Int)) T0 HRX.out HRA.out HRB.out HRC.out HBW.out ?_
          have e1 := HNL.out
          have e2 := HNF.out
          have e3 := HNR.out
          rw [opB, ← HO.out, e2, e3, ← e1]
          first
            | (rw [HT0.out]; rfl)
            | rfl
    · as_aux_lemma =>
        have y1 := HRA0.out.cell 1
        have z1 := HRA0.out.free 1
        simp only [List.getElem?_cons_zero, List.getElem?_cons_succ] at y1
        go_wp2_with fail
        clear y1 z1
        have hra := HRA0.out.set 1 (.int .i64 ((nl : Int) - 1))
        have hrb := HRB0.out.other (b' := w.heap.size + 1) (o := 1) (by omega) (.int .i64 ((nl : Int) - 1))
        have hrc := HRC0.out.other (b' := w.heap.size + 1) (o := 1) (by omega) (.int .i64 ((nl : Int) - 1))
        have hrx := HRX0.out.other (b' := w.heap.size + 1) (o := 1) (by omega) (.int .i64 ((nl : Int) - 1))
        have hbw := below_mods HBW0.out (Mods.set W (w.heap.size + 1) 1 (.int .i64 ((nl : Int) - 1))) (fun g hg => by omega) HBW0.out.size
        obtain ⟨W1, hW1⟩ : ∃ y, y = W.setCell ⟨w.heap.size + 1, 1, none⟩ (.int .i64 ((nl : Int) - 1)) := ⟨_, rfl⟩
        rw [← hW1] at hra hrb hrc hrx hbw ⊢
        clear hW1 HRA0 HRB0 HRC0 HRX0 HBW0
        have HRA := Lib.hid hra
        have HRB := Lib.hid hrb
        have HRC := Lib.hid hrc
        have HRX := Lib.hid hrx
        have HBW := Lib.hid hbw
        clear hra hrb hrc hrx hbw
        go_meet
        case rel =>
          refine OpR.mk ((0 : Int), (((nl : Int) - 1) : Int)) ((0 : Int), (0 : Int)) ((0 : Int), (0 : Int)) T0 HRX.out HRA.out HRB.out HRC.out HBW.out ?_
          have e1 := HNL.out
          have e2 := HNF.out
          have e3 := HNR.out
          rw [opB, ← HO.out, e2, e3, ← e1]
          first
            | (rw [HT0.out]; rfl)
            | rfl
    · as_aux_lemma =>
        go_wp2_with fail
        have HRA := HRA0
        have HRB := HRB0
        have HRC := HRC0
        have HRX := HRX0
        have HBW := HBW0
        go_meet
        case rel =>
          refine OpR.mk ((0 : Int), (0 : Int)) ((0 : Int), (0 : Int)) ((0 : Int), (0 : Int)) T0 HRX.out HRA.out HRB.out HRC.out HBW.out ?_
          have e1 := HNL.out
          have e2 := HNF.out
          have e3 := HNR.out
          rw [opB, ← HO.out, e2, e3, ← e1]
          first
            | (rw [HT0.out]; rfl)
            | rfl
    · as_aux_lemma =>
        have y1 := HRA0.out.cell 1
        have z1 := HRA0.out.free 1
        simp only [List.getElem?_cons_zero, List.getElem?_cons_succ] at y1
        go_wp2_with fail
        clear y1 z1
        have hra := HRA0.out.set 1 (.int .i64 (65535 : Int))
        have hrb := HRB0.out.other (b' := w.heap.size + 1) (o := 1) (by omega) (.int .i64 (65535 : Int))
        have hrc := HRC0.out.other (b' := w.heap.size + 1) (o := 1) (by omega) (.int .i64 (65535 : Int))
        have hrx := HRX0.out.other (b' := w.heap.size + 1) (o := 1) (by omega) (.int .i64 (65535 : Int))
        have hbw := below_mods HBW0.out (Mods.set W (w.heap.size + 1) 1 (.int .i64 (65535 : Int))) (fun g hg => by omega) HBW0.out.size
        obtain ⟨W1, hW1⟩ : ∃ y, y = W.setCell ⟨w.heap.size + 1, 1, none⟩ (.int .i64 (65535 : Int)) := ⟨_, rfl⟩
        rw [← hW1] at hra hrb hrc hrx hbw ⊢
        clear hW1 HRA0 HRB0 HRC0 HRX0 HBW0
        have HRA := Lib.hid hra
        have HRB := Lib.hid hrb
        have HRC := Lib.hid hrc
        have HRX := Lib.hid hrx
        have HBW := Lib.hid hbw
        clear hra hrb hrc hrx hbw
        go_meet
        case rel =>
          refine OpR.mk ((0 : Int), (65535 : Int)) ((0 : Int), (0 : Int)) ((0 : Int), (0 : Int)) T0 HRX.out HRA.out HRB.out HRC.out HBW.out ?_
          have e1 := HNL.out
          have e2 := HNF.out
          have e3 := HNR.out
          rw [opB, ← HO.out, e2, e3, ← e1]
          first
            | (rw [HT0.out]; rfl)
            | rfl
    · as_aux_lemma =>
        go_wp2_with fail
        have HRA := HRA0
        have HRB := HRB0
        have HRC := HRC0
        have HRX := HRX0
        have HBW := HBW0
        go_meet
        case rel =>
          refine OpR.mk ((0 : Int), (0 : Int)) ((0 : Int), (0 : Int)) ((0 : Int), (0 : Int)) T0 HRX.out HRA.out HRB.out HRC.out HBW.out ?_
          have e1 := HNL.out
          have e2 := HNF.out
          have e3 := HNR.out
          rw [opB, ← HO.out, e2, e3, ← e1]
          first
            | (rw [HT0.out]; rfl)
            | rfl
    · as_aux_lemma =>
        have y1 := HRA0.out.cell 1
        have z1 := HRA0.out.free 1
        have y2 := HRB0.out.cell 1
        have z2 := HRB0.out.free 1
        simp only [List.getElem?_cons_zero, List.getElem?_cons_succ] at y1 y2
        go_wp2_with fail
        clear y1 z1 y2 z2
        have hm1 := Mods.set W (w.heap.size + 1 + 1) 1 (.int .i64 (1 : Int))
        have hra := (HRA0.out.other (b' := w.heap.size + 1 + 1) (o := 1) (by omega) (.int .i64 (1 : Int))).set 1 (.int .i64 (65535 : Int))
        have hrb := (HRB0.out.set 1 (.int .i64 (1 : Int))).other (b' := w.heap.size + 1) (o := 1) (by omega) (.int .i64 (65535 : Int))
        have hrc := (HRC0.out.other (b' := w.heap.size + 1 + 1) (o := 1) (by omega) (.int .i64 (1 : Int))).other (b' := w.heap.size + 1) (o := 1) (by omega) (.int .i64 (65535 : Int))
        have hrx := (HRX0.out.other (b' := w.heap.size + 1 + 1) (o := 1) (by omega) (.int .i64 (1 : Int))).other (b' := w.heap.size + 1) (o := 1) (by omega) (.int .i64 (65535 : Int))
        have hb1 := below_mods HBW0.out hm1 (fun g hg => by omega) HBW0.out.size
        have hbw := below_mods hb1 (Mods.set (W.setCell ⟨w.heap.size + 1 + 1, 1, none⟩ (.int .i64 (1 : Int))) (w.heap.size + 1) 1 (.int .i64 (65535 : Int))) (fun g hg => by omega) hb1.size
        obtain ⟨W1, hW1⟩ : ∃ y, y = (W.setCell ⟨w.heap.size + 1 + 1, 1, none⟩ (.int .i64 (1 : Int))).setCell ⟨w.heap.size + 1, 1, none⟩ (.int .i64 (65535 : Int)) := ⟨_, rfl⟩
        rw [← hW1] at hra hrb hrc hrx hbw ⊢
        clear hW1 HRA0 HRB0 HRC0 HRX0 HBW0 hm1 hb1
        have HRA := Lib.hid hra
        have HRB := Lib.hid hrb
        have HRC := Lib.hid hrc
        have HRX := Lib.hid hrx
        have HBW := Lib.hid hbw
        clear hra hrb hrc hrx hbw
        go_meet
        case rel =>
          refine OpR.mk ((0 : Int), (65535 : Int)) ((0 : Int), (1 : Int)) ((0 : Int), (0 : Int)) T0 HRX.out HRA.out HRB.out HRC.out HBW.out ?_
          have e1 := HNL.out
          have e2 := HNF.out
          have e3 := HNR.out
          rw [opB, ← HO.out, e2, e3, ← e1]
          first
            | (rw [HT0.out]; rfl)
            | rfl
    · as_aux_lemma =>
        have y1 := HRA0.out.cell 1
        have z1 := HRA0.out.free 1
        have y2 := HRB0.out.cell 1
        have z2 := HRB0.out.free 1
        simp only [List.getElem?_cons_zero, List.getElem?_cons_succ] at y1 y2
        go_wp2_with fail
        clear y1 z1 y2 z2
        have hm1 := Mods.set W (w.heap.size + 1 + 1) 1 (.int .i64 ((nl : Int) - 1))
        have hra := (HRA0.out.other (b' := w.heap.size + 1 + 1) (o := 1) (by omega) (.int .i64 ((nl : Int) - 1))).set 1 (.int .i64 ((nR : Int) - 1))
        have hrb := (HRB0.out.set 1 (.int .i64 ((nl : Int) - 1))).other (b' := w.heap.size + 1) (o := 1) (by omega) (.int .i64 ((nR : Int) - 1))
        have hrc := (HRC0.out.other (b' := w.heap.size + 1 + 1) (o := 1) (by omega) (.int .i64 ((nl : Int) - 1))).other (b' := w.heap.size + 1) (o := 1) (by omega) (.int .i64 ((nR : Int) - 1))
        have hrx := (HRX0.out.other (b' := w.heap.size + 1 + 1) (o := 1) (by omega) (.int .i64 ((nl : Int) - 1))).other (b' := w.heap.size + 1) (o := 1) (by omega) (.int .i64 ((nR : Int) - 1))
        have hb1 := below_mods HBW0.out hm1 (fun g hg => by omega) HBW0.out.size
        have hbw := below_mods hb1 (Mods.set (W.setCell ⟨w.heap.size + 1 + 1, 1, none⟩ (.int .i64 ((nl : Int) - 1))) (w.heap.size + 1) 1 (.int .i64 ((nR : Int) - 1))) (fun g hg => by omega) hb1.size
        obtain ⟨W1, hW1⟩ : ∃ y, y = (W.setCell ⟨w.heap.size + 1 + 1, 1, none⟩ (.int .i64 ((nl : Int) - 1))).setCell ⟨w.heap.size + 1, 1, none⟩ (.int .i64 ((nR : Int) - 1)) := ⟨_, rfl⟩
        rw [← hW1] at hra hrb hrc hrx hbw ⊢
        clear hW1 HRA0 HRB0 HRC0 HRX0 HBW0 hm1 hb1
        have HRA := Lib.hid hra
        have HRB := Lib.hid hrb
        have HRC := Lib.hid hrc
        have HRX := Lib.hid hrx
        have HBW := Lib.hid hbw
        clear hra hrb hrc hrx hbw
        go_meet
        case rel =>
          refine OpR.mk ((0 : Int), ((nR : Int) - 1)) ((0 : Int), ((nl : Int) - 1)) ((0 : Int), (0 : Int)) T0 HRX.out HRA.out HRB.out HRC.out HBW.out ?_
          have e1 := HNL.out
          have e2 := HNF.out
          have e3 := HNR.out
          rw [opB, ← HO.out, e2, e3, ← e1]
          first
            | (rw [HT0.out]; rfl)
            | rfl
    · as_aux_lemma =>
        have y1 := HRA0.out.cell 1
        have z1 := HRA0.out.free 1
        simp only [List.getElem?_cons_zero, List.getElem?_cons_succ] at y1
        go_wp2_with fail
        clear y1 z1
        have hra := HRA0.out.set 1 (.int .i64 ((nR : Int) - 1))
        have hrb := HRB0.out.other (b' := w.heap.size + 1) (o := 1) (by omega) (.int .i64 ((nR : Int) - 1))
        have hrc := HRC0.out.other (b' := w.heap.size + 1) (o := 1) (by omega) (.int .i64 ((nR : Int) - 1))
        have hrx := HRX0.out.other (b' := w.heap.size + 1) (o := 1) (by omega) (.int .i64 ((nR : Int) - 1))
        have hbw := below_mods HBW0.out (Mods.set W (w.heap.size + 1) 1 (.int .i64 ((nR : Int) - 1))) (fun g hg => by omega) HBW0.out.size
        obtain ⟨W1, hW1⟩ : ∃ y, y = W.setCell ⟨w.heap.size + 1, 1, none⟩ (.int .i64 ((nR : Int) - 1)) := ⟨_, rfl⟩
        rw [← hW1] at hra hrb hrc hrx hbw ⊢
        clear hW1 HRA0 HRB0 HRC0 HRX0 HBW0
        have HRA := Lib.hid hra
        have HRB := Lib.hid hrb
        have HRC := Lib.hid hrc
        have HRX := Lib.hid hrx
        have HBW := Lib.hid hbw
        clear hra hrb hrc hrx hbw
        go_meet
        case rel =>
          refine OpR.mk ((0 : Int), (((nR : Int) - 1) : Int)) ((0 : Int), (0 : Int)) ((0 : Int), (0 : Int)) T0 HRX.out HRA.out HRB.out HRC.out HBW.out ?_
          have e1 := HNL.out
          have e2 := HNF.out
          have e3 := HNR.out
          rw [opB, ← HO.out, e2, e3, ← e1]
          first
            | (rw [HT0.out]; rfl)
            | rfl
    · as_aux_lemma =>
        go_wp2_with fail
        have HRA := HRA0
        have HRB := HRB0
        have HRC := HRC0
        have HRX := HRX0
        have HBW := HBW0
        go_meet
        case rel =>
          refine OpR.mk ((0 : Int), (0 : Int)) ((0 : Int), (0 : Int)) ((0 : Int), (0 : Int)) T0 HRX.out HRA.out HRB.out HRC.out HBW.out ?_
          have e1 := HNL.out
          have e2 := HNF.out
          have e3 := HNR.out
          rw [opB, ← HO.out, e2, e3, ← e1]
          first
            | (rw [HT0.out]; rfl)
            | rfl
  case rest =>
    as_aux_lemma =>
      obtain ⟨A, B, C, T, rfl, HX⟩ := hcut
      obtain ⟨hx, ha, hb, hc, hw, hres⟩ := HX.out
      have HRES := Lib.hid hres
      have HRX := Lib.hid hx
      have HRA := Lib.hid ha
      have HRB := Lib.hid hb
      have HRC := Lib.hid hc
      have HBW := Lib.hid hw
      have a0 := HRA.out.cell 0
      have a1 := HRA.out.cell 1
      have x1 := HRX.out.cell 1
      simp only [insC, List.getElem?_cons_zero, List.getElem?_cons_succ] at a0 a1 x1
      clear hx ha hb hc hw hres HX
      cases T with
      | false =>
        go_wp2_with fail
        go_ret
        exact ⟨by rw [HRES.out]; rfl, HBW.out⟩
      | true =>
        go_wp2_with fail
        refine (has_p A.1 A.2 x.a _).mono ?_
        rintro e W2 ⟨rfl, hb2⟩
        have b0 := (HRB.out.after hb2).cell 0
        have b1 := (HRB.out.after hb2).cell 1
        have x2 := (HRX.out.after hb2).cell 2
        simp only [insC, List.getElem?_cons_zero, List.getElem?_cons_succ] at b0 b1 x2
        have HB2 := Lib.hid (HBW.out.trans (hb2.mono HBW.out.size))
        have HRC2 := Lib.hid (HRC.out.after hb2)
        have HRX2 := Lib.hid (HRX.out.after hb2)
        clear a0 a1 x1 hb2 HRA HRB HRC HRX
        obtain ⟨P, hP⟩ : ∃ P, P = inB A x.a := ⟨_, rfl⟩
        have HP := Lib.hid hP
        rw [show inB (A.1, A.2) x.a = P from hP.symm]
        clear hP
        cases P with
        | false =>
          go_wp2_with fail
          go_ret
          exact ⟨by rw [HRES.out]; simp [opV, ← HP.out], HB2.out⟩
        | true =>
          go_wp2_with fail
          refine (has_p B.1 B.2 x.b W2).mono ?_
          rintro e W3 ⟨rfl, hb3⟩
          have e0 := (HRC2.out.after hb3).cell 0
          have e1 := (HRC2.out.after hb3).cell 1
          have x3 := (HRX2.out.after hb3).cell 3
          simp only [insC, List.getElem?_cons_zero, List.getElem?_cons_succ] at e0 e1 x3
          have HB3 := Lib.hid (HB2.out.trans (hb3.mono HB2.out.size))
          clear b0 b1 x2 hb3 HRC2 HRX2
          obtain ⟨Q, hQ⟩ : ∃ Q, Q = inB B x.b := ⟨_, rfl⟩
          have HQ := Lib.hid hQ
          rw [show inB (B.1, B.2) x.b = Q from hQ.symm]
          clear hQ
          cases Q with
          | false =>
            go_wp2_with fail
            go_ret
            exact ⟨by rw [HRES.out]; simp [opV, ← HP.out, ← HQ.out], HB3.out⟩
          | true =>
            go_wp2_with fail
            refine (has_p C.1 C.2 x.c W3).mono ?_
            rintro e W4 ⟨rfl, hb4⟩
            have HB4 := Lib.hid (HB3.out.trans (hb4.mono HB3.out.size))
            clear e0 e1 x3 hb4
            go_wp2_with fail
            go_ret
            exact ⟨by rw [HRES.out]; simp [opV, ← HP.out, ← HQ.out], HB4.out⟩
end Go.Proofs.YtoddklfblcfoiaaDoor
