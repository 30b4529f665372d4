/-
  Whether a function runs, walked. Condition: code within a machine's reach.
-/
import Derived.Test.YtoddklfblcfoiaaDoorCoX
import Derived.Carry
namespace Go.Proofs.YtoddklfblcfoiaaDoor
open Go Go.RowKit Go.Maps
set_option linter.unusedVariables false
set_option linter.unusedSimpArgs false
set_option maxRecDepth 100000

theorem least_ex {P : Nat → Prop} (m : Nat) : P m → ∃ k, P k ∧ ∀ j, P j → k ≤ j := by
  induction m using Nat.strongRecOn with
  | ind m ih =>
    intro h
    by_cases he : ∃ j, j < m ∧ P j
    · obtain ⟨j, h1, h2⟩ := he
      exact ih j h1 h2
    · exact ⟨m, h, fun j hj => Nat.le_of_not_lt fun hlt => he ⟨j, hlt, hj⟩⟩
open Classical in
noncomputable def leastM (P : Nat → Prop) : Nat := if h : ∃ k, P k ∧ ∀ j, P j → k ≤ j then Classical.choose h else 0
open Classical in
theorem leastM_spec {P : Nat → Prop} {m : Nat} (h : P m) : P (leastM P) ∧ leastM P ≤ m := by
  have h1 := least_ex m h
  unfold leastM
  rw [dif_pos h1]
  exact ⟨(Classical.choose_spec h1).1, (Classical.choose_spec h1).2 m h⟩
/-- where a walk through a function stands -/
structure RunS (w : World) (ob bm base : Nat) (i : Nat) (l : List Ins) (g : Ins) (aC : Option Addr) (nC cC : Nat) (wr : World) (vL : Value) (top : Nat) (K : Lab) (left : List Nat) : Prop where
  wk : WkS w ob bm base top i l g aC nC cC wr vL K left
  inv : Inv l i g K left
  tl : TlB l.length K
  row : Row wr w.heap.size 4 [.bool false]
  lim : 2 * unl l.length K + left.length ≤ 2 * l.length
def RunM (w : World) (ob bm base : Nat) (i : Nat) (l : List Ins) (g : Ins) (aC : Option Addr) (nC cC : Nat) (wr : World) (m : Nat) : Prop := ∃ vL top K left, RunS w ob bm base i l g aC nC cC wr vL top K left ∧ 2 * unl l.length K + left.length = m
def RunW (w : World) (ob bm base : Nat) (i : Nat) (l : List Ins) (g : Ins) (aC : Option Addr) (nC cC : Nat) (wr : World) : Prop := ∃ m, RunM w ob bm base i l g aC nC cC wr m
noncomputable def muW (w : World) (ob bm base : Nat) (i : Nat) (l : List Ins) (g : Ins) (aC : Option Addr) (nC cC : Nat) (wr : World) : Nat := leastM (RunM w ob bm base i l g aC nC cC wr)
theorem unl_none (n : Nat) : unl n (fun _ => none) = n := by
  unfold unl
  have e : (List.range n).filter (fun i => ((fun _ => none : Lab) i).isNone) = List.range n := List.filter_eq_self.2 (fun _ _ => rfl)
  rw [e, List.length_range]
set_option maxHeartbeats 2000000 in
theorem runs_p (W0 : World) (pb fuel pn : Nat) (HP0 : Hid (PrimsR W0 pb fuel pn)) (k : Nat) (aF : Option Addr) (nF kF : Nat) (aR : Option Addr) (nR kR : Nat) (aB : Option Addr) (nB kB : Nat) (gs : List Ins) (c : Cod) (i : Nat) (l : List Ins) (g : Ins) (w : World) (hW0 : Hid (Below W0.heap.size W0 w)) (hc : CodM w (.slice aF nF kF) (.slice aR nR kR) c) (hk : Row w k 79 [.slice aF nF kF, .slice aR nR kR, .slice aB nB kB]) (hB : Sl w 5 (.slice aB nB kB) nB (inCells gs)) (hi : c.f[i]? = some l) (hg : gs[i]? = some g) (hF : nF ≤ 65536) (hlen : l.length ≤ 1000000) (hop : ∀ x ∈ l, opB nF nR l.length x = true) (B : Bool) (HBV : Hid (B = runsV l i g)) :
    Calls Tryd.prog 42 #[.pointer (some ⟨k, 0, none⟩), .int .i64 (i : Nat)] w fun e w' => e = .returned (.bool B) ∧ Below w.heap.size w w' := by
  have hnF : c.f.length = nF := by obtain ⟨⟨vs, h1, h2⟩, h3⟩ := hc; have := h1.cap; omega
  have hnB : gs.length = nB := by have := hB.1; rw [flat_len insC 5 insC_len] at this; omega
  have hilt : i < nF := by have := (List.getElem?_eq_some_iff.1 hi).1; omega
  have hiB : i < nB := by have := (List.getElem?_eq_some_iff.1 hg).1; omega
  have hF1 := (show nF ≤ kF by obtain ⟨⟨vs, h1, h2⟩, h3⟩ := hc; exact h1.cap.1)
  have hB1 := hB.cap.1
  obtain ⟨gF, oF, aC, cC, rfl, hcell, hsl⟩ := hc.fun_at i l hi
  obtain ⟨gB, oB, g', rfl, hg', hgc⟩ := hB.elem insC insC_len (by decide) i hiB
  rw [hg] at hg'
  cases hg'
  obtain ⟨nC, hnC⟩ : ∃ n, n = l.length := ⟨_, rfl⟩
  have HNC := Lib.hid hnC
  have HOP := Lib.hid hop
  have HSL := Lib.hid hsl
  rw [← hnC] at hcell hlen
  clear hnC hop hsl hnF hnB hi hg hB hc
  obtain ⟨w1, hw1⟩ : ∃ y, y = w.alloc (.cells #[.bool false] 4) := ⟨_, rfl⟩
  have bw : Below w.heap.size w w1 := by rw [hw1]; exact (Below.refl _ _).alloc (Nat.le_refl _) _
  have r1 : Row w1 w.heap.size 4 [.bool false] := by rw [hw1]; exact Row.new w [.bool false] 4
  have s1 : w1.heap.size = w.heap.size + 1 := by rw [hw1]; simp
  have q0 := later_cell ((hk.after bw).cell 0)
  have q1 := later_cell ((hk.after bw).cell 2)
  have q2 := later_cell ((bw.cell (lt_of_cell hcell)).trans hcell)
  have d0 := later_cell ((bw.cell (lt_of_cell (hgc 0 _ rfl))).trans (hgc 0 _ rfl))
  have d1 := later_cell ((bw.cell (lt_of_cell (hgc 1 _ rfl))).trans (hgc 1 _ rfl))
  have d2 := later_cell ((bw.cell (lt_of_cell (hgc 2 _ rfl))).trans (hgc 2 _ rfl))
  have d3 := later_cell ((bw.cell (lt_of_cell (hgc 3 _ rfl))).trans (hgc 3 _ rfl))
  have d4 := later_cell ((bw.cell (lt_of_cell (hgc 4 _ rfl))).trans (hgc 4 _ rfl))
  simp only [Nat.add_zero] at d0
  have HBW := Lib.hid bw
  have HR1 := Lib.hid r1
  have HS1 := Lib.hid s1
  clear bw r1 s1 hcell hgc hk
  have hmm := @run_makeMap Tryd.prog
  have hmf : ∀ (fn : Fn) (first cap : Array Value) (w : World), (Instr.makeFunc fn first cap).run Tryd.prog w = .ok (.func fn first cap) w := fun _ _ _ _ => rfl
  go_enter_defers Tryd.func42, Tryd.ntmps42
  go_upto_region 2 with fail
  rw [← hw1]
  clear hw1
  refine wp_region_idx Rb Rb_refl Rb_trans [(0,0),(0,1),(0,2),(0,3),(0,4),(0,5),(0,6),(0,7),(0,8),(0,9),(0,10),(0,11),(0,12),(0,13),(0,14),(0,15),(1,16),(0,17),(1,18),(0,19)] (by kernel_rfl) (by kernel_rfl) (by kernel_rfl) ?_
  simp only [pickO, List.getD_cons_succ, List.getD_cons_zero]
  refine wpCan_seg 16 (by kernel_rfl) ?_
  simp only [List.take_succ_cons, List.take_zero, List.drop_succ_cons, List.drop_zero, List.map_cons, List.map_nil]
  iterate 16 (go_big_quiet_step (fail))
  refine wpQuiet_nil ?_
  clear q0 q1 q2 d0 d1 d2 d3 d4
  refine wpCan_list (k := 0) (fun KK hK => ?_) (fun _ => Rb_refl _)
  go_wp2_with fail
  have hal0 : Below w1.drew.heap.size w1.drew (w1.drew.alloc (.map #[] 0)) := (Below.refl _ _).alloc (Nat.le_refl _) _
  refine hK _ _ (fun _ => hal0) ?_
  clear hK KK hmm
  obtain ⟨w2, hw2⟩ : ∃ y, y = (w1.alloc (.map #[] 0)).drew := ⟨_, rfl⟩
  have hall2 : Below w.heap.size w w2 ∧ MapIs stE Tryd.prog 3 w2 (w.heap.size + 1) [] (fun _ => stE.z) ∧ Row w2 w.heap.size 4 [.bool false] ∧ w2.heap.size = w.heap.size + 1 + 1 := by
    have hm := MapIs.made stE Tryd.prog 3 w1
    rw [HS1.out] at hm
    have hm' := hm.below (Below.refl _ _).drew
    rw [← hw2] at hm'
    have hbm : Below w.heap.size w1 (w1.alloc (.map #[] 0)) := (Below.refl _ _).alloc (by rw [HS1.out]; omega) _
    have hbd : Below w.heap.size w1 w2 := by rw [hw2]; exact hbm.drew
    refine ⟨HBW.out.trans hbd, hm', ?_, by rw [hw2]; show (w1.alloc (.map #[] 0)).heap.size = _; simp [HS1.out]⟩
    have h3 := (HR1.out.alloc (.map #[] 0)).drew
    rw [← hw2] at h3
    exact h3
  rw [← hw2, HS1.out]
  clear hw2 hal0
  obtain ⟨hb2, hm2, hr2, hs2⟩ := hall2
  have HB2 := Lib.hid hb2
  have HM2 := Lib.hid hm2
  have HR2 := Lib.hid hr2
  have HS2 := Lib.hid hs2
  clear hb2 hm2 hr2 hs2 HBW HR1 HS1
  refine wpCan_seg 1 (by kernel_rfl) ?_
  simp only [List.take_succ_cons, List.take_zero, List.drop_succ_cons, List.drop_zero, List.map_cons, List.map_nil]
  iterate 1 (go_big_quiet_step (fail))
  refine wpQuiet_nil ?_
  refine wpCan_list (k := 0) (fun KK hK => ?_) (fun _ => Rb_refl _)
  go_wp2_with fail
  obtain ⟨ob, hob⟩ : ∃ y, y = w2.heap.size := ⟨_, rfl⟩
  obtain ⟨bm, hbm⟩ : ∃ y, y = w.heap.size + 1 := ⟨_, rfl⟩
  have hb3 : Below w2.heap.size w2 (w2.alloc (.cells #[.int .i64 (i : Nat), .slice aC nC cC, .int .u8 (g.op.toNat : Int), .int .i64 g.a, .int .i64 g.b, .int .i64 g.c, .string (str g.t), .map (some (w.heap.size + 1)), .slice none 0 0] 120)) := (Below.refl _ _).alloc (Nat.le_refl _) _
  refine hK _ _ (fun _ => hb3) ?_
  clear hK KK
  obtain ⟨w3, hw3⟩ : ∃ y, y = w2.alloc (.cells #[.int .i64 (i : Nat), .slice aC nC cC, .int .u8 (g.op.toNat : Int), .int .i64 g.a, .int .i64 g.b, .int .i64 g.c, .string (str g.t), .map (some (w.heap.size + 1)), .slice none 0 0] 120) := ⟨_, rfl⟩
  have hs3 : w3.heap.size = w2.heap.size + 1 := by rw [hw3]; simp
  have hr3 : Row w3 w2.heap.size 120 ([.int .i64 (i : Nat), .slice aC nC cC] ++ insC g ++ [.map (some (w.heap.size + 1)), .slice none 0 0]) := by
    rw [hw3]
    exact Row.new w2 ([.int .i64 (i : Nat), .slice aC nC cC] ++ insC g ++ [.map (some (w.heap.size + 1)), .slice none 0 0]) 120
  rw [← hw3] at hb3 ⊢
  clear hw3
  rw [← hbm, ← hob] at hr3
  rw [← hbm, ← hob]
  have hm3 : MapIs stE Tryd.prog 3 w3 bm [] (fun _ => stE.z) := by rw [hbm]; exact HM2.out.below hb3
  have hR3 := HR2.out.after hb3
  have HOB : Hid (ob = w.heap.size + 1 + 1) := Lib.hid (hob.trans HS2.out)
  have HBM := Lib.hid hbm
  have HWK : Hid (WkS w ob bm (ob + 1) (ob + 1) i l g aC nC cC w3 (.slice none 0 0) (fun _ => none) []) := Lib.hid (by
    have e1 := HOB.out
    have e2 := HS2.out
    refine ⟨hr3, ⟨[], fun _ => stE.z, hm3, fun k => by simp, fun z hz => by simp at hz, by rw [unl_none]; simp, fun k s hk => by cases hk⟩, Own.nil _ _ _, ⟨by omega, by omega⟩, ⟨by omega, by omega⟩, by omega, HB2.out.trans (hb3.mono HB2.out.size), ⟨by omega, by omega⟩⟩)
  have HR3 := Lib.hid hR3
  have hrl := hr3
  clear hob hbm hm3 hR3 hs3 hb3 HM2 HR2 HS2 HB2 hr3
  refine wpCan_seg 1 (by kernel_rfl) ?_
  simp only [List.take_succ_cons, List.take_zero, List.drop_succ_cons, List.drop_zero, List.map_cons, List.map_nil]
  iterate 1 (go_big_quiet_step (fail))
  refine wpQuiet_nil ?_
  unfold wpCan
  go_wp2_with fail
  refine (least_p ob i _ w3 hrl).mono ?_
  rintro e w4 ⟨rfl, rfl⟩
  clear hrl
  go_wp2_with fail
  refine (to_p w ob bm (ob + 1) (ob + 1) i l g aC nC cC w4 (.slice none 0 0) (fun _ => none) [] HWK.out hlen (by simp) 0 (leastV i, []) none 0 0 (TrV.nil _ _ _ _)).mono ?_
  rintro e w5 (⟨K', left', vL', HR, rfl, h5, hm5, hv5⟩ | ⟨hno, rfl, hm5⟩)
  · have hpos : 0 < l.length := by
      by_cases h0 : 0 < l.length
      · exact h0
      · have h1 := HR.out
        unfold toS at h1
        have := HNC.out
        rw [if_neg (by simp only; omega)] at h1
        cases h1
    have h1 := HR.out
    unfold toS at h1
    have hnc := HNC.out
    rw [if_pos (by simp only; omega)] at h1
    cases h1
    have H0 : Hid (RunS w ob bm (ob + 1) i l g aC nC cC w5 vL' (ob + 1) (setK (fun _ => none) 0 (leastV i, [])) [0]) := Lib.hid (by
      refine ⟨h5, Inv.begin hpos, TlB.begin hpos i, HR3.out.mods hm5 ?_, ?_⟩
      · have := HOB.out
        have := HBM.out
        rintro (e | e | e)
        · omega
        · omega
        · cases e
      · have := unl_set (n := l.length) (K := fun _ => none) (p := 0) (s := (leastV i, [])) hpos rfl
        rw [unl_none] at this
        simp
        omega)
    clear h5 hm5 hv5 HR hnc HR3 HWK
    go_wp2_with fail
    go_loopw [6] (fun v6 wr => RunW w ob bm (ob + 1) i l g aC nC cC wr) (fun v6 wr => muW w ob bm (ob + 1) i l g aC nC cC wr)
    case atStart => exact ⟨_, _, _, _, _, H0.out, rfl⟩
    case round =>
      clear H0
      obtain ⟨m0, hm0⟩ := hrel
      obtain ⟨⟨vL, top, K, left, hS, hM⟩, hxx⟩ := leastM_spec hm0
      have HM : Hid (2 * unl l.length K + left.length = muW w ob bm (ob + 1) i l g aC nC cC wr) := Lib.hid hM
      have HS := Lib.hid hS
      have f0 := hS.row.free 0
      have b0 := hS.row.cell 0
      have c8 := hS.wk.row8.1
      have f8 := hS.wk.row.free 8
      simp only [List.getElem?_cons_zero] at b0
      clear hxx hm0 hM m0
      cases left with
      | nil =>
        obtain ⟨a, cc, rfl⟩ := hS.wk.lft.form
        have hB : B = true := HBV.out.trans (runsV_yes hS.inv.ends)
        clear hS
        simp only [List.length_nil] at c8
        go_wp2_with fail
        exact runs_ends _ rfl (HS.out.row.set 0 (.bool true)) ⟨by rw [hB], by
          have h1 := HS.out.wk.bel
          exact below_mods h1 (Mods.set wr w.heap.size 0 (.bool true)) (fun g hg => by omega) h1.size⟩
      | cons p rest =>
        have hown := hS.wk.lft
        obtain ⟨g6, off, cap, rfl, e1, e2, e3, e4, e5⟩ := hown.open (by simp) (by decide)
        have c6 : wr.cell? ⟨g6, off, none⟩ = some (.int .i64 (p : Nat)) := by
          have := hown.get 0 (by rw [e5]; simp)
          simpa [nats] using this
        obtain ⟨hcut, off', hca⟩ := hS.wk.cut
        rw [show (p :: rest).length - 1 = rest.length by simp, hca] at hcut
        simp only [List.length_cons] at e3 c8 hcut
        obtain ⟨s, hs⟩ : ∃ s, K p = some s := Option.ne_none_iff_exists'.1 (hS.inv.lft p (List.mem_cons_self ..))
        have hpl : p < l.length := hS.inv.dom p s hs
        have hsl : ∀ wx : World, (Instr.slice 118 (.slice (some ⟨g6, off, none⟩) (rest.length + 1) cap) (some (.int .i64 1)) none none).run Tryd.prog wx = .ok (.slice (some ⟨g6, off', none⟩) rest.length (cap - 1)) wx := fun wx => by
          have h1 := run_cut (P := Tryd.prog) wx Tryd.underlying118 (by kernel_rfl) (some ⟨g6, off, none⟩) (rest.length + 1) cap 1 (rest.length + 1) cap (some (.int .i64 ((1 : Nat) : Int))) none none (bounds_l _ _ _ _ _ (by omega))
          rw [hca] at h1
          simpa using h1
        have HSS := Lib.hid hs
        have HCUT := Lib.hid hcut
        have hcapp : rest.length < cap := by omega
        clear hS hown hcut hs e5 hca b0 f0
        go_upto_region 7 with fail
        obtain ⟨w5, hw5⟩ : ∃ y, y = wr.setCell ⟨ob, 8, none⟩ (.slice (some ⟨g6, off', none⟩) rest.length (cap - 1)) := ⟨_, rfl⟩
        have hm5 : Mods (fun b => b = ob) wr w5 := by rw [hw5]; exact Mods.set _ _ _ _
        rw [← hw5] at HCUT ⊢
        clear hw5 c8 f8 c6 hsl
        have hplt : p < nC := by rw [HNC.out]; exact hpl
        have HROW : Hid (Row w5 w.heap.size 4 [.bool false]) := Lib.hid (HS.out.row.mods hm5 (by have := HOB.out; omega))
        obtain ⟨b5, o5, x, rfl, hx, hc5⟩ := (HSL.out.below HCUT.out.bel).elem insC insC_len (by decide) p hpl
        have k1 := later_cell (show w5.cell? ⟨ob, 1, none⟩ = some (.slice (some ⟨b5, o5, none⟩) nC cC) from HCUT.out.row.cell 1)
        have k7 := later_cell HCUT.out.row8.2.1
        have d0 := later_cell (hc5 0 _ rfl)
        have d1 := later_cell (hc5 1 _ rfl)
        have d2 := later_cell (hc5 2 _ rfl)
        have d3 := later_cell (hc5 3 _ rfl)
        have d4 := later_cell (hc5 4 _ rfl)
        simp only [Nat.add_zero] at d0
        obtain ⟨aT, cT, hlk, hT⟩ := HCUT.out.map.looksA hlen HSS.out
        have HT := Lib.hid hT
        have HX := Lib.hid hx
        have HSTK : Hid (goTo nC (outs K i g p x s) K rest = none → B = false) := Lib.hid (fun hno => HBV.out.trans (runsV_no (HS.out.inv.stuck (rest := rest) hx HSS.out (by unfold stepV; rw [← HNC.out]; exact hno))))
        clear hx hc5 hT hm5
        refine wp_region_idxP Rb Rb_refl Rb_trans (fun c w' => c = wrongE ∧ Mods (WkP ob bm (.slice (some ⟨g6, off', none⟩) rest.length (cap - 1))) w5 w' ∧ goTo nC (outs K i g p x s) K rest = none) [(0,0),(0,1),(0,2),(0,3),(0,4),(0,5),(0,6),(0,7),(0,8),(0,9),(0,10),(0,11),(0,12),(0,13),(0,14),(2,15)] (by kernel_rfl) [4] (by kernel_rfl) (by kernel_rfl) (by kernel_rfl) ?_ ?_
        · rintro c a' w' hh ⟨rfl, hmm, hno⟩
          have h4 := hh.2 4 (by simp)
          have hB := HSTK.out hno
          have hob := HOB.out
          have hbm := HBM.out
          show Leaves _ _ a'.tmps _ a'.defers _ w'
          rw [hh.1]
          have hrow := HROW.out.mods hmm (by
            rintro (e | e | e)
            · omega
            · omega
            · have e' : g6 = w.heap.size := by simpa [Value.ownBlock] using e
              omega)
          have hbel : Below w.heap.size w w' := below_mods HCUT.out.bel hmm (by
            rintro g (e | e | e)
            · omega
            · omega
            · have e' : g6 = g := by simpa [Value.ownBlock] using e
              omega) HCUT.out.bel.size
          exact runs_falls _ h4 hrow (fun w9 hm9 => ⟨by rw [hB], below_mods hbel hm9 (fun g hg => by omega) hbel.size⟩)
        simp only [pickO, List.getD_cons_succ, List.getD_cons_zero]
        refine wpCanP_seg 15 (by kernel_rfl) ?_
        simp only [List.take_succ_cons, List.take_zero, List.drop_succ_cons, List.drop_zero, List.map_cons, List.map_nil]
        iterate 15 (go_big_quiet_step (fail))
        refine wpQuiet_nil ?_
        clear k1 k7 d0 d1 d2 d3 d4 hlk
        refine wpCanP_list (k := 1) (fun KK hK hP => ?_) rfl
        go_wp2_with fail
        have HH : Hid (StpH w ob bm (ob + 1) top i l g (some ⟨b5, o5, none⟩) nC cC w5.drew (.slice (some ⟨g6, off', none⟩) rest.length (cap - 1)) K rest p x s aT s.2.length cT) := Lib.hid (by
          have hb := HS.out.inv.bnd p s HSS.out
          have ht := HS.out.tl p s HSS.out
          have hl := HS.out.lim
          simp only [List.length_cons] at hl
          have hnc := HNC.out
          refine ⟨HCUT.out.fresh (Below.refl _ _).drew, HT.out.fresh (Below.refl _ _).drew, HS.out.inv.tri p s HSS.out, hlen, by omega, hplt, hb.1, by omega, fun q t hq => ?_, by omega⟩
          have hb := HS.out.inv.bnd q t hq
          omega)
        have hopx := HOP.out x (List.mem_of_getElem? HX.out)
        have hmx := op_moves hopx hF
        rw [← HNC.out] at hopx
        have hst := step_p W0 pb fuel pn HP0 nF nR w ob bm (ob + 1) top i l g (some ⟨b5, o5, none⟩) nC cC w5.drew (.slice (some ⟨g6, off', none⟩) rest.length (cap - 1)) K rest p x s aT s.2.length cT (Lib.hid (hW0.out.trans ((HCUT.out.bel.trans ((Below.refl w5.heap.size w5).drew.mono HCUT.out.bel.size)).mono hW0.out.size))) HH (Lib.hid hopx) hF (Lib.hid hmx)
        refine hst.mono ?_
        clear hst
        rintro e w6 (⟨K', left', vL2, top', HR, rfl, h6, hm6, hv6⟩ | ⟨hno, rfl, hm6⟩)
        · go_wp2_with fail
          refine hK _ _ ⟨rfl, fun j hj => ?_⟩ (fun h => by cases h) ?_
          · obtain rfl : j = 4 := by simpa using hj
            rfl
          clear hK hP KK
          have hsv : stepV l i g K rest p x s = some (K', left') := by
            have h1 := HR.out
            unfold stepV
            rw [← HNC.out]
            exact h1
          obtain ⟨hinv, hdec⟩ := HS.out.inv.step (fun q => by simp) HX.out hmx HSS.out hsv
          have htl := HS.out.tl.step HSS.out hsv
          have hlim := HS.out.lim
          have hmu := HM.out
          simp only [List.length_cons] at hlim hmu
          have hob := HOB.out
          have hbm := HBM.out
          have hrow := HROW.out.drew.mods hm6 (by
            rintro (e | e | e)
            · omega
            · omega
            · have e' : g6 = w.heap.size := by simpa [Value.ownBlock] using e
              omega)
          have hRS : RunS w ob bm (ob + 1) i l g (some ⟨b5, o5, none⟩) nC cC w6 vL2 top' K' left' := ⟨h6, hinv, htl, hrow, by omega⟩
          have HRS := Lib.hid hRS
          have HML : Hid (muW w ob bm (ob + 1) i l g (some ⟨b5, o5, none⟩) nC cC w6 < muW w ob bm (ob + 1) i l g (some ⟨b5, o5, none⟩) nC cC wr) := Lib.hid (by
            have h1 := (leastM_spec (P := RunM w ob bm (ob + 1) i l g (some ⟨b5, o5, none⟩) nC cC w6) ⟨vL2, top', K', left', hRS, rfl⟩).2
            show leastM _ < _
            omega)
          clear hRS hrow hob hbm hmu hlim htl hinv hdec hsv h6 hm6 hv6
          unfold wpCanP
          go_wp2_with fail
          exact ⟨⟨_, vL2, top', K', left', HRS.out, rfl⟩, HML.out⟩
        · have HNO := Lib.hid hno
          have HMM : Hid (Mods (WkP ob bm (.slice (some ⟨g6, off', none⟩) rest.length (cap - 1))) w5 w6) := Lib.hid ((Mods.fresh (Below.refl w5.heap.size w5).drew _).trans hm6)
          clear hno hm6
          go_wp2_with fail
          first
            | exact HNO.out
            | exact ⟨HMM.out, HNO.out⟩
            | exact ⟨rfl, HMM.out, HNO.out⟩
            | exact hP _ _ _ ⟨rfl, HMM.out, HNO.out⟩
  · have hB : B = false := HBV.out.trans (runsV_no (by
      have hn := HNC.out
      rcases l with _ | ⟨y, ys⟩
      · exact runs_none
      · unfold toS at hno
        rw [if_pos (by simp only; simp at hn; omega)] at hno
        cases hno))
    have hob := HOB.out
    have hbm := HBM.out
    have hrow := HR3.out.mods hm5 (by
      rintro (e | e | e)
      · omega
      · omega
      · cases e)
    have hbel : Below w.heap.size w w5 := below_mods HWK.out.bel hm5 (by
      rintro g (e | e | e)
      · omega
      · omega
      · cases e) HWK.out.bel.size
    go_wp2_with fail
    exact runs_falls _ rfl hrow (fun w9 hm9 => ⟨by rw [hB], below_mods hbel hm9 (fun g hg => by omega) hbel.size⟩)
end Go.Proofs.YtoddklfblcfoiaaDoor
