/-
  One step of the document's walk through a function. Condition: code within a machine's reach.
-/
import Derived.Test.YtoddklfblcfoiaaDoorCrE
import Derived.Test.YtoddklfblcfoiaaDoorCoL
namespace Go.Proofs.YtoddklfblcfoiaaDoor
open Go Go.RowKit Go.Maps
set_option linter.unusedVariables false
set_option linter.unusedSimpArgs false
set_option maxRecDepth 100000

/-- what a step comes to -/
def GoE (r : Option (Lab × List Nat)) (K : Lab) (left : List Nat) (K' : Lab) (left' : List Nat) (bad' : Bool) : Prop :=
  (bad' = false → r = some (K', left')) ∧ (bad' = true → r = none) ∧ (∀ q t, K q = some t → K' q = some t) ∧ left'.length ≤ left.length + 2
theorem GoD.one {r : Option (Lab × List Nat)} {K : Lab} {left : List Nat} {K' : Lab} {left' : List Nat} {bad' : Bool} (h : GoD r K left false K' left' bad') : GoE r K left K' left' bad' :=
  ⟨fun e => (h.1 e).2, fun e => (h.2.1 e).resolve_left (by simp), h.2.2.1, by have := h.2.2.2; omega⟩
theorem GoD.spoilt {r r1 : Option (Lab × List Nat)} {K : Lab} {left : List Nat} {K' : Lab} {left' : List Nat} {bad' : Bool} (h : GoD r1 K left true K' left' bad') (hr : r = none) : GoE r K left K' left' bad' :=
  ⟨fun e => (by have h1 := (h.1 e).1; cases h1), fun _ => hr, h.2.2.1, by have := h.2.2.2; omega⟩
theorem GoE.bad {r : Option (Lab × List Nat)} {K : Lab} {left : List Nat} (h : r = none) : GoE r K left K left true := ⟨fun e => (by cases e), fun _ => h, fun _ _ h => h, by omega⟩
theorem GoE.good {r : Option (Lab × List Nat)} {K : Lab} {left : List Nat} (h : r = some (K, left)) : GoE r K left K left false := ⟨fun _ => h, fun e => (by cases e), fun _ _ h => h, by omega⟩
theorem GoD.two {n : Nat} {y z : Int × Lb} {r : Option (Lab × List Nat)} {K K1 K2 : Lab} {l l1 l2 : List Nat} {b b1 b2 : Bool} (h1 : GoD (toS n y K l) K l b K1 l1 b1) (h2 : GoD (toS n z K1 l1) K1 l1 b1 K2 l2 b2) (hr0 : b = true → r = none) (hr : b = false → r = toAll n [y, z] K l) : GoE r K l K2 l2 b2 := by
  refine ⟨fun e => ?_, fun e => ?_, fun q t hq => h2.2.2.1 q t (h1.2.2.1 q t hq), by have := h1.2.2.2; have := h2.2.2.2; omega⟩
  · obtain ⟨e1, e2⟩ := h2.1 e
    obtain ⟨e3, e4⟩ := h1.1 e1
    rw [hr e3, toAll_two _ _ _ _ _ e4, e2]
  · cases hb : b with
    | true => exact hr0 hb
    | false =>
      rw [hr hb]
      cases hb1 : b1 with
      | true =>
        rcases h1.2.1 hb1 with h | h
        · rw [hb] at h; cases h
        · exact toAll_no _ _ _ _ _ h
      | false =>
        have e4 := (h1.1 hb1).2
        rw [toAll_two _ _ _ _ _ e4]
        rcases h2.2.1 e with h | h
        · rw [hb1] at h; cases h
        · exact h
theorem GoD.fail {r r1 : Option (Lab × List Nat)} {K : Lab} {left : List Nat} {b : Bool} {K' : Lab} {left' : List Nat} (h : GoD r1 K left b K' left' true) (hr : r = none) : GoE r K left K' left' true :=
  ⟨fun e => (by cases e), fun _ => hr, h.2.2.1, by have := h.2.2.2; omega⟩
theorem GoD.early {n : Nat} {y z : Int × Lb} {K : Lab} {left : List Nat} {K' : Lab} {left' : List Nat} (h : GoD (toS n y K left) K left false K' left' true) : GoE (toAll n [y, z] K left) K left K' left' true :=
  h.fail (toAll_no _ _ _ _ _ ((h.2.1 rfl).resolve_left (by simp)))
def DStR (w0 : World) (ob ba oa base top f : Nat) (vF vR : Value) (g : Ins) (nA : Nat) (w : World) (vL : Value) (r : Option (Lab × List Nat)) (K : Lab) (left : List Nat) (e : Ending) (w' : World) : Prop :=
  ∃ K' left' bad' vL' top', e = .returned (.tuple #[]) ∧ FlS w0 ob ba oa base top' f vF vR g nA w' vL' K' left' bad' ∧ Mods (WkP ob ba vL) w w' ∧ (∀ g, vL'.ownBlock = some g → vL.ownBlock = some g ∨ w.heap.size ≤ g) ∧ Hid (GoE r K left K' left' bad')
/-- what a step is walked from -/
structure StpD (w0 : World) (ob ba oa base top f : Nat) (aF : Option Addr) (nF kF : Nat) (aR : Option Addr) (nR kR : Nat) (c : Cod) (l : List Ins) (g : Ins) (nA : Nat) (w : World) (vL : Value) (K : Lab) (left : List Nat) (at_ : Nat) (x : Ins) (s : Lb) : Prop where
  fl : FlS w0 ob ba oa base top f (.slice aF nF kF) (.slice aR nR kR) g nA w vL K left false
  cod : CodM w0 (.slice aF nF kF) (.slice aR nR kR) c
  cf : c.f[f]? = some l
  lx : l[at_]? = some x
  ks : K at_ = some s
  ok : TriOk K s.2
  ln : nA = l.length
  len : nA ≤ 1000000
  lft : left.length ≤ 9000000
  h0 : 0 ≤ s.1
  h1 : s.1 ≤ 500000000000
  kb : ∀ p t, K p = some t → 0 ≤ t.1 ∧ t.1 ≤ 500000000000
  tl : s.2.length ≤ 1000000
  opb : opB nF nR nA x = true
  nF0 : nF ≤ 65536
section
variable {w0 : World} {ob ba oa base top f : Nat} {vF vR : Value} {g : Ins} {nA : Nat} {w w' : World} {vL vL' : Value} {K : Lab} {left : List Nat} {bad : Bool}
theorem FlS.past (h : FlS w0 ob ba oa base top f vF vR g nA w vL K left bad) {v : Value} {T : List Nat} (hv : TrV w base top vL.ownBlock v T) (hm : Mods (WkP ob ba vL) w w') (hl : ∀ g, vL'.ownBlock = some g → vL.ownBlock = some g ∨ w.heap.size ≤ g) : TrV w' base top vL'.ownBlock v T :=
  hv.mods h.up.2 hm (fun g g1 g2 g3 e => by
    have h1 := h.obk
    have h2 := h.bak
    rcases e with e | e | e
    · omega
    · omega
    · exact g3 e.symm) hl
theorem tryD (h : FlS w0 ob ba oa base top f vF vR g nA w vL K left bad) (hb : Below w.heap.size w w') {a : Option (Nat × Nat)} {n c : Nat} {T : List Nat} (ht : TrV w base top vL.ownBlock (.slice (adrOf a) n c) T) {v6 : Value} {U : List Nat} (ho : Own w' w.heap.size 1 v6 (n + 1) (nats U)) :
    ∃ a6 c6, v6 = .slice (adrOf a6) (n + 1) c6 ∧ FlS w0 ob ba oa base w'.heap.size f vF vR g nA w' vL K left bad ∧ TrV w' base w'.heap.size vL.ownBlock (.slice (adrOf a6) (n + 1) c6) U ∧ TrV w' base w'.heap.size vL.ownBlock (.slice (adrOf a) n c) T := by
  obtain ⟨g6, off, cap, rfl, e1, e2, e3, e4, e5⟩ := ho.open (by omega) (by decide)
  have hu := h.up
  have hs := hb.size
  have hl : U.length = n + 1 := by rw [nats_length] at e5; omega
  refine ⟨some (g6, off), cap, rfl, (h.fresh hb).raise (by omega) (Nat.le_refl _), ⟨?_, ?_, some (g6, off), cap, by rw [hl]⟩, (ht.fresh hb).raise (by omega)⟩
  · rw [hl]; exact ho.sl
  · intro g hg
    obtain rfl : g6 = g := by injection hg
    have hb0 : base ≤ g6 := by omega
    refine ⟨hb0, e2, fun e => ?_⟩
    have := h.lft.lives g6 e.symm
    omega
end
/- behind a first call, of on or to: w5 -/
/- the state's height is set, in w5 -/
/- the second call, of to, from W -/
set_option maxHeartbeats 16000000 in
theorem dstep_p (w0 : World) (ob ba oa base top f : Nat) (aF : Option Addr) (nF kF : Nat) (aR : Option Addr) (nR kR : Nat) (c : Cod) (l : List Ins) (g : Ins) (nA : Nat) (w : World) (vL : Value) (K : Lab) (left : List Nat) (at_ : Nat) (x : Ins) (s : Lb) (H : Hid (StpD w0 ob ba oa base top f aF nF kF aR nR kR c l g nA w vL K left at_ x s)) :
    Calls Tryd.prog 69 #[.pointer (some ⟨ob, 0, none⟩), .int .i64 (at_ : Nat)] w fun e w' => DStR w0 ob ba oa base top f (.slice aF nF kF) (.slice aR nR kR) g nA w vL (goTo nA (outs K f g at_ x s) K left) K left e w' := by
  have hr := op_range H.out.opb
  have hm := Lib.hid (op_moves H.out.opb H.out.nF0)
  have hlen := H.out.len
  have hh0 := H.out.h0
  have hh1 := H.out.h1
  have hatl : at_ < nA := by rw [H.out.ln]; exact (List.getElem?_eq_some_iff.1 H.out.lx).1
  have hatl' : (at_ : Int) < nA := by omega
  have hat0 : ¬ (at_ : Int) < 0 := by omega
  have hfn : f < nF := by
    have h1 := (List.getElem?_eq_some_iff.1 H.out.cf).1
    obtain ⟨⟨vs, h2, h3⟩, h4⟩ := H.out.cod
    have := h2.cap
    omega
  have hfn' : (f : Int) < nF := by omega
  obtain ⟨gF, oF, aL, cL, rfl, hcell, hsl⟩ := (H.out.cod.below H.out.fl.bel).fun_at f l H.out.cf
  obtain ⟨b5, o5, y, rfl, hy, hc5⟩ := hsl.elem insC insC_len (by decide) at_ (by rw [← H.out.ln]; exact hatl)
  rw [H.out.lx] at hy
  cases hy
  rw [← H.out.ln] at hcell
  have d0 := hc5 0 _ rfl
  have d1 := hc5 1 _ rfl
  have d2 := hc5 2 _ rfl
  have d3 := hc5 3 _ rfl
  have d4 := hc5 4 _ rfl
  simp only [Nat.add_zero] at d0
  obtain ⟨_, aT, cT, t0, t1, t2, hT⟩ := H.out.fl.look H.out.ks
  obtain ⟨nT, hnT⟩ : ∃ y, y = s.2.length := ⟨_, rfl⟩
  rw [← hnT] at t2 hT
  have HNT := Lib.hid hnT
  have HT := Lib.hid hT
  have c0 : w.cell? ⟨ob, 0, none⟩ = some (.slice (some ⟨gF, oF, none⟩) nF kF) := H.out.fl.row.cell 0
  have c2 : w.cell? ⟨ob, 2, none⟩ = some (.int .i64 (f : Nat)) := H.out.fl.cells.1
  have c6 := H.out.fl.cells.2.1
  clear hsl hc5 hnT hT
  obtain ⟨kb, hkb⟩ : ∃ y, y = w.heap.size := ⟨_, rfl⟩
  obtain ⟨w1, hw1⟩ : ∃ y, y = w.alloc (.cells #[.bool true, .int .i64 s.1, .slice (adrOf aT) nT cT] 132) := ⟨_, rfl⟩
  have hb1 : Below w.heap.size w w1 := by rw [hw1]; exact (Below.refl _ _).alloc (Nat.le_refl _) _
  have hs1 : w1.heap.size = kb + 1 := by rw [hw1, hkb]; simp
  have hr1 : Row w1 kb 132 [.bool true, .int .i64 s.1, .slice (adrOf aT) nT cT] := by rw [hw1, hkb]; exact Row.new w _ _
  have HB1 := Lib.hid hb1
  have HS1 := Lib.hid hs1
  have HR1 := Lib.hid hr1
  go_enter Tryd.func69, Tryd.ntmps69
  go_upto_region 1 with fail
  rw [← hw1, ← hkb]
  have HK0 := Lib.hid hkb
  clear t0 t1 t2 hw1 hkb
  have q0 := later_cell ((hb1.cell (lt_of_cell c0)).trans c0)
  have q2 := later_cell ((hb1.cell (lt_of_cell c2)).trans c2)
  have qf := later_cell ((hb1.cell (lt_of_cell hcell)).trans hcell)
  have e0 := later_cell ((hb1.cell (lt_of_cell d0)).trans d0)
  have e1 := later_cell ((hb1.cell (lt_of_cell d1)).trans d1)
  have e2 := later_cell ((hb1.cell (lt_of_cell d2)).trans d2)
  have e3 := later_cell ((hb1.cell (lt_of_cell d3)).trans d3)
  have e4 := later_cell ((hb1.cell (lt_of_cell d4)).trans d4)
  clear c0 c2 c6 hcell d0 d1 d2 d3 d4
  refine wp_region_idx Rb Rb_refl Rb_trans [(0,0),(0,1),(0,2),(0,3),(0,4),(0,5),(0,6),(0,7),(0,8),(0,9),(0,10),(0,11),(0,12),(0,13),(1,14),(2,15)] (by kernel_rfl) (by kernel_rfl) (by kernel_rfl) ?_
  simp only [pickO, List.getD_cons_succ, List.getD_cons_zero]
  refine wpCan_seg 14 (by kernel_rfl) ?_
  simp only [List.take_succ_cons, List.take_zero, List.drop_succ_cons, List.drop_zero, List.map_cons, List.map_nil]
  iterate 14 (go_big_quiet_step (fail))
  refine wpQuiet_nil ?_
  clear q0 q2 qf e0 e1 e2 e3 e4
  refine wpCan_list (k := 0) (fun KK hK => ?_) (fun _ => Rb_refl _)
  go_wp2_with fail
  have hal0 : Below w1.drew.heap.size w1.drew (w1.drew.alloc (.cells #[.int .u8 0, .int .i64 0, .int .i64 0, .int .i64 0, .string ⟨#[]⟩] 46)) := (Below.refl _ _).alloc (Nat.le_refl _) _
  refine hK _ _ (fun _ => hal0) ?_
  clear hK KK hal0
  obtain ⟨w2, hw2⟩ : ∃ y, y = (w1.alloc (.cells #[.int .u8 0, .int .i64 0, .int .i64 0, .int .i64 0, .string ⟨#[]⟩] 46)).drew := ⟨_, rfl⟩
  have hr2 : Row w2 (kb + 1) 46 [.int .u8 0, .int .i64 0, .int .i64 0, .int .i64 0, .string ⟨#[]⟩] := by rw [hw2, ← hs1]; exact (Row.new w1 _ _).drew
  have hb2 : Below w1.heap.size w1 w2 := by rw [hw2]; exact ((Below.refl _ _).alloc (Nat.le_refl _) _).drew
  have hs2 : w2.heap.size = kb + 1 + 1 := by rw [hw2]; show (w1.alloc _).heap.size = _; simp [hs1]
  rw [← hw2]
  clear hw2
  have HR2 := Lib.hid hr2
  have HB2 := Lib.hid hb2
  have HS2 := Lib.hid hs2
  clear hr2 hb2 hs2 hb1 hs1 hr1
  refine wpCan_list (k := 1) (fun KK hK => ?_) (fun h => by cases h)
  refine wpL_storeRow rfl _ _ _ rfl (cs := [.int .u8 (x.op.toNat : Int), .int .i64 x.a, .int .i64 x.b, .int .i64 x.c, .string (str x.t)]) rfl rfl HR2.out (by kernel_rfl) rfl rfl ?_
  intro w3 hg3 hr3
  refine hK _ _ (fun h => by cases h) ?_
  clear hK KK
  unfold wpCan
  obtain ⟨kx, hkx⟩ : ∃ y, y = kb + 1 := ⟨_, rfl⟩
  rw [← hkx]
  have hb3 : Below w.heap.size w w3 := below_grown (HB1.out.trans (HB2.out.mono HB1.out.size)) hg3 (by have := HK0.out; omega) (by have := HS2.out; have := HK0.out; omega)
  have HRX : Hid (Row w3 kx 46 (insC x)) := Lib.hid (by rw [hkx]; exact hr3)
  have HRB : Hid (Row w3 kb 132 [.bool true, .int .i64 s.1, .slice (adrOf aT) nT cT]) := Lib.hid ((HR1.out.after HB2.out).grown hg3 (fun e => by have := Option.some.inj e; omega))
  have H1 := Lib.hid (H.out.fl.fresh hb3)
  have HT1 := Lib.hid (HT.out.fresh hb3)
  have HM1 : Hid (Mods (WkP ob ba vL) w w3) := Lib.hid (Mods.fresh hb3 _)
  have HSZ : Hid (kb < w3.heap.size ∧ kx < w3.heap.size) := Lib.hid (by have := hg3.size; have := HS2.out; omega)
  have HKB : Hid (ob < kb ∧ kb < kx ∧ kb = w.heap.size) := Lib.hid (by have := H.out.fl.row.lt; have := HK0.out; omega)
  clear hg3 hr3 hb3 hkx HR2 HB2 HS2 HB1 HS1 HR1 HT HK0
  obtain ⟨w1, hw1⟩ : ∃ y, y = w3 := ⟨_, rfl⟩
  rw [← hw1] at HRX HRB H1 HT1 HM1 HSZ ⊢
  clear hw1 w3
  have x1 : (w1).cell? ⟨kx, 1, none⟩ = some (.int .i64 x.a) := HRX.out.cell 1
  have x2 : (w1).cell? ⟨kx, 2, none⟩ = some (.int .i64 x.b) := HRX.out.cell 2
  have x3 : (w1).cell? ⟨kx, 3, none⟩ = some (.int .i64 x.c) := HRX.out.cell 3
  have s0 : (w1).cell? ⟨kb, 0, none⟩ = some (.bool true) := HRB.out.cell 0
  have s1 : (w1).cell? ⟨kb, 1, none⟩ = some (.int .i64 s.1) := HRB.out.cell 1
  have s2 : (w1).cell? ⟨kb, 2, none⟩ = some (.slice (adrOf aT) nT cT) := HRB.out.cell 2
  have k8 := H1.out.cells.2.2.2
  have z8 := H1.out.row.free 8
  have k2 := H1.out.cells.1
  obtain ⟨o, ho⟩ : ∃ o, o = x.op.toNat := ⟨_, rfl⟩
  have HO := Lib.hid ho
  have x0 : w1.cell? ⟨kx, 0, none⟩ = some (.int .u8 (o : Int)) := by rw [ho]; exact HRX.out.cell 0
  rw [← ho] at hr
  clear ho
  go_upto_block 0 with fail
  clear k2 x0
  clear hatl' hfn hfn'
  by_cases h1 : o = 1
  · as_aux_lemma =>
      subst h1
      have hmv : movesV x = ((0 : Int), (1 : Int)) := by rw [movesV, ← HO.out]; rfl
      have HOU : Hid (outs K f g at_ x s = onV K f at_ s (0 : Int) (1 : Int)) := Lib.hid (by
        have h1 : outs K f g at_ x s = onV K f at_ s (movesV x).1 (movesV x).2 := by rw [outs, ← HO.out]; rfl
        rw [h1, hmv])
      have hmo := hm.out
      unfold Moves1 at hmo
      rw [hmv] at hmo
      have HM := Lib.hid hmo
      clear hmo hmv
      go_wp2_with fail
      refine (don_p w0 ob ba oa base top f _ _ g nA w1 vL K left false H1.out hlen (Nat.le_trans H.out.lft (by decide)) at_ (by omega) true s aT nT cT HT1.out H.out.ok hh0 (by omega) (0 : Int) (1 : Int) (HM.out.1) (HM.out.2.1) (HM.out.2.2.1) (HM.out.2.2.2)).mono ?_
      rintro e w5 ⟨K', left', bad', vL', rfl, h5, hm5, hv5, hg5⟩
      have H5 := Lib.hid h5
      have HM5 := Lib.hid hm5
      have HV5 := Lib.hid hv5
      clear h5 hm5 hv5
      go_wp2_with fail
      first
        | go_end0
        | refine bodyPost_ret (results_none rfl _ _ _) rfl ?_
      exact ⟨K', left', bad', vL', top, rfl, H5.out, HM1.out.trans HM5.out, fun g hg => (HV5.out g hg).imp id (fun h => Nat.le_trans HM1.out.size h), Lib.hid ((GoD.one (by rw [HOU.out]; exact hg5.out)))⟩
  have b1 : ((o : Int) == 1) = false := by rw [beq_eq_false_iff_ne]; omega
  go_upto_region 5 with fail
  clear b1
  by_cases h2 : o = 2
  · as_aux_lemma =>
      subst h2
      have hmv : movesV x = ((0 : Int), (1 : Int)) := by rw [movesV, ← HO.out]; rfl
      have HOU : Hid (outs K f g at_ x s = onV K f at_ s (0 : Int) (1 : Int)) := Lib.hid (by
        have h1 : outs K f g at_ x s = onV K f at_ s (movesV x).1 (movesV x).2 := by rw [outs, ← HO.out]; rfl
        rw [h1, hmv])
      have hmo := hm.out
      unfold Moves1 at hmo
      rw [hmv] at hmo
      have HM := Lib.hid hmo
      clear hmo hmv
      go_wp2_with fail
      refine (don_p w0 ob ba oa base top f _ _ g nA w1 vL K left false H1.out hlen (Nat.le_trans H.out.lft (by decide)) at_ (by omega) true s aT nT cT HT1.out H.out.ok hh0 (by omega) (0 : Int) (1 : Int) (HM.out.1) (HM.out.2.1) (HM.out.2.2.1) (HM.out.2.2.2)).mono ?_
      rintro e w5 ⟨K', left', bad', vL', rfl, h5, hm5, hv5, hg5⟩
      have H5 := Lib.hid h5
      have HM5 := Lib.hid hm5
      have HV5 := Lib.hid hv5
      clear h5 hm5 hv5
      go_wp2_with fail
      first
        | go_end0
        | refine bodyPost_ret (results_none rfl _ _ _) rfl ?_
      exact ⟨K', left', bad', vL', top, rfl, H5.out, HM1.out.trans HM5.out, fun g hg => (HV5.out g hg).imp id (fun h => Nat.le_trans HM1.out.size h), Lib.hid ((GoD.one (by rw [HOU.out]; exact hg5.out)))⟩
  have b2 : ((o : Int) == 2) = false := by rw [beq_eq_false_iff_ne]; omega
  go_upto_region 7 with fail
  clear b2
  by_cases h3 : o = 3
  · as_aux_lemma =>
      subst h3
      by_cases hlt : x.a < s.1
      · have HOU : Hid (outs K f g at_ x s = onV K f at_ s 0 1) := Lib.hid (by rw [outs, if_pos HO.out.symm, if_pos hlt])
        have hdc : decide (s.1 ≤ x.a) = false := decide_eq_false (by omega)
        have hnl : ¬ s.1 ≤ x.a := by omega
        go_upto_region 9 with fail
        have hms : Mods (fun g => g = ob) w1 (w1.setCell ⟨ob, 8, none⟩ (.bool false)) := Mods.set _ _ _ _
        have hd1 := Lib.hid (H1.out.mark false (grown_setCell _ _ _ _) (H1.out.row.set 8 (.bool false)))
        have hd2 := Lib.hid (HT1.out.mods (B' := vL.ownBlock) H1.out.up.2 hms (fun g g1 _ _ e => by have := H1.out.obk; omega) (fun g hg => .inl hg))
        have hd3 : Hid (Mods (WkP ob ba vL) w (w1.setCell ⟨ob, 8, none⟩ (.bool false))) := Lib.hid (HM1.out.trans (hms.mono fun g e => .inl e))
        have hd4 := Lib.hid (HRX.out.mods hms (by have := HKB.out; omega))
        have hd5 := Lib.hid (HRB.out.mods hms (by have := HKB.out; omega))
        have hd6 : Hid (kb < (w1.setCell ⟨ob, 8, none⟩ (.bool false)).heap.size ∧ kx < (w1.setCell ⟨ob, 8, none⟩ (.bool false)).heap.size) := Lib.hid (by have := hms.size; have := HSZ.out; omega)
        clear x1 x2 x3 s0 s1 s2 k8 z8 hms
        obtain ⟨wd, hwd⟩ : ∃ y, y = w1.setCell ⟨ob, 8, none⟩ (.bool false) := ⟨_, rfl⟩
        rw [← hwd] at hd1 hd2 hd3 hd4 hd5 hd6 ⊢
        clear hwd H1 HT1 HM1 HRX HRB HSZ
        obtain ⟨w1, hw1⟩ : ∃ y, y = wd := ⟨_, rfl⟩
        rw [← hw1] at hd1 hd2 hd3 hd4 hd5 hd6 ⊢
        clear hw1 wd
        have H1 := hd1
        have HT1 := hd2
        have HM1 := hd3
        have HRX := hd4
        have HRB := hd5
        have HSZ := hd6
        clear hd1 hd2 hd3 hd4 hd5 hd6
        have x1 : (w1).cell? ⟨kx, 1, none⟩ = some (.int .i64 x.a) := HRX.out.cell 1
        have x2 : (w1).cell? ⟨kx, 2, none⟩ = some (.int .i64 x.b) := HRX.out.cell 2
        have x3 : (w1).cell? ⟨kx, 3, none⟩ = some (.int .i64 x.c) := HRX.out.cell 3
        have s0 : (w1).cell? ⟨kb, 0, none⟩ = some (.bool true) := HRB.out.cell 0
        have s1 : (w1).cell? ⟨kb, 1, none⟩ = some (.int .i64 s.1) := HRB.out.cell 1
        have s2 : (w1).cell? ⟨kb, 2, none⟩ = some (.slice (adrOf aT) nT cT) := HRB.out.cell 2
        have k8 := H1.out.cells.2.2.2
        have z8 := H1.out.row.free 8
        go_wp2_with fail
        refine (don_p w0 ob ba oa base top f _ _ g nA w1 vL K left false H1.out hlen (Nat.le_trans H.out.lft (by decide)) at_ (by omega) true s aT nT cT HT1.out H.out.ok hh0 (by omega) 0 1 (by decide) (by decide) (by decide) (by decide)).mono ?_
        rintro e w5 ⟨K', left', bad', vL', rfl, h5, hm5, hv5, hg5⟩
        have H5 := Lib.hid h5
        have HM5 := Lib.hid hm5
        have HV5 := Lib.hid hv5
        clear h5 hm5 hv5
        go_wp2_with fail
        first
          | go_end0
          | refine bodyPost_ret (results_none rfl _ _ _) rfl ?_
        exact ⟨K', left', bad', vL', top, rfl, H5.out, HM1.out.trans HM5.out, fun g hg => (HV5.out g hg).imp id (fun h => Nat.le_trans HM1.out.size h), Lib.hid ((GoD.one (by rw [HOU.out]; exact hg5.out)))⟩
      · have HOU : Hid (outs K f g at_ x s = none) := Lib.hid (by rw [outs, if_pos HO.out.symm, if_neg hlt])
        have hdc : decide (s.1 ≤ x.a) = true := decide_eq_true (by omega)
        have hnl : s.1 ≤ x.a := by omega
        go_upto_region 9 with fail
        have hms : Mods (fun g => g = ob) w1 (w1.setCell ⟨ob, 8, none⟩ (.bool true)) := Mods.set _ _ _ _
        have hd1 := Lib.hid (H1.out.mark true (grown_setCell _ _ _ _) (H1.out.row.set 8 (.bool true)))
        have hd2 := Lib.hid (HT1.out.mods (B' := vL.ownBlock) H1.out.up.2 hms (fun g g1 _ _ e => by have := H1.out.obk; omega) (fun g hg => .inl hg))
        have hd3 : Hid (Mods (WkP ob ba vL) w (w1.setCell ⟨ob, 8, none⟩ (.bool true))) := Lib.hid (HM1.out.trans (hms.mono fun g e => .inl e))
        have hd4 := Lib.hid (HRX.out.mods hms (by have := HKB.out; omega))
        have hd5 := Lib.hid (HRB.out.mods hms (by have := HKB.out; omega))
        have hd6 : Hid (kb < (w1.setCell ⟨ob, 8, none⟩ (.bool true)).heap.size ∧ kx < (w1.setCell ⟨ob, 8, none⟩ (.bool true)).heap.size) := Lib.hid (by have := hms.size; have := HSZ.out; omega)
        clear x1 x2 x3 s0 s1 s2 k8 z8 hms
        obtain ⟨wd, hwd⟩ : ∃ y, y = w1.setCell ⟨ob, 8, none⟩ (.bool true) := ⟨_, rfl⟩
        rw [← hwd] at hd1 hd2 hd3 hd4 hd5 hd6 ⊢
        clear hwd H1 HT1 HM1 HRX HRB HSZ
        obtain ⟨w1, hw1⟩ : ∃ y, y = wd := ⟨_, rfl⟩
        rw [← hw1] at hd1 hd2 hd3 hd4 hd5 hd6 ⊢
        clear hw1 wd
        have H1 := hd1
        have HT1 := hd2
        have HM1 := hd3
        have HRX := hd4
        have HRB := hd5
        have HSZ := hd6
        clear hd1 hd2 hd3 hd4 hd5 hd6
        have x1 : (w1).cell? ⟨kx, 1, none⟩ = some (.int .i64 x.a) := HRX.out.cell 1
        have x2 : (w1).cell? ⟨kx, 2, none⟩ = some (.int .i64 x.b) := HRX.out.cell 2
        have x3 : (w1).cell? ⟨kx, 3, none⟩ = some (.int .i64 x.c) := HRX.out.cell 3
        have s0 : (w1).cell? ⟨kb, 0, none⟩ = some (.bool true) := HRB.out.cell 0
        have s1 : (w1).cell? ⟨kb, 1, none⟩ = some (.int .i64 s.1) := HRB.out.cell 1
        have s2 : (w1).cell? ⟨kb, 2, none⟩ = some (.slice (adrOf aT) nT cT) := HRB.out.cell 2
        have k8 := H1.out.cells.2.2.2
        have z8 := H1.out.row.free 8
        go_wp2_with fail
        refine (don_p w0 ob ba oa base top f _ _ g nA w1 vL K left true H1.out hlen (Nat.le_trans H.out.lft (by decide)) at_ (by omega) true s aT nT cT HT1.out H.out.ok hh0 (by omega) 0 1 (by decide) (by decide) (by decide) (by decide)).mono ?_
        rintro e w5 ⟨K', left', bad', vL', rfl, h5, hm5, hv5, hg5⟩
        have H5 := Lib.hid h5
        have HM5 := Lib.hid hm5
        have HV5 := Lib.hid hv5
        clear h5 hm5 hv5
        go_wp2_with fail
        first
          | go_end0
          | refine bodyPost_ret (results_none rfl _ _ _) rfl ?_
        exact ⟨K', left', bad', vL', top, rfl, H5.out, HM1.out.trans HM5.out, fun g hg => (HV5.out g hg).imp id (fun h => Nat.le_trans HM1.out.size h), Lib.hid ((GoD.spoilt hg5.out (by rw [HOU.out]; rfl)))⟩
  have b3 : ((o : Int) == 3) = false := by rw [beq_eq_false_iff_ne]; omega
  go_upto_region 10 with fail
  clear b3
  by_cases h4 : o = 4
  · as_aux_lemma =>
      subst h4
      have q8 := later_cell k8
      have q1 := later_cell x1
      have q5 := later_cell (show w1.cell? ⟨ob, 5, none⟩ = some (.int .i64 (g.c)) from H1.out.row.cell 5)
      by_cases hlt : x.a < (g.c)
      · have HOU : Hid (outs K f g at_ x s = onV K f at_ s 0 1) := Lib.hid ((outs4 HO.out).trans (if_pos hlt))
        have HDC : Hid (decide ((g.c) ≤ x.a) = false) := Lib.hid (decide_eq_false (by omega))
        have hnl : ¬ (g.c) ≤ x.a := by omega
        go_upto_region 11 with fail
        refine wp_region_idx Rb Rb_refl Rb_trans [(0,0),(0,1),(0,2),(0,3),(0,4),(0,5),(0,6),(0,7),(0,8),(0,9),(0,10),(0,11),(0,12),(0,13),(0,14),(0,15),(0,16),(2,17)] (by kernel_rfl) (by kernel_rfl) (by kernel_rfl) ?_
        simp only [pickO, List.getD_cons_succ, List.getD_cons_zero]
        refine wpCan_seg 17 (by kernel_rfl) ?_
        simp only [List.take_succ_cons, List.take_zero, List.drop_succ_cons, List.drop_zero, List.map_cons, List.map_nil]
        iterate 17 (go_big_quiet_step (fail))
        refine wpQuiet_nil ?_
        clear q8 q1 q5
        refine wpCan_list (k := 1) (fun KK hK => ?_) (fun h => by cases h)
        try rw [HDC.out]
        have hbd : Below w1.heap.size w1 w1.drew := (Below.refl _ _).drew
        have hd1 := Lib.hid (H1.out.fresh hbd)
        have hd2 := Lib.hid (HT1.out.fresh hbd)
        have hd3 := Lib.hid (HM1.out.trans (Mods.fresh hbd (WkP ob ba vL)))
        have hd4 := Lib.hid (HRX.out.after hbd)
        have hd5 := Lib.hid (HRB.out.after hbd)
        have hd6 : Hid (kb < ((w1.drew)).heap.size ∧ kx < ((w1.drew)).heap.size) := Lib.hid (by have := hbd.size; have := HSZ.out; omega)
        clear x1 x2 x3 s0 s1 s2 k8 z8 hbd
        obtain ⟨wd, hwd⟩ : ∃ y, y = (w1.drew) := ⟨_, rfl⟩
        rw [← hwd] at hd1 hd2 hd3 hd4 hd5 hd6 ⊢
        clear hwd
        clear H1 HT1 HM1 HRX HRB HSZ
        obtain ⟨w1, hw1⟩ : ∃ y, y = wd := ⟨_, rfl⟩
        rw [← hw1] at hd1 hd2 hd3 hd4 hd5 hd6 ⊢
        clear hw1 wd
        have H1 := hd1
        have HT1 := hd2
        have HM1 := hd3
        have HRX := hd4
        have HRB := hd5
        have HSZ := hd6
        clear hd1 hd2 hd3 hd4 hd5 hd6
        have x1 : (w1).cell? ⟨kx, 1, none⟩ = some (.int .i64 x.a) := HRX.out.cell 1
        have x2 : (w1).cell? ⟨kx, 2, none⟩ = some (.int .i64 x.b) := HRX.out.cell 2
        have x3 : (w1).cell? ⟨kx, 3, none⟩ = some (.int .i64 x.c) := HRX.out.cell 3
        have s0 : (w1).cell? ⟨kb, 0, none⟩ = some (.bool true) := HRB.out.cell 0
        have s1 : (w1).cell? ⟨kb, 1, none⟩ = some (.int .i64 s.1) := HRB.out.cell 1
        have s2 : (w1).cell? ⟨kb, 2, none⟩ = some (.slice (adrOf aT) nT cT) := HRB.out.cell 2
        have k8 := H1.out.cells.2.2.2
        have z8 := H1.out.row.free 8
        go_wp2_with fail
        refine hK _ _ (fun h => by cases h) ?_
        clear hK KK
        unfold wpCan
        have hms : Mods (fun g => g = ob) w1 (w1.setCell ⟨ob, 8, none⟩ (.bool false)) := Mods.set _ _ _ _
        have hd1 := Lib.hid (H1.out.mark false (grown_setCell _ _ _ _) (H1.out.row.set 8 (.bool false)))
        have hd2 := Lib.hid (HT1.out.mods (B' := vL.ownBlock) H1.out.up.2 hms (fun g g1 _ _ e => by have := H1.out.obk; omega) (fun g hg => .inl hg))
        have hd3 : Hid (Mods (WkP ob ba vL) w (w1.setCell ⟨ob, 8, none⟩ (.bool false))) := Lib.hid (HM1.out.trans (hms.mono fun g e => .inl e))
        have hd4 := Lib.hid (HRX.out.mods hms (by have := HKB.out; omega))
        have hd5 := Lib.hid (HRB.out.mods hms (by have := HKB.out; omega))
        have hd6 : Hid (kb < (w1.setCell ⟨ob, 8, none⟩ (.bool false)).heap.size ∧ kx < (w1.setCell ⟨ob, 8, none⟩ (.bool false)).heap.size) := Lib.hid (by have := hms.size; have := HSZ.out; omega)
        clear x1 x2 x3 s0 s1 s2 k8 z8 hms
        obtain ⟨wd, hwd⟩ : ∃ y, y = w1.setCell ⟨ob, 8, none⟩ (.bool false) := ⟨_, rfl⟩
        rw [← hwd] at hd1 hd2 hd3 hd4 hd5 hd6 ⊢
        clear hwd H1 HT1 HM1 HRX HRB HSZ
        obtain ⟨w1, hw1⟩ : ∃ y, y = wd := ⟨_, rfl⟩
        rw [← hw1] at hd1 hd2 hd3 hd4 hd5 hd6 ⊢
        clear hw1 wd
        have H1 := hd1
        have HT1 := hd2
        have HM1 := hd3
        have HRX := hd4
        have HRB := hd5
        have HSZ := hd6
        clear hd1 hd2 hd3 hd4 hd5 hd6
        have x1 : (w1).cell? ⟨kx, 1, none⟩ = some (.int .i64 x.a) := HRX.out.cell 1
        have x2 : (w1).cell? ⟨kx, 2, none⟩ = some (.int .i64 x.b) := HRX.out.cell 2
        have x3 : (w1).cell? ⟨kx, 3, none⟩ = some (.int .i64 x.c) := HRX.out.cell 3
        have s0 : (w1).cell? ⟨kb, 0, none⟩ = some (.bool true) := HRB.out.cell 0
        have s1 : (w1).cell? ⟨kb, 1, none⟩ = some (.int .i64 s.1) := HRB.out.cell 1
        have s2 : (w1).cell? ⟨kb, 2, none⟩ = some (.slice (adrOf aT) nT cT) := HRB.out.cell 2
        have k8 := H1.out.cells.2.2.2
        have z8 := H1.out.row.free 8
        go_wp2_with fail
        refine (don_p w0 ob ba oa base top f _ _ g nA w1 vL K left false H1.out hlen (Nat.le_trans H.out.lft (by decide)) at_ (by omega) true s aT nT cT HT1.out H.out.ok hh0 (by omega) 0 1 (by decide) (by decide) (by decide) (by decide)).mono ?_
        rintro e w5 ⟨K', left', bad', vL', rfl, h5, hm5, hv5, hg5⟩
        have H5 := Lib.hid h5
        have HM5 := Lib.hid hm5
        have HV5 := Lib.hid hv5
        clear h5 hm5 hv5
        go_wp2_with fail
        first
          | go_end0
          | refine bodyPost_ret (results_none rfl _ _ _) rfl ?_
        exact ⟨K', left', bad', vL', top, rfl, H5.out, HM1.out.trans HM5.out, fun g hg => (HV5.out g hg).imp id (fun h => Nat.le_trans HM1.out.size h), Lib.hid ((GoD.one (by rw [HOU.out]; exact hg5.out)))⟩
      · have HOU : Hid (outs K f g at_ x s = none) := Lib.hid ((outs4 HO.out).trans (if_neg hlt))
        have HDC : Hid (decide ((g.c) ≤ x.a) = true) := Lib.hid (decide_eq_true (by omega))
        have hnl : (g.c) ≤ x.a := by omega
        go_upto_region 11 with fail
        refine wp_region_idx Rb Rb_refl Rb_trans [(0,0),(0,1),(0,2),(0,3),(0,4),(0,5),(0,6),(0,7),(0,8),(0,9),(0,10),(0,11),(0,12),(0,13),(0,14),(0,15),(0,16),(2,17)] (by kernel_rfl) (by kernel_rfl) (by kernel_rfl) ?_
        simp only [pickO, List.getD_cons_succ, List.getD_cons_zero]
        refine wpCan_seg 17 (by kernel_rfl) ?_
        simp only [List.take_succ_cons, List.take_zero, List.drop_succ_cons, List.drop_zero, List.map_cons, List.map_nil]
        iterate 17 (go_big_quiet_step (fail))
        refine wpQuiet_nil ?_
        clear q8 q1 q5
        refine wpCan_list (k := 1) (fun KK hK => ?_) (fun h => by cases h)
        try rw [HDC.out]
        have hbd : Below w1.heap.size w1 w1.drew := (Below.refl _ _).drew
        have hd1 := Lib.hid (H1.out.fresh hbd)
        have hd2 := Lib.hid (HT1.out.fresh hbd)
        have hd3 := Lib.hid (HM1.out.trans (Mods.fresh hbd (WkP ob ba vL)))
        have hd4 := Lib.hid (HRX.out.after hbd)
        have hd5 := Lib.hid (HRB.out.after hbd)
        have hd6 : Hid (kb < ((w1.drew)).heap.size ∧ kx < ((w1.drew)).heap.size) := Lib.hid (by have := hbd.size; have := HSZ.out; omega)
        clear x1 x2 x3 s0 s1 s2 k8 z8 hbd
        obtain ⟨wd, hwd⟩ : ∃ y, y = (w1.drew) := ⟨_, rfl⟩
        rw [← hwd] at hd1 hd2 hd3 hd4 hd5 hd6 ⊢
        clear hwd
        clear H1 HT1 HM1 HRX HRB HSZ
        obtain ⟨w1, hw1⟩ : ∃ y, y = wd := ⟨_, rfl⟩
        rw [← hw1] at hd1 hd2 hd3 hd4 hd5 hd6 ⊢
        clear hw1 wd
        have H1 := hd1
        have HT1 := hd2
        have HM1 := hd3
        have HRX := hd4
        have HRB := hd5
        have HSZ := hd6
        clear hd1 hd2 hd3 hd4 hd5 hd6
        have x1 : (w1).cell? ⟨kx, 1, none⟩ = some (.int .i64 x.a) := HRX.out.cell 1
        have x2 : (w1).cell? ⟨kx, 2, none⟩ = some (.int .i64 x.b) := HRX.out.cell 2
        have x3 : (w1).cell? ⟨kx, 3, none⟩ = some (.int .i64 x.c) := HRX.out.cell 3
        have s0 : (w1).cell? ⟨kb, 0, none⟩ = some (.bool true) := HRB.out.cell 0
        have s1 : (w1).cell? ⟨kb, 1, none⟩ = some (.int .i64 s.1) := HRB.out.cell 1
        have s2 : (w1).cell? ⟨kb, 2, none⟩ = some (.slice (adrOf aT) nT cT) := HRB.out.cell 2
        have k8 := H1.out.cells.2.2.2
        have z8 := H1.out.row.free 8
        go_wp2_with fail
        refine hK _ _ (fun h => by cases h) ?_
        clear hK KK
        unfold wpCan
        have hms : Mods (fun g => g = ob) w1 (w1.setCell ⟨ob, 8, none⟩ (.bool true)) := Mods.set _ _ _ _
        have hd1 := Lib.hid (H1.out.mark true (grown_setCell _ _ _ _) (H1.out.row.set 8 (.bool true)))
        have hd2 := Lib.hid (HT1.out.mods (B' := vL.ownBlock) H1.out.up.2 hms (fun g g1 _ _ e => by have := H1.out.obk; omega) (fun g hg => .inl hg))
        have hd3 : Hid (Mods (WkP ob ba vL) w (w1.setCell ⟨ob, 8, none⟩ (.bool true))) := Lib.hid (HM1.out.trans (hms.mono fun g e => .inl e))
        have hd4 := Lib.hid (HRX.out.mods hms (by have := HKB.out; omega))
        have hd5 := Lib.hid (HRB.out.mods hms (by have := HKB.out; omega))
        have hd6 : Hid (kb < (w1.setCell ⟨ob, 8, none⟩ (.bool true)).heap.size ∧ kx < (w1.setCell ⟨ob, 8, none⟩ (.bool true)).heap.size) := Lib.hid (by have := hms.size; have := HSZ.out; omega)
        clear x1 x2 x3 s0 s1 s2 k8 z8 hms
        obtain ⟨wd, hwd⟩ : ∃ y, y = w1.setCell ⟨ob, 8, none⟩ (.bool true) := ⟨_, rfl⟩
        rw [← hwd] at hd1 hd2 hd3 hd4 hd5 hd6 ⊢
        clear hwd H1 HT1 HM1 HRX HRB HSZ
        obtain ⟨w1, hw1⟩ : ∃ y, y = wd := ⟨_, rfl⟩
        rw [← hw1] at hd1 hd2 hd3 hd4 hd5 hd6 ⊢
        clear hw1 wd
        have H1 := hd1
        have HT1 := hd2
        have HM1 := hd3
        have HRX := hd4
        have HRB := hd5
        have HSZ := hd6
        clear hd1 hd2 hd3 hd4 hd5 hd6
        have x1 : (w1).cell? ⟨kx, 1, none⟩ = some (.int .i64 x.a) := HRX.out.cell 1
        have x2 : (w1).cell? ⟨kx, 2, none⟩ = some (.int .i64 x.b) := HRX.out.cell 2
        have x3 : (w1).cell? ⟨kx, 3, none⟩ = some (.int .i64 x.c) := HRX.out.cell 3
        have s0 : (w1).cell? ⟨kb, 0, none⟩ = some (.bool true) := HRB.out.cell 0
        have s1 : (w1).cell? ⟨kb, 1, none⟩ = some (.int .i64 s.1) := HRB.out.cell 1
        have s2 : (w1).cell? ⟨kb, 2, none⟩ = some (.slice (adrOf aT) nT cT) := HRB.out.cell 2
        have k8 := H1.out.cells.2.2.2
        have z8 := H1.out.row.free 8
        go_wp2_with fail
        refine (don_p w0 ob ba oa base top f _ _ g nA w1 vL K left true H1.out hlen (Nat.le_trans H.out.lft (by decide)) at_ (by omega) true s aT nT cT HT1.out H.out.ok hh0 (by omega) 0 1 (by decide) (by decide) (by decide) (by decide)).mono ?_
        rintro e w5 ⟨K', left', bad', vL', rfl, h5, hm5, hv5, hg5⟩
        have H5 := Lib.hid h5
        have HM5 := Lib.hid hm5
        have HV5 := Lib.hid hv5
        clear h5 hm5 hv5
        go_wp2_with fail
        first
          | go_end0
          | refine bodyPost_ret (results_none rfl _ _ _) rfl ?_
        exact ⟨K', left', bad', vL', top, rfl, H5.out, HM1.out.trans HM5.out, fun g hg => (HV5.out g hg).imp id (fun h => Nat.le_trans HM1.out.size h), Lib.hid ((GoD.spoilt hg5.out (by rw [HOU.out]; rfl)))⟩
  have b4 : ((o : Int) == 4) = false := by rw [beq_eq_false_iff_ne]; omega
  go_upto_region 13 with fail
  clear b4
  by_cases h5 : o = 5
  · as_aux_lemma =>
      subst h5
      have q8 := later_cell k8
      have q1 := later_cell x1
      have q5 := later_cell (show w1.cell? ⟨ob, 4, none⟩ = some (.int .i64 (g.b)) from H1.out.row.cell 4)
      by_cases hlt : x.a < (g.b)
      · have HOU : Hid (outs K f g at_ x s = onV K f at_ s 0 1) := Lib.hid ((outs5 HO.out).trans (if_pos hlt))
        have HDC : Hid (decide ((g.b) ≤ x.a) = false) := Lib.hid (decide_eq_false (by omega))
        have hnl : ¬ (g.b) ≤ x.a := by omega
        go_upto_region 14 with fail
        refine wp_region_idx Rb Rb_refl Rb_trans [(0,0),(0,1),(0,2),(0,3),(0,4),(0,5),(0,6),(0,7),(0,8),(0,9),(0,10),(0,11),(0,12),(0,13),(0,14),(0,15),(0,16),(2,17)] (by kernel_rfl) (by kernel_rfl) (by kernel_rfl) ?_
        simp only [pickO, List.getD_cons_succ, List.getD_cons_zero]
        refine wpCan_seg 17 (by kernel_rfl) ?_
        simp only [List.take_succ_cons, List.take_zero, List.drop_succ_cons, List.drop_zero, List.map_cons, List.map_nil]
        iterate 17 (go_big_quiet_step (fail))
        refine wpQuiet_nil ?_
        clear q8 q1 q5
        refine wpCan_list (k := 1) (fun KK hK => ?_) (fun h => by cases h)
        try rw [HDC.out]
        have hbd : Below w1.heap.size w1 w1.drew := (Below.refl _ _).drew
        have hd1 := Lib.hid (H1.out.fresh hbd)
        have hd2 := Lib.hid (HT1.out.fresh hbd)
        have hd3 := Lib.hid (HM1.out.trans (Mods.fresh hbd (WkP ob ba vL)))
        have hd4 := Lib.hid (HRX.out.after hbd)
        have hd5 := Lib.hid (HRB.out.after hbd)
        have hd6 : Hid (kb < ((w1.drew)).heap.size ∧ kx < ((w1.drew)).heap.size) := Lib.hid (by have := hbd.size; have := HSZ.out; omega)
        clear x1 x2 x3 s0 s1 s2 k8 z8 hbd
        obtain ⟨wd, hwd⟩ : ∃ y, y = (w1.drew) := ⟨_, rfl⟩
        rw [← hwd] at hd1 hd2 hd3 hd4 hd5 hd6 ⊢
        clear hwd
        clear H1 HT1 HM1 HRX HRB HSZ
        obtain ⟨w1, hw1⟩ : ∃ y, y = wd := ⟨_, rfl⟩
        rw [← hw1] at hd1 hd2 hd3 hd4 hd5 hd6 ⊢
        clear hw1 wd
        have H1 := hd1
        have HT1 := hd2
        have HM1 := hd3
        have HRX := hd4
        have HRB := hd5
        have HSZ := hd6
        clear hd1 hd2 hd3 hd4 hd5 hd6
        have x1 : (w1).cell? ⟨kx, 1, none⟩ = some (.int .i64 x.a) := HRX.out.cell 1
        have x2 : (w1).cell? ⟨kx, 2, none⟩ = some (.int .i64 x.b) := HRX.out.cell 2
        have x3 : (w1).cell? ⟨kx, 3, none⟩ = some (.int .i64 x.c) := HRX.out.cell 3
        have s0 : (w1).cell? ⟨kb, 0, none⟩ = some (.bool true) := HRB.out.cell 0
        have s1 : (w1).cell? ⟨kb, 1, none⟩ = some (.int .i64 s.1) := HRB.out.cell 1
        have s2 : (w1).cell? ⟨kb, 2, none⟩ = some (.slice (adrOf aT) nT cT) := HRB.out.cell 2
        have k8 := H1.out.cells.2.2.2
        have z8 := H1.out.row.free 8
        go_wp2_with fail
        refine hK _ _ (fun h => by cases h) ?_
        clear hK KK
        unfold wpCan
        have hms : Mods (fun g => g = ob) w1 (w1.setCell ⟨ob, 8, none⟩ (.bool false)) := Mods.set _ _ _ _
        have hd1 := Lib.hid (H1.out.mark false (grown_setCell _ _ _ _) (H1.out.row.set 8 (.bool false)))
        have hd2 := Lib.hid (HT1.out.mods (B' := vL.ownBlock) H1.out.up.2 hms (fun g g1 _ _ e => by have := H1.out.obk; omega) (fun g hg => .inl hg))
        have hd3 : Hid (Mods (WkP ob ba vL) w (w1.setCell ⟨ob, 8, none⟩ (.bool false))) := Lib.hid (HM1.out.trans (hms.mono fun g e => .inl e))
        have hd4 := Lib.hid (HRX.out.mods hms (by have := HKB.out; omega))
        have hd5 := Lib.hid (HRB.out.mods hms (by have := HKB.out; omega))
        have hd6 : Hid (kb < (w1.setCell ⟨ob, 8, none⟩ (.bool false)).heap.size ∧ kx < (w1.setCell ⟨ob, 8, none⟩ (.bool false)).heap.size) := Lib.hid (by have := hms.size; have := HSZ.out; omega)
        clear x1 x2 x3 s0 s1 s2 k8 z8 hms
        obtain ⟨wd, hwd⟩ : ∃ y, y = w1.setCell ⟨ob, 8, none⟩ (.bool false) := ⟨_, rfl⟩
        rw [← hwd] at hd1 hd2 hd3 hd4 hd5 hd6 ⊢
        clear hwd H1 HT1 HM1 HRX HRB HSZ
        obtain ⟨w1, hw1⟩ : ∃ y, y = wd := ⟨_, rfl⟩
        rw [← hw1] at hd1 hd2 hd3 hd4 hd5 hd6 ⊢
        clear hw1 wd
        have H1 := hd1
        have HT1 := hd2
        have HM1 := hd3
        have HRX := hd4
        have HRB := hd5
        have HSZ := hd6
        clear hd1 hd2 hd3 hd4 hd5 hd6
        have x1 : (w1).cell? ⟨kx, 1, none⟩ = some (.int .i64 x.a) := HRX.out.cell 1
        have x2 : (w1).cell? ⟨kx, 2, none⟩ = some (.int .i64 x.b) := HRX.out.cell 2
        have x3 : (w1).cell? ⟨kx, 3, none⟩ = some (.int .i64 x.c) := HRX.out.cell 3
        have s0 : (w1).cell? ⟨kb, 0, none⟩ = some (.bool true) := HRB.out.cell 0
        have s1 : (w1).cell? ⟨kb, 1, none⟩ = some (.int .i64 s.1) := HRB.out.cell 1
        have s2 : (w1).cell? ⟨kb, 2, none⟩ = some (.slice (adrOf aT) nT cT) := HRB.out.cell 2
        have k8 := H1.out.cells.2.2.2
        have z8 := H1.out.row.free 8
        go_wp2_with fail
        refine (don_p w0 ob ba oa base top f _ _ g nA w1 vL K left false H1.out hlen (Nat.le_trans H.out.lft (by decide)) at_ (by omega) true s aT nT cT HT1.out H.out.ok hh0 (by omega) 0 1 (by decide) (by decide) (by decide) (by decide)).mono ?_
        rintro e w5 ⟨K', left', bad', vL', rfl, h5, hm5, hv5, hg5⟩
        have H5 := Lib.hid h5
        have HM5 := Lib.hid hm5
        have HV5 := Lib.hid hv5
        clear h5 hm5 hv5
        go_wp2_with fail
        first
          | go_end0
          | refine bodyPost_ret (results_none rfl _ _ _) rfl ?_
        exact ⟨K', left', bad', vL', top, rfl, H5.out, HM1.out.trans HM5.out, fun g hg => (HV5.out g hg).imp id (fun h => Nat.le_trans HM1.out.size h), Lib.hid ((GoD.one (by rw [HOU.out]; exact hg5.out)))⟩
      · have HOU : Hid (outs K f g at_ x s = none) := Lib.hid ((outs5 HO.out).trans (if_neg hlt))
        have HDC : Hid (decide ((g.b) ≤ x.a) = true) := Lib.hid (decide_eq_true (by omega))
        have hnl : (g.b) ≤ x.a := by omega
        go_upto_region 14 with fail
        refine wp_region_idx Rb Rb_refl Rb_trans [(0,0),(0,1),(0,2),(0,3),(0,4),(0,5),(0,6),(0,7),(0,8),(0,9),(0,10),(0,11),(0,12),(0,13),(0,14),(0,15),(0,16),(2,17)] (by kernel_rfl) (by kernel_rfl) (by kernel_rfl) ?_
        simp only [pickO, List.getD_cons_succ, List.getD_cons_zero]
        refine wpCan_seg 17 (by kernel_rfl) ?_
        simp only [List.take_succ_cons, List.take_zero, List.drop_succ_cons, List.drop_zero, List.map_cons, List.map_nil]
        iterate 17 (go_big_quiet_step (fail))
        refine wpQuiet_nil ?_
        clear q8 q1 q5
        refine wpCan_list (k := 1) (fun KK hK => ?_) (fun h => by cases h)
        try rw [HDC.out]
        have hbd : Below w1.heap.size w1 w1.drew := (Below.refl _ _).drew
        have hd1 := Lib.hid (H1.out.fresh hbd)
        have hd2 := Lib.hid (HT1.out.fresh hbd)
        have hd3 := Lib.hid (HM1.out.trans (Mods.fresh hbd (WkP ob ba vL)))
        have hd4 := Lib.hid (HRX.out.after hbd)
        have hd5 := Lib.hid (HRB.out.after hbd)
        have hd6 : Hid (kb < ((w1.drew)).heap.size ∧ kx < ((w1.drew)).heap.size) := Lib.hid (by have := hbd.size; have := HSZ.out; omega)
        clear x1 x2 x3 s0 s1 s2 k8 z8 hbd
        obtain ⟨wd, hwd⟩ : ∃ y, y = (w1.drew) := ⟨_, rfl⟩
        rw [← hwd] at hd1 hd2 hd3 hd4 hd5 hd6 ⊢
        clear hwd
        clear H1 HT1 HM1 HRX HRB HSZ
        obtain ⟨w1, hw1⟩ : ∃ y, y = wd := ⟨_, rfl⟩
        rw [← hw1] at hd1 hd2 hd3 hd4 hd5 hd6 ⊢
        clear hw1 wd
        have H1 := hd1
        have HT1 := hd2
        have HM1 := hd3
        have HRX := hd4
        have HRB := hd5
        have HSZ := hd6
        clear hd1 hd2 hd3 hd4 hd5 hd6
        have x1 : (w1).cell? ⟨kx, 1, none⟩ = some (.int .i64 x.a) := HRX.out.cell 1
        have x2 : (w1).cell? ⟨kx, 2, none⟩ = some (.int .i64 x.b) := HRX.out.cell 2
        have x3 : (w1).cell? ⟨kx, 3, none⟩ = some (.int .i64 x.c) := HRX.out.cell 3
        have s0 : (w1).cell? ⟨kb, 0, none⟩ = some (.bool true) := HRB.out.cell 0
        have s1 : (w1).cell? ⟨kb, 1, none⟩ = some (.int .i64 s.1) := HRB.out.cell 1
        have s2 : (w1).cell? ⟨kb, 2, none⟩ = some (.slice (adrOf aT) nT cT) := HRB.out.cell 2
        have k8 := H1.out.cells.2.2.2
        have z8 := H1.out.row.free 8
        go_wp2_with fail
        refine hK _ _ (fun h => by cases h) ?_
        clear hK KK
        unfold wpCan
        have hms : Mods (fun g => g = ob) w1 (w1.setCell ⟨ob, 8, none⟩ (.bool true)) := Mods.set _ _ _ _
        have hd1 := Lib.hid (H1.out.mark true (grown_setCell _ _ _ _) (H1.out.row.set 8 (.bool true)))
        have hd2 := Lib.hid (HT1.out.mods (B' := vL.ownBlock) H1.out.up.2 hms (fun g g1 _ _ e => by have := H1.out.obk; omega) (fun g hg => .inl hg))
        have hd3 : Hid (Mods (WkP ob ba vL) w (w1.setCell ⟨ob, 8, none⟩ (.bool true))) := Lib.hid (HM1.out.trans (hms.mono fun g e => .inl e))
        have hd4 := Lib.hid (HRX.out.mods hms (by have := HKB.out; omega))
        have hd5 := Lib.hid (HRB.out.mods hms (by have := HKB.out; omega))
        have hd6 : Hid (kb < (w1.setCell ⟨ob, 8, none⟩ (.bool true)).heap.size ∧ kx < (w1.setCell ⟨ob, 8, none⟩ (.bool true)).heap.size) := Lib.hid (by have := hms.size; have := HSZ.out; omega)
        clear x1 x2 x3 s0 s1 s2 k8 z8 hms
        obtain ⟨wd, hwd⟩ : ∃ y, y = w1.setCell ⟨ob, 8, none⟩ (.bool true) := ⟨_, rfl⟩
        rw [← hwd] at hd1 hd2 hd3 hd4 hd5 hd6 ⊢
        clear hwd H1 HT1 HM1 HRX HRB HSZ
        obtain ⟨w1, hw1⟩ : ∃ y, y = wd := ⟨_, rfl⟩
        rw [← hw1] at hd1 hd2 hd3 hd4 hd5 hd6 ⊢
        clear hw1 wd
        have H1 := hd1
        have HT1 := hd2
        have HM1 := hd3
        have HRX := hd4
        have HRB := hd5
        have HSZ := hd6
        clear hd1 hd2 hd3 hd4 hd5 hd6
        have x1 : (w1).cell? ⟨kx, 1, none⟩ = some (.int .i64 x.a) := HRX.out.cell 1
        have x2 : (w1).cell? ⟨kx, 2, none⟩ = some (.int .i64 x.b) := HRX.out.cell 2
        have x3 : (w1).cell? ⟨kx, 3, none⟩ = some (.int .i64 x.c) := HRX.out.cell 3
        have s0 : (w1).cell? ⟨kb, 0, none⟩ = some (.bool true) := HRB.out.cell 0
        have s1 : (w1).cell? ⟨kb, 1, none⟩ = some (.int .i64 s.1) := HRB.out.cell 1
        have s2 : (w1).cell? ⟨kb, 2, none⟩ = some (.slice (adrOf aT) nT cT) := HRB.out.cell 2
        have k8 := H1.out.cells.2.2.2
        have z8 := H1.out.row.free 8
        go_wp2_with fail
        refine (don_p w0 ob ba oa base top f _ _ g nA w1 vL K left true H1.out hlen (Nat.le_trans H.out.lft (by decide)) at_ (by omega) true s aT nT cT HT1.out H.out.ok hh0 (by omega) 0 1 (by decide) (by decide) (by decide) (by decide)).mono ?_
        rintro e w5 ⟨K', left', bad', vL', rfl, h5, hm5, hv5, hg5⟩
        have H5 := Lib.hid h5
        have HM5 := Lib.hid hm5
        have HV5 := Lib.hid hv5
        clear h5 hm5 hv5
        go_wp2_with fail
        first
          | go_end0
          | refine bodyPost_ret (results_none rfl _ _ _) rfl ?_
        exact ⟨K', left', bad', vL', top, rfl, H5.out, HM1.out.trans HM5.out, fun g hg => (HV5.out g hg).imp id (fun h => Nat.le_trans HM1.out.size h), Lib.hid ((GoD.spoilt hg5.out (by rw [HOU.out]; rfl)))⟩
  have b5 : ((o : Int) == 5) = false := by rw [beq_eq_false_iff_ne]; omega
  go_upto_region 16 with fail
  clear b5
  by_cases h6 : o = 6
  · as_aux_lemma =>
      subst h6
      have hmv : movesV x = ((x.c), (x.b)) := by rw [movesV, ← HO.out]; rfl
      have HOU : Hid (outs K f g at_ x s = onV K f at_ s (x.c) (x.b)) := Lib.hid (by
        have h1 : outs K f g at_ x s = onV K f at_ s (movesV x).1 (movesV x).2 := by rw [outs, ← HO.out]; rfl
        rw [h1, hmv])
      have hmo := hm.out
      unfold Moves1 at hmo
      rw [hmv] at hmo
      have HM := Lib.hid hmo
      clear hmo hmv
      go_wp2_with fail
      refine (don_p w0 ob ba oa base top f _ _ g nA w1 vL K left false H1.out hlen (Nat.le_trans H.out.lft (by decide)) at_ (by omega) true s aT nT cT HT1.out H.out.ok hh0 (by omega) (x.c) (x.b) (HM.out.1) (HM.out.2.1) (HM.out.2.2.1) (HM.out.2.2.2)).mono ?_
      rintro e w5 ⟨K', left', bad', vL', rfl, h5, hm5, hv5, hg5⟩
      have H5 := Lib.hid h5
      have HM5 := Lib.hid hm5
      have HV5 := Lib.hid hv5
      clear h5 hm5 hv5
      go_wp2_with fail
      first
        | go_end0
        | refine bodyPost_ret (results_none rfl _ _ _) rfl ?_
      exact ⟨K', left', bad', vL', top, rfl, H5.out, HM1.out.trans HM5.out, fun g hg => (HV5.out g hg).imp id (fun h => Nat.le_trans HM1.out.size h), Lib.hid ((GoD.one (by rw [HOU.out]; exact hg5.out)))⟩
  have b6 : ((o : Int) == 6) = false := by rw [beq_eq_false_iff_ne]; omega
  go_upto_region 18 with fail
  clear b6
  by_cases h7 : o = 7
  · as_aux_lemma =>
      subst h7
      have hmv : movesV x = ((2 : Int), (1 : Int)) := by rw [movesV, ← HO.out]; rfl
      have HOU : Hid (outs K f g at_ x s = onV K f at_ s (2 : Int) (1 : Int)) := Lib.hid (by
        have h1 : outs K f g at_ x s = onV K f at_ s (movesV x).1 (movesV x).2 := by rw [outs, ← HO.out]; rfl
        rw [h1, hmv])
      have hmo := hm.out
      unfold Moves1 at hmo
      rw [hmv] at hmo
      have HM := Lib.hid hmo
      clear hmo hmv
      go_wp2_with fail
      refine (don_p w0 ob ba oa base top f _ _ g nA w1 vL K left false H1.out hlen (Nat.le_trans H.out.lft (by decide)) at_ (by omega) true s aT nT cT HT1.out H.out.ok hh0 (by omega) (2 : Int) (1 : Int) (HM.out.1) (HM.out.2.1) (HM.out.2.2.1) (HM.out.2.2.2)).mono ?_
      rintro e w5 ⟨K', left', bad', vL', rfl, h5, hm5, hv5, hg5⟩
      have H5 := Lib.hid h5
      have HM5 := Lib.hid hm5
      have HV5 := Lib.hid hv5
      clear h5 hm5 hv5
      go_wp2_with fail
      first
        | go_end0
        | refine bodyPost_ret (results_none rfl _ _ _) rfl ?_
      exact ⟨K', left', bad', vL', top, rfl, H5.out, HM1.out.trans HM5.out, fun g hg => (HV5.out g hg).imp id (fun h => Nat.le_trans HM1.out.size h), Lib.hid ((GoD.one (by rw [HOU.out]; exact hg5.out)))⟩
  have b7 : ((o : Int) == 7) = false := by rw [beq_eq_false_iff_ne]; omega
  go_upto_region 20 with fail
  clear b7
  by_cases h8 : o = 8
  · as_aux_lemma =>
      subst h8
      by_cases hf : f = 0
      · have hb0 : ((f : Int) == 0) = true := by rw [hf]; rfl
        have HOU : Hid (outs K f g at_ x s = none) := Lib.hid ((outs8 HO.out).trans (if_neg (fun h => by omega)))
        clear hf
        go_wp2_with fail
        first
          | go_end0
          | refine bodyPost_ret (results_none rfl _ _ _) rfl ?_
        exact ⟨K, left, true, vL, top, rfl, H1.out.mark true (grown_setCell _ _ _ _) (H1.out.row.set 8 (.bool true)), HM1.out.trans ((Mods.set _ _ _ _).mono fun g e => .inl e), fun g hg => .inl hg, Lib.hid ((GoE.bad (by rw [HOU.out]; rfl)))⟩
      · have hb0 : ((f : Int) == 0) = false := by rw [beq_eq_false_iff_ne]; omega
        by_cases h2 : s.1 = 2
        · have hb : (s.1 != 2) = false := by rw [h2]; rfl
          by_cases hT0 : s.2 = []
          · have HOU : Hid (outs K f g at_ x s = some []) := Lib.hid ((outs8 HO.out).trans (if_pos ⟨by omega, h2, hT0⟩))
            have hn0 : nT = 0 := by rw [HNT.out, hT0]; rfl
            clear hT0 h2 hf
            subst hn0
            go_wp2_with fail
            first
              | go_end0
              | refine bodyPost_ret (results_none rfl _ _ _) rfl ?_
            exact ⟨K, left, false, vL, top, rfl, H1.out.mark false (grown_setCell _ _ _ _) (H1.out.row.set 8 (.bool false)), HM1.out.trans ((Mods.set _ _ _ _).mono fun g e => .inl e), fun g hg => .inl hg, Lib.hid ((GoE.good (by rw [HOU.out]; rfl)))⟩
          · have HOU : Hid (outs K f g at_ x s = none) := Lib.hid ((outs8 HO.out).trans (if_neg (fun h => hT0 h.2.2)))
            have hn0 : 0 < nT := Nat.pos_of_ne_zero fun e => hT0 (List.eq_nil_of_length_eq_zero (HNT.out.symm.trans e))
            clear hT0 h2 hf
            go_wp2_with fail
            try rw [decide_eq_true hn0]
            first
              | go_end0
              | refine bodyPost_ret (results_none rfl _ _ _) rfl ?_
            exact ⟨K, left, true, vL, top, rfl, H1.out.mark true (grown_setCell _ _ _ _) (H1.out.row.set 8 (.bool true)), HM1.out.trans ((Mods.set _ _ _ _).mono fun g e => .inl e), fun g hg => .inl hg, Lib.hid ((GoE.bad (by rw [HOU.out]; rfl)))⟩
        · have HOU : Hid (outs K f g at_ x s = none) := Lib.hid ((outs8 HO.out).trans (if_neg (fun h => h2 h.2.1)))
          have hb : (s.1 != 2) = true := by rw [bne_iff_ne]; exact h2
          clear h2 hf
          go_wp2_with fail
          first
            | go_end0
            | refine bodyPost_ret (results_none rfl _ _ _) rfl ?_
          exact ⟨K, left, true, vL, top, rfl, H1.out.mark true (grown_setCell _ _ _ _) (H1.out.row.set 8 (.bool true)), HM1.out.trans ((Mods.set _ _ _ _).mono fun g e => .inl e), fun g hg => .inl hg, Lib.hid ((GoE.bad (by rw [HOU.out]; rfl)))⟩
  have b8 : ((o : Int) == 8) = false := by rw [beq_eq_false_iff_ne]; omega
  go_upto_region 22 with fail
  clear b8
  by_cases h9 : o = 9
  · as_aux_lemma =>
      subst h9
      have HOU : Hid (goTo nA (outs K f g at_ x s) K left = toS nA (x.a, s) K left) := Lib.hid (by rw [outs, ← HO.out]; exact toAll_one ..)
      go_wp2_with fail
      refine (dto_p w0 ob ba oa base top f _ _ g nA w1 vL K left false H1.out hlen (Nat.le_trans H.out.lft (by decide)) (x.a) true s aT nT cT HT1.out).mono ?_
      rintro e w5 ⟨K', left', bad', vL', rfl, h5, hm5, hv5, hg5⟩
      have H5 := Lib.hid h5
      have HM5 := Lib.hid hm5
      have HV5 := Lib.hid hv5
      clear h5 hm5 hv5
      go_wp2_with fail
      first
        | go_end0
        | refine bodyPost_ret (results_none rfl _ _ _) rfl ?_
      exact ⟨K', left', bad', vL', top, rfl, H5.out, HM1.out.trans HM5.out, fun g hg => (HV5.out g hg).imp id (fun h => Nat.le_trans HM1.out.size h), Lib.hid ((GoD.one (by rw [HOU.out]; exact hg5.out)))⟩
  have b9 : ((o : Int) == 9) = false := by rw [beq_eq_false_iff_ne]; omega
  go_upto_region 24 with fail
  clear b9
  by_cases h10 : o = 10
  · as_aux_lemma =>
      subst h10
      have HLO := Lib.hid H.out.fl.low
      have HKW : Hid (¬ WkP ob ba vL kb ∧ ¬ WkP ob ba vL kx) := Lib.hid (by have := HKB.out; exact ⟨fun h => by have := HLO.out _ h; omega, fun h => by have := HLO.out _ h; omega⟩)
      clear HLO
      by_cases hle : floorV K f s ≤ s.1 - 1
      · have HOU : Hid (goTo nA (outs K f g at_ x s) K left = toAll nA [((at_ : Int) + 1, (s.1 - 1, s.2)), (x.a, (s.1 - 1, s.2))] K left) := Lib.hid (by rw [outs10 HO.out, if_pos hle]; rfl)
        have HON : Hid (goTo nA (onV K f at_ s 1 0) K left = toS nA ((at_ : Int) + 1, (s.1 - 1, s.2)) K left) := Lib.hid (by
          rw [onV, if_pos hle, goTo]
          exact toAll_one ..)
        clear hle
        go_wp2_with fail
        refine (don_p w0 ob ba oa base top f _ _ g nA w1 vL K left false H1.out hlen (Nat.le_trans H.out.lft (by decide)) at_ (by omega) true s aT nT cT HT1.out H.out.ok hh0 (by omega) 1 0 (by decide) (by decide) (by decide) (by decide)).mono ?_
        rintro e w5 ⟨K', left', bad', vL', rfl, h5, hm5, hv5, hg5⟩
        have H5 := Lib.hid h5
        have HT5 := Lib.hid (FlS.past H1.out HT1.out hm5 hv5)
        have HM5 := Lib.hid (HM1.out.trans hm5)
        have HV5 : Hid (∀ g, vL'.ownBlock = some g → vL.ownBlock = some g ∨ w1.heap.size ≤ g) := Lib.hid hv5
        have HLT : Hid (w.heap.size ≤ w1.heap.size) := Lib.hid HM1.out.size
        have HX5 := Lib.hid (HRX.out.mods hm5 HKW.out.2)
        have HB5 := Lib.hid (HRB.out.mods hm5 HKW.out.1)
        have HG5 := hg5
        clear x1 x2 x3 s0 s1 s2 k8 z8 h5 hm5 hv5 hg5 HT1 HM1 HRX HRB
        have HG6 := Lib.hid (show GoD (toS nA ((at_ : Int) + 1, (s.1 - 1, s.2)) K left) K left false K' left' bad' by rw [← HON.out]; exact HG5.out)
        have t1 : w5.cell? ⟨kb, 1, none⟩ = some (.int .i64 s.1) := HB5.out.cell 1
        have t2 := HB5.out.free 1
        go_upto_region 27 with fail
        have hms : Mods (fun g => g = kb) w5 (w5.setCell ⟨kb, 1, none⟩ (.int .i64 (s.1 - 1))) := Mods.set _ _ _ _
        have hno : ∀ g, (fun g => g = kb) g → top ≤ g ∧ vL'.ownBlock ≠ some g := fun g hg => by
          have h1 := H.out.fl.up
          have h2 := HKB.out
          refine ⟨by omega, fun e => ?_⟩
          rcases HV5.out g e with h | h
          · have := H.out.fl.lft.lives g h; omega
          · have := HSZ.out; omega
        have h6 := Lib.hid (H5.out.mods hms hno)
        have ht6 := Lib.hid (HT5.out.mods (B' := vL'.ownBlock) H5.out.up.2 hms (fun g g1 g2 _ e => by have := (hno g e).1; omega) (fun g hg => .inl hg))
        have hm6 : Hid (Mods (WkP ob ba vL) w (w5.setCell ⟨kb, 1, none⟩ (.int .i64 (s.1 - 1)))) := Lib.hid (HM5.out.after hms (fun g e => .inr (by have := HKB.out; omega)))
        have hb6 := Lib.hid (HB5.out.set 1 (.int .i64 (s.1 - 1)))
        have hx6 := Lib.hid (HX5.out.mods hms (by have := HKB.out; omega))
        clear t1 t2 hms hno
        obtain ⟨w6, hw6⟩ : ∃ y, y = w5.setCell ⟨kb, 1, none⟩ (.int .i64 (s.1 - 1)) := ⟨_, rfl⟩
        rw [← hw6] at h6 ht6 hm6 hb6 hx6 ⊢
        clear hw6 HT5 H5 HB5 HX5 HM5
        have H6 := h6
        have HT6 := ht6
        have HM6 := hm6
        have y1 : w6.cell? ⟨kx, 1, none⟩ = some (.int .i64 x.a) := hx6.out.cell 1
        have y2 : w6.cell? ⟨kx, 2, none⟩ = some (.int .i64 x.b) := hx6.out.cell 2
        have t0 : w6.cell? ⟨kb, 0, none⟩ = some (.bool true) := hb6.out.cell 0
        have t1 : w6.cell? ⟨kb, 1, none⟩ = some (.int .i64 (s.1 - 1)) := hb6.out.cell 1
        have t2 : w6.cell? ⟨kb, 2, none⟩ = some (.slice (adrOf aT) nT cT) := hb6.out.cell 2
        have k8 := H6.out.cells.2.2.2
        clear h6 ht6 hm6 hb6 hx6
        cases bad' with
        | true =>
          go_wp2_with fail
          first
            | go_end0
            | refine bodyPost_ret (results_none rfl _ _ _) rfl ?_
          exact ⟨K', left', true, vL', top, rfl, H6.out, HM6.out, fun g hg => (HV5.out g hg).imp id (fun h => Nat.le_trans HLT.out h), Lib.hid (by rw [HOU.out]; exact HG6.out.early)⟩
        | false =>
          go_wp2_with fail
          refine (dto_p w0 ob ba oa base top f _ _ g nA w6 vL' K' left' false H6.out hlen (by have := HG5.out.2.2.2; have := H.out.lft; omega) (x.a) true (s.1 - 1, s.2) aT nT cT HT6.out).mono ?_
          rintro e w7 ⟨K2, left2, bad2, vL2, rfl, h7, hm7, hv7, hg7⟩
          have H7 := Lib.hid h7
          have HM7 : Hid (Mods (WkP ob ba vL) w w7) := Lib.hid ((HM6.out).after hm7 (fun g hg => (WkP.past HV5.out g hg).imp id (fun h => Nat.le_trans HLT.out h)))
          have HV7 : Hid (∀ g, vL2.ownBlock = some g → vL.ownBlock = some g ∨ w.heap.size ≤ g) := Lib.hid (fun g hg => by
            have hs := (HM6.out).size
            rcases hv7 g hg with h | h
            · exact (HV5.out g h).imp id (fun h => Nat.le_trans HLT.out h)
            · exact .inr (Nat.le_trans hs h))
          clear h7 hm7 hv7
          go_wp2_with fail
          first
            | go_end0
            | refine bodyPost_ret (results_none rfl _ _ _) rfl ?_
          exact ⟨K2, left2, bad2, vL2, top, rfl, H7.out, HM7.out, HV7.out, Lib.hid ((GoD.two HG6.out hg7.out (fun e => by cases e) (fun _ => HOU.out)))⟩
      · have HOU : Hid (goTo nA (outs K f g at_ x s) K left = none) := Lib.hid (by rw [outs10 HO.out, if_neg hle]; rfl)
        have HON : Hid (goTo nA (onV K f at_ s 1 0) K left = none) := Lib.hid (by rw [onV, if_neg hle, goTo])
        clear hle
        go_wp2_with fail
        refine (don_p w0 ob ba oa base top f _ _ g nA w1 vL K left false H1.out hlen (Nat.le_trans H.out.lft (by decide)) at_ (by omega) true s aT nT cT HT1.out H.out.ok hh0 (by omega) 1 0 (by decide) (by decide) (by decide) (by decide)).mono ?_
        rintro e w5 ⟨K', left', bad', vL', rfl, h5, hm5, hv5, hg5⟩
        have H5 := Lib.hid h5
        have HT5 := Lib.hid (FlS.past H1.out HT1.out hm5 hv5)
        have HM5 := Lib.hid (HM1.out.trans hm5)
        have HV5 : Hid (∀ g, vL'.ownBlock = some g → vL.ownBlock = some g ∨ w1.heap.size ≤ g) := Lib.hid hv5
        have HLT : Hid (w.heap.size ≤ w1.heap.size) := Lib.hid HM1.out.size
        have HX5 := Lib.hid (HRX.out.mods hm5 HKW.out.2)
        have HB5 := Lib.hid (HRB.out.mods hm5 HKW.out.1)
        have HG5 := hg5
        clear x1 x2 x3 s0 s1 s2 k8 z8 h5 hm5 hv5 hg5 HT1 HM1 HRX HRB
        cases bad' with
        | false => exact absurd (HG5.out.1 rfl).2 (by rw [HON.out]; simp)
        | true =>
          have t1 : w5.cell? ⟨kb, 1, none⟩ = some (.int .i64 s.1) := HB5.out.cell 1
          have t2 := HB5.out.free 1
          go_upto_region 27 with fail
          have hms : Mods (fun g => g = kb) w5 (w5.setCell ⟨kb, 1, none⟩ (.int .i64 (s.1 - 1))) := Mods.set _ _ _ _
          have hno : ∀ g, (fun g => g = kb) g → top ≤ g ∧ vL'.ownBlock ≠ some g := fun g hg => by
            have h1 := H.out.fl.up
            have h2 := HKB.out
            refine ⟨by omega, fun e => ?_⟩
            rcases HV5.out g e with h | h
            · have := H.out.fl.lft.lives g h; omega
            · have := HSZ.out; omega
          have h6 := Lib.hid (H5.out.mods hms hno)
          have ht6 := Lib.hid (HT5.out.mods (B' := vL'.ownBlock) H5.out.up.2 hms (fun g g1 g2 _ e => by have := (hno g e).1; omega) (fun g hg => .inl hg))
          have hm6 : Hid (Mods (WkP ob ba vL) w (w5.setCell ⟨kb, 1, none⟩ (.int .i64 (s.1 - 1)))) := Lib.hid (HM5.out.after hms (fun g e => .inr (by have := HKB.out; omega)))
          have hb6 := Lib.hid (HB5.out.set 1 (.int .i64 (s.1 - 1)))
          have hx6 := Lib.hid (HX5.out.mods hms (by have := HKB.out; omega))
          clear t1 t2 hms hno
          obtain ⟨w6, hw6⟩ : ∃ y, y = w5.setCell ⟨kb, 1, none⟩ (.int .i64 (s.1 - 1)) := ⟨_, rfl⟩
          rw [← hw6] at h6 ht6 hm6 hb6 hx6 ⊢
          clear hw6 HT5 H5 HB5 HX5 HM5
          have H6 := h6
          have HT6 := ht6
          have HM6 := hm6
          have y1 : w6.cell? ⟨kx, 1, none⟩ = some (.int .i64 x.a) := hx6.out.cell 1
          have y2 : w6.cell? ⟨kx, 2, none⟩ = some (.int .i64 x.b) := hx6.out.cell 2
          have t0 : w6.cell? ⟨kb, 0, none⟩ = some (.bool true) := hb6.out.cell 0
          have t1 : w6.cell? ⟨kb, 1, none⟩ = some (.int .i64 (s.1 - 1)) := hb6.out.cell 1
          have t2 : w6.cell? ⟨kb, 2, none⟩ = some (.slice (adrOf aT) nT cT) := hb6.out.cell 2
          have k8 := H6.out.cells.2.2.2
          clear h6 ht6 hm6 hb6 hx6
          go_wp2_with fail
          first
            | go_end0
            | refine bodyPost_ret (results_none rfl _ _ _) rfl ?_
          exact ⟨K', left', true, vL', top, rfl, H6.out, HM6.out, fun g hg => (HV5.out g hg).imp id (fun h => Nat.le_trans HLT.out h), Lib.hid (HG5.out.fail HOU.out)⟩
  have b10 : ((o : Int) == 10) = false := by rw [beq_eq_false_iff_ne]; omega
  go_upto_region 29 with fail
  clear b10
  by_cases h11 : o = 11
  · as_aux_lemma =>
      subst h11
      have hmv : movesV x = ((x.a), (1 : Int)) := by rw [movesV, ← HO.out]; rfl
      have HOU : Hid (outs K f g at_ x s = onV K f at_ s (x.a) (1 : Int)) := Lib.hid (by
        have h1 : outs K f g at_ x s = onV K f at_ s (movesV x).1 (movesV x).2 := by rw [outs, ← HO.out]; rfl
        rw [h1, hmv])
      have hmo := hm.out
      unfold Moves1 at hmo
      rw [hmv] at hmo
      have HM := Lib.hid hmo
      clear hmo hmv
      go_wp2_with fail
      refine (don_p w0 ob ba oa base top f _ _ g nA w1 vL K left false H1.out hlen (Nat.le_trans H.out.lft (by decide)) at_ (by omega) true s aT nT cT HT1.out H.out.ok hh0 (by omega) (x.a) (1 : Int) (HM.out.1) (HM.out.2.1) (HM.out.2.2.1) (HM.out.2.2.2)).mono ?_
      rintro e w5 ⟨K', left', bad', vL', rfl, h5, hm5, hv5, hg5⟩
      have H5 := Lib.hid h5
      have HM5 := Lib.hid hm5
      have HV5 := Lib.hid hv5
      clear h5 hm5 hv5
      go_wp2_with fail
      first
        | go_end0
        | refine bodyPost_ret (results_none rfl _ _ _) rfl ?_
      exact ⟨K', left', bad', vL', top, rfl, H5.out, HM1.out.trans HM5.out, fun g hg => (HV5.out g hg).imp id (fun h => Nat.le_trans HM1.out.size h), Lib.hid ((GoD.one (by rw [HOU.out]; exact hg5.out)))⟩
  have b11 : ((o : Int) == 11) = false := by rw [beq_eq_false_iff_ne]; omega
  go_upto_region 31 with fail
  clear b11
  by_cases h12 : o = 12
  · as_aux_lemma =>
      subst h12
      have hmv : movesV x = ((1 : Int), (1 : Int)) := by rw [movesV, ← HO.out]; rfl
      have HOU : Hid (outs K f g at_ x s = onV K f at_ s (1 : Int) (1 : Int)) := Lib.hid (by
        have h1 : outs K f g at_ x s = onV K f at_ s (movesV x).1 (movesV x).2 := by rw [outs, ← HO.out]; rfl
        rw [h1, hmv])
      have hmo := hm.out
      unfold Moves1 at hmo
      rw [hmv] at hmo
      have HM := Lib.hid hmo
      clear hmo hmv
      go_wp2_with fail
      refine (don_p w0 ob ba oa base top f _ _ g nA w1 vL K left false H1.out hlen (Nat.le_trans H.out.lft (by decide)) at_ (by omega) true s aT nT cT HT1.out H.out.ok hh0 (by omega) (1 : Int) (1 : Int) (HM.out.1) (HM.out.2.1) (HM.out.2.2.1) (HM.out.2.2.2)).mono ?_
      rintro e w5 ⟨K', left', bad', vL', rfl, h5, hm5, hv5, hg5⟩
      have H5 := Lib.hid h5
      have HM5 := Lib.hid hm5
      have HV5 := Lib.hid hv5
      clear h5 hm5 hv5
      go_wp2_with fail
      first
        | go_end0
        | refine bodyPost_ret (results_none rfl _ _ _) rfl ?_
      exact ⟨K', left', bad', vL', top, rfl, H5.out, HM1.out.trans HM5.out, fun g hg => (HV5.out g hg).imp id (fun h => Nat.le_trans HM1.out.size h), Lib.hid ((GoD.one (by rw [HOU.out]; exact hg5.out)))⟩
  have b12 : ((o : Int) == 12) = false := by rw [beq_eq_false_iff_ne]; omega
  go_upto_region 32 with fail
  clear b12
  by_cases h14 : o = 14
  · as_aux_lemma =>
      subst h14
      have hmv : movesV x = ((1 : Int), (1 : Int)) := by rw [movesV, ← HO.out]; rfl
      have HOU : Hid (outs K f g at_ x s = onV K f at_ s (1 : Int) (1 : Int)) := Lib.hid (by
        have h1 : outs K f g at_ x s = onV K f at_ s (movesV x).1 (movesV x).2 := by rw [outs, ← HO.out]; rfl
        rw [h1, hmv])
      have hmo := hm.out
      unfold Moves1 at hmo
      rw [hmv] at hmo
      have HM := Lib.hid hmo
      clear hmo hmv
      go_wp2_with fail
      refine (don_p w0 ob ba oa base top f _ _ g nA w1 vL K left false H1.out hlen (Nat.le_trans H.out.lft (by decide)) at_ (by omega) true s aT nT cT HT1.out H.out.ok hh0 (by omega) (1 : Int) (1 : Int) (HM.out.1) (HM.out.2.1) (HM.out.2.2.1) (HM.out.2.2.2)).mono ?_
      rintro e w5 ⟨K', left', bad', vL', rfl, h5, hm5, hv5, hg5⟩
      have H5 := Lib.hid h5
      have HM5 := Lib.hid hm5
      have HV5 := Lib.hid hv5
      clear h5 hm5 hv5
      go_wp2_with fail
      first
        | go_end0
        | refine bodyPost_ret (results_none rfl _ _ _) rfl ?_
      exact ⟨K', left', bad', vL', top, rfl, H5.out, HM1.out.trans HM5.out, fun g hg => (HV5.out g hg).imp id (fun h => Nat.le_trans HM1.out.size h), Lib.hid ((GoD.one (by rw [HOU.out]; exact hg5.out)))⟩
  have b14 : ((o : Int) == 14) = false := by rw [beq_eq_false_iff_ne]; omega
  go_upto_region 33 with fail
  clear b14
  by_cases h15 : o = 15
  · as_aux_lemma =>
      subst h15
      have hmv : movesV x = ((1 : Int), (1 : Int)) := by rw [movesV, ← HO.out]; rfl
      have HOU : Hid (outs K f g at_ x s = onV K f at_ s (1 : Int) (1 : Int)) := Lib.hid (by
        have h1 : outs K f g at_ x s = onV K f at_ s (movesV x).1 (movesV x).2 := by rw [outs, ← HO.out]; rfl
        rw [h1, hmv])
      have hmo := hm.out
      unfold Moves1 at hmo
      rw [hmv] at hmo
      have HM := Lib.hid hmo
      clear hmo hmv
      go_wp2_with fail
      refine (don_p w0 ob ba oa base top f _ _ g nA w1 vL K left false H1.out hlen (Nat.le_trans H.out.lft (by decide)) at_ (by omega) true s aT nT cT HT1.out H.out.ok hh0 (by omega) (1 : Int) (1 : Int) (HM.out.1) (HM.out.2.1) (HM.out.2.2.1) (HM.out.2.2.2)).mono ?_
      rintro e w5 ⟨K', left', bad', vL', rfl, h5, hm5, hv5, hg5⟩
      have H5 := Lib.hid h5
      have HM5 := Lib.hid hm5
      have HV5 := Lib.hid hv5
      clear h5 hm5 hv5
      go_wp2_with fail
      first
        | go_end0
        | refine bodyPost_ret (results_none rfl _ _ _) rfl ?_
      exact ⟨K', left', bad', vL', top, rfl, H5.out, HM1.out.trans HM5.out, fun g hg => (HV5.out g hg).imp id (fun h => Nat.le_trans HM1.out.size h), Lib.hid ((GoD.one (by rw [HOU.out]; exact hg5.out)))⟩
  have b15 : ((o : Int) == 15) = false := by rw [beq_eq_false_iff_ne]; omega
  go_upto_region 35 with fail
  clear b15
  by_cases h13 : o = 13
  · as_aux_lemma =>
      subst h13
      have hmv : movesV x = ((x.b), (1 : Int)) := by rw [movesV, ← HO.out]; rfl
      have HOU : Hid (outs K f g at_ x s = onV K f at_ s (x.b) (1 : Int)) := Lib.hid (by
        have h1 : outs K f g at_ x s = onV K f at_ s (movesV x).1 (movesV x).2 := by rw [outs, ← HO.out]; rfl
        rw [h1, hmv])
      have hmo := hm.out
      unfold Moves1 at hmo
      rw [hmv] at hmo
      have HM := Lib.hid hmo
      clear hmo hmv
      go_wp2_with fail
      refine (don_p w0 ob ba oa base top f _ _ g nA w1 vL K left false H1.out hlen (Nat.le_trans H.out.lft (by decide)) at_ (by omega) true s aT nT cT HT1.out H.out.ok hh0 (by omega) (x.b) (1 : Int) (HM.out.1) (HM.out.2.1) (HM.out.2.2.1) (HM.out.2.2.2)).mono ?_
      rintro e w5 ⟨K', left', bad', vL', rfl, h5, hm5, hv5, hg5⟩
      have H5 := Lib.hid h5
      have HM5 := Lib.hid hm5
      have HV5 := Lib.hid hv5
      clear h5 hm5 hv5
      go_wp2_with fail
      first
        | go_end0
        | refine bodyPost_ret (results_none rfl _ _ _) rfl ?_
      exact ⟨K', left', bad', vL', top, rfl, H5.out, HM1.out.trans HM5.out, fun g hg => (HV5.out g hg).imp id (fun h => Nat.le_trans HM1.out.size h), Lib.hid ((GoD.one (by rw [HOU.out]; exact hg5.out)))⟩
  have b13 : ((o : Int) == 13) = false := by rw [beq_eq_false_iff_ne]; omega
  go_upto_region 36 with fail
  clear b13
  by_cases h22 : o = 22
  · as_aux_lemma =>
      subst h22
      have hmv : movesV x = ((x.b), (1 : Int)) := by rw [movesV, ← HO.out]; rfl
      have HOU : Hid (outs K f g at_ x s = onV K f at_ s (x.b) (1 : Int)) := Lib.hid (by
        have h1 : outs K f g at_ x s = onV K f at_ s (movesV x).1 (movesV x).2 := by rw [outs, ← HO.out]; rfl
        rw [h1, hmv])
      have hmo := hm.out
      unfold Moves1 at hmo
      rw [hmv] at hmo
      have HM := Lib.hid hmo
      clear hmo hmv
      go_wp2_with fail
      refine (don_p w0 ob ba oa base top f _ _ g nA w1 vL K left false H1.out hlen (Nat.le_trans H.out.lft (by decide)) at_ (by omega) true s aT nT cT HT1.out H.out.ok hh0 (by omega) (x.b) (1 : Int) (HM.out.1) (HM.out.2.1) (HM.out.2.2.1) (HM.out.2.2.2)).mono ?_
      rintro e w5 ⟨K', left', bad', vL', rfl, h5, hm5, hv5, hg5⟩
      have H5 := Lib.hid h5
      have HM5 := Lib.hid hm5
      have HV5 := Lib.hid hv5
      clear h5 hm5 hv5
      go_wp2_with fail
      first
        | go_end0
        | refine bodyPost_ret (results_none rfl _ _ _) rfl ?_
      exact ⟨K', left', bad', vL', top, rfl, H5.out, HM1.out.trans HM5.out, fun g hg => (HV5.out g hg).imp id (fun h => Nat.le_trans HM1.out.size h), Lib.hid ((GoD.one (by rw [HOU.out]; exact hg5.out)))⟩
  have b22 : ((o : Int) == 22) = false := by rw [beq_eq_false_iff_ne]; omega
  go_upto_region 38 with fail
  clear b22
  by_cases h16 : o = 16
  · as_aux_lemma =>
      subst h16
      have x4 : w1.cell? ⟨kx, 4, none⟩ = some (.string (str x.t)) := HRX.out.cell 4
      have hmv : movesV x = ((takesN x.t : Int), 1) := by rw [movesV, ← HO.out]; rfl
      have HOU : Hid (outs K f g at_ x s = onV K f at_ s (takesN x.t : Int) 1) := Lib.hid (by
        have h1 : outs K f g at_ x s = onV K f at_ s (movesV x).1 (movesV x).2 := by rw [outs, ← HO.out]; rfl
        rw [h1, hmv])
      have hmo := hm.out
      unfold Moves1 at hmo
      rw [hmv] at hmo
      have HM := Lib.hid hmo
      clear hmo hmv
      go_wp2_with fail
      refine (rtakes_p x.t w1).mono ?_
      rintro e w2 ⟨rfl, hbd⟩
      clear x4
      have hd1 := Lib.hid (H1.out.fresh hbd)
      have hd2 := Lib.hid (HT1.out.fresh hbd)
      have hd3 := Lib.hid (HM1.out.trans (Mods.fresh hbd (WkP ob ba vL)))
      have hd4 := Lib.hid (HRX.out.after hbd)
      have hd5 := Lib.hid (HRB.out.after hbd)
      have hd6 : Hid (kb < (w2).heap.size ∧ kx < (w2).heap.size) := Lib.hid (by have := hbd.size; have := HSZ.out; omega)
      clear x1 x2 x3 s0 s1 s2 k8 z8 hbd
      obtain ⟨wd, hwd⟩ : ∃ y, y = w2 := ⟨_, rfl⟩
      rw [← hwd] at hd1 hd2 hd3 hd4 hd5 hd6 ⊢
      clear hwd
      clear H1 HT1 HM1 HRX HRB HSZ
      obtain ⟨w1, hw1⟩ : ∃ y, y = wd := ⟨_, rfl⟩
      rw [← hw1] at hd1 hd2 hd3 hd4 hd5 hd6 ⊢
      clear hw1 wd
      have H1 := hd1
      have HT1 := hd2
      have HM1 := hd3
      have HRX := hd4
      have HRB := hd5
      have HSZ := hd6
      clear hd1 hd2 hd3 hd4 hd5 hd6
      have x1 : (w1).cell? ⟨kx, 1, none⟩ = some (.int .i64 x.a) := HRX.out.cell 1
      have x2 : (w1).cell? ⟨kx, 2, none⟩ = some (.int .i64 x.b) := HRX.out.cell 2
      have x3 : (w1).cell? ⟨kx, 3, none⟩ = some (.int .i64 x.c) := HRX.out.cell 3
      have s0 : (w1).cell? ⟨kb, 0, none⟩ = some (.bool true) := HRB.out.cell 0
      have s1 : (w1).cell? ⟨kb, 1, none⟩ = some (.int .i64 s.1) := HRB.out.cell 1
      have s2 : (w1).cell? ⟨kb, 2, none⟩ = some (.slice (adrOf aT) nT cT) := HRB.out.cell 2
      have k8 := H1.out.cells.2.2.2
      have z8 := H1.out.row.free 8
      go_wp2_with fail
      refine (don_p w0 ob ba oa base top f _ _ g nA w1 vL K left false H1.out hlen (Nat.le_trans H.out.lft (by decide)) at_ (by omega) true s aT nT cT HT1.out H.out.ok hh0 (by omega) (takesN x.t : Int) 1 (HM.out.1) (HM.out.2.1) (by decide) (by decide)).mono ?_
      rintro e w5 ⟨K', left', bad', vL', rfl, h5, hm5, hv5, hg5⟩
      have H5 := Lib.hid h5
      have HM5 := Lib.hid hm5
      have HV5 := Lib.hid hv5
      clear h5 hm5 hv5
      go_wp2_with fail
      first
        | go_end0
        | refine bodyPost_ret (results_none rfl _ _ _) rfl ?_
      exact ⟨K', left', bad', vL', top, rfl, H5.out, HM1.out.trans HM5.out, fun g hg => (HV5.out g hg).imp id (fun h => Nat.le_trans HM1.out.size h), Lib.hid ((GoD.one (by rw [HOU.out]; exact hg5.out)))⟩
  have b16 : ((o : Int) == 16) = false := by rw [beq_eq_false_iff_ne]; omega
  go_upto_region 41 with fail
  clear b16
  by_cases h17 : o = 17
  · as_aux_lemma =>
      subst h17
      have q8 := later_cell k8
      have q0 := later_cell s0
      have q1 := later_cell s1
      have q2 := later_cell s2
      go_upto_region 42 with fail
      refine wp_region_idx Rb Rb_refl Rb_trans [(0,0),(0,1),(0,2),(0,3),(0,4),(0,5),(0,6),(0,7),(0,8),(0,9),(0,10),(1,11),(0,12),(0,13),(0,14),(0,15),(2,16)] (by kernel_rfl) (by kernel_rfl) (by kernel_rfl) ?_
      simp only [pickO, List.getD_cons_succ, List.getD_cons_zero]
      refine wpCan_seg 11 (by kernel_rfl) ?_
      simp only [List.take_succ_cons, List.take_zero, List.drop_succ_cons, List.drop_zero, List.map_cons, List.map_nil]
      iterate 11 (go_big_quiet_step (fail))
      refine wpQuiet_nil ?_
      clear q8 q0 q1 q2
      have hbd : Below w1.heap.size w1 w1.drew := (Below.refl _ _).drew
      have hd1 := Lib.hid (H1.out.fresh hbd)
      have hd2 := Lib.hid (HT1.out.fresh hbd)
      have hd3 := Lib.hid (HM1.out.trans (Mods.fresh hbd (WkP ob ba vL)))
      have hd4 := Lib.hid (HRX.out.after hbd)
      have hd5 := Lib.hid (HRB.out.after hbd)
      have hd6 : Hid (kb < ((w1.drew)).heap.size ∧ kx < ((w1.drew)).heap.size) := Lib.hid (by have := hbd.size; have := HSZ.out; omega)
      clear x1 x2 x3 s0 s1 s2 k8 z8 hbd
      obtain ⟨wd, hwd⟩ : ∃ y, y = (w1.drew) := ⟨_, rfl⟩
      rw [← hwd] at hd1 hd2 hd3 hd4 hd5 hd6 ⊢
      clear hwd
      clear H1 HT1 HM1 HRX HRB HSZ
      obtain ⟨w1, hw1⟩ : ∃ y, y = wd := ⟨_, rfl⟩
      rw [← hw1] at hd1 hd2 hd3 hd4 hd5 hd6 ⊢
      clear hw1 wd
      have H1 := hd1
      have HT1 := hd2
      have HM1 := hd3
      have HRX := hd4
      have HRB := hd5
      have HSZ := hd6
      clear hd1 hd2 hd3 hd4 hd5 hd6
      have x1 : (w1).cell? ⟨kx, 1, none⟩ = some (.int .i64 x.a) := HRX.out.cell 1
      have x2 : (w1).cell? ⟨kx, 2, none⟩ = some (.int .i64 x.b) := HRX.out.cell 2
      have x3 : (w1).cell? ⟨kx, 3, none⟩ = some (.int .i64 x.c) := HRX.out.cell 3
      have s0 : (w1).cell? ⟨kb, 0, none⟩ = some (.bool true) := HRB.out.cell 0
      have s1 : (w1).cell? ⟨kb, 1, none⟩ = some (.int .i64 s.1) := HRB.out.cell 1
      have s2 : (w1).cell? ⟨kb, 2, none⟩ = some (.slice (adrOf aT) nT cT) := HRB.out.cell 2
      have k8 := H1.out.cells.2.2.2
      have z8 := H1.out.row.free 8
      refine wpCan_list (k := 0) (fun KK hK => ?_) (fun _ => Rb_refl _)
      go_wp2_with fail
      refine (dfloor_p w0 ob ba oa base top f _ _ g nA w1 vL K left false H1.out hlen true s (adrOf aT) nT cT HT1.out H.out.ok).mono ?_
      rintro e w2 ⟨rfl, hbd⟩
      go_wp2_with fail
      refine hK _ _ (fun _ => hbd) ?_
      clear hK KK
      have hd1 := Lib.hid (H1.out.fresh hbd)
      have hd2 := Lib.hid (HT1.out.fresh hbd)
      have hd3 := Lib.hid (HM1.out.trans (Mods.fresh hbd (WkP ob ba vL)))
      have hd4 := Lib.hid (HRX.out.after hbd)
      have hd5 := Lib.hid (HRB.out.after hbd)
      have hd6 : Hid (kb < (w2).heap.size ∧ kx < (w2).heap.size) := Lib.hid (by have := hbd.size; have := HSZ.out; omega)
      clear x1 x2 x3 s0 s1 s2 k8 z8 hbd
      obtain ⟨wd, hwd⟩ : ∃ y, y = w2 := ⟨_, rfl⟩
      rw [← hwd] at hd1 hd2 hd3 hd4 hd5 hd6 ⊢
      clear hwd
      clear H1 HT1 HM1 HRX HRB HSZ
      obtain ⟨w1, hw1⟩ : ∃ y, y = wd := ⟨_, rfl⟩
      rw [← hw1] at hd1 hd2 hd3 hd4 hd5 hd6 ⊢
      clear hw1 wd
      have H1 := hd1
      have HT1 := hd2
      have HM1 := hd3
      have HRX := hd4
      have HRB := hd5
      have HSZ := hd6
      clear hd1 hd2 hd3 hd4 hd5 hd6
      have x1 : (w1).cell? ⟨kx, 1, none⟩ = some (.int .i64 x.a) := HRX.out.cell 1
      have x2 : (w1).cell? ⟨kx, 2, none⟩ = some (.int .i64 x.b) := HRX.out.cell 2
      have x3 : (w1).cell? ⟨kx, 3, none⟩ = some (.int .i64 x.c) := HRX.out.cell 3
      have s0 : (w1).cell? ⟨kb, 0, none⟩ = some (.bool true) := HRB.out.cell 0
      have s1 : (w1).cell? ⟨kb, 1, none⟩ = some (.int .i64 s.1) := HRB.out.cell 1
      have s2 : (w1).cell? ⟨kb, 2, none⟩ = some (.slice (adrOf aT) nT cT) := HRB.out.cell 2
      have k8 := H1.out.cells.2.2.2
      have z8 := H1.out.row.free 8
      obtain ⟨fl, hfl⟩ : ∃ z, z = floorV K f s := ⟨_, rfl⟩
      have HFL := Lib.hid hfl
      rw [← hfl]
      clear hfl
      by_cases hle : fl ≤ s.1 - 1
      · have HOU : Hid (outs K f g at_ x s = some []) := Lib.hid ((outs17 HO.out).trans (if_pos (by rw [← HFL.out]; exact hle)))
        have hdc : decide (s.1 - 1 < fl) = false := decide_eq_false (by omega)
        have hnl : ¬ s.1 - 1 < fl := by omega
        refine wpCan_seg 4 (by kernel_rfl) ?_
        simp only [List.take_succ_cons, List.take_zero, List.drop_succ_cons, List.drop_zero, List.map_cons, List.map_nil]
        iterate 4 (go_big_quiet_step (fail))
        refine wpQuiet_nil ?_
        refine wpCan_list (k := 1) (fun KK hK => ?_) (fun h => by cases h)
        go_wp2_with fail
        refine hK _ _ (fun h => by cases h) ?_
        clear hK KK
        unfold wpCan
        go_wp2_with fail
        try rw [hdc]
        first
          | go_end0
          | refine bodyPost_ret (results_none rfl _ _ _) rfl ?_
        exact ⟨K, left, false, vL, top, rfl, H1.out.mark false (grown_setCell _ _ _ _) (H1.out.row.set 8 (.bool false)), HM1.out.trans ((Mods.set _ _ _ _).mono fun g e => .inl e), fun g hg => .inl hg, Lib.hid ((GoE.good (by rw [HOU.out]; rfl)))⟩
      · have HOU : Hid (outs K f g at_ x s = none) := Lib.hid ((outs17 HO.out).trans (if_neg (by rw [← HFL.out]; exact hle)))
        have hdc : decide (s.1 - 1 < fl) = true := decide_eq_true (by omega)
        have hnl : s.1 - 1 < fl := by omega
        refine wpCan_seg 4 (by kernel_rfl) ?_
        simp only [List.take_succ_cons, List.take_zero, List.drop_succ_cons, List.drop_zero, List.map_cons, List.map_nil]
        iterate 4 (go_big_quiet_step (fail))
        refine wpQuiet_nil ?_
        refine wpCan_list (k := 1) (fun KK hK => ?_) (fun h => by cases h)
        go_wp2_with fail
        refine hK _ _ (fun h => by cases h) ?_
        clear hK KK
        unfold wpCan
        go_wp2_with fail
        try rw [hdc]
        first
          | go_end0
          | refine bodyPost_ret (results_none rfl _ _ _) rfl ?_
        exact ⟨K, left, true, vL, top, rfl, H1.out.mark true (grown_setCell _ _ _ _) (H1.out.row.set 8 (.bool true)), HM1.out.trans ((Mods.set _ _ _ _).mono fun g e => .inl e), fun g hg => .inl hg, Lib.hid ((GoE.bad (by rw [HOU.out]; rfl)))⟩
  have b17 : ((o : Int) == 17) = false := by rw [beq_eq_false_iff_ne]; omega
  go_upto_region 43 with fail
  clear b17
  by_cases h18 : o = 18
  · as_aux_lemma =>
      subst h18
      have HLO := Lib.hid H.out.fl.low
      have HKW : Hid (¬ WkP ob ba vL kb ∧ ¬ WkP ob ba vL kx) := Lib.hid (by have := HKB.out; exact ⟨fun h => by have := HLO.out _ h; omega, fun h => by have := HLO.out _ h; omega⟩)
      clear HLO
      have HOU : Hid (goTo nA (outs K f g at_ x s) K left = toAll nA [((at_ : Int) + 1, (s.1, s.2 ++ [at_])), (x.a, (s.1 + 1, s.2))] K left) := Lib.hid (by rw [outs18 HO.out]; rfl)
      have q0 := later_cell s1
      have q1 := later_cell s2
      have hnb : nT ≤ 1000000 := by have := H.out.tl; have := HNT.out; omega
      go_upto_region 44 with fail
      refine wp_region_idx Rb Rb_refl Rb_trans [(0,0),(0,1),(0,2),(0,3),(0,4),(0,5),(0,6),(0,7),(1,8),(0,9),(2,10)] (by kernel_rfl) (by kernel_rfl) (by kernel_rfl) ?_
      simp only [pickO, List.getD_cons_succ, List.getD_cons_zero]
      refine wpCan_seg 8 (by kernel_rfl) ?_
      simp only [List.take_succ_cons, List.take_zero, List.drop_succ_cons, List.drop_zero, List.map_cons, List.map_nil]
      iterate 8 (go_big_quiet_step (fail))
      refine wpQuiet_nil ?_
      clear q0 q1
      have hbd : Below w1.heap.size w1 w1.drew := (Below.refl _ _).drew
      have hd1 := Lib.hid (H1.out.fresh hbd)
      have hd2 := Lib.hid (HT1.out.fresh hbd)
      have hd3 := Lib.hid (HM1.out.trans (Mods.fresh hbd (WkP ob ba vL)))
      have hd4 := Lib.hid (HRX.out.after hbd)
      have hd5 := Lib.hid (HRB.out.after hbd)
      have hd6 : Hid (kb < ((w1.drew)).heap.size ∧ kx < ((w1.drew)).heap.size) := Lib.hid (by have := hbd.size; have := HSZ.out; omega)
      clear x1 x2 x3 s0 s1 s2 k8 z8 hbd
      obtain ⟨wd, hwd⟩ : ∃ y, y = (w1.drew) := ⟨_, rfl⟩
      rw [← hwd] at hd1 hd2 hd3 hd4 hd5 hd6 ⊢
      clear hwd
      clear H1 HT1 HM1 HRX HRB HSZ
      obtain ⟨w1, hw1⟩ : ∃ y, y = wd := ⟨_, rfl⟩
      rw [← hw1] at hd1 hd2 hd3 hd4 hd5 hd6 ⊢
      clear hw1 wd
      have H1 := hd1
      have HT1 := hd2
      have HM1 := hd3
      have HRX := hd4
      have HRB := hd5
      have HSZ := hd6
      clear hd1 hd2 hd3 hd4 hd5 hd6
      have x1 : (w1).cell? ⟨kx, 1, none⟩ = some (.int .i64 x.a) := HRX.out.cell 1
      have x2 : (w1).cell? ⟨kx, 2, none⟩ = some (.int .i64 x.b) := HRX.out.cell 2
      have x3 : (w1).cell? ⟨kx, 3, none⟩ = some (.int .i64 x.c) := HRX.out.cell 3
      have s0 : (w1).cell? ⟨kb, 0, none⟩ = some (.bool true) := HRB.out.cell 0
      have s1 : (w1).cell? ⟨kb, 1, none⟩ = some (.int .i64 s.1) := HRB.out.cell 1
      have s2 : (w1).cell? ⟨kb, 2, none⟩ = some (.slice (adrOf aT) nT cT) := HRB.out.cell 2
      have k8 := H1.out.cells.2.2.2
      have z8 := H1.out.row.free 8
      refine wpCan_list (k := 0) (fun KK hK => ?_) (fun _ => Rb_refl _)
      go_wp2_with fail
      refine (dmore_p (adrOf aT) nT cT at_ s.2 w1 (by have h1 := HT1.out.1; rw [← HNT.out] at h1; exact h1) hnb).mono ?_
      rintro e w2 ⟨v6, rfl, ho6, hb6⟩
      obtain ⟨a6, c6, rfl, h6, ht6, hto6⟩ := tryD H1.out hb6 HT1.out ho6
      have HRL : Hid (Rb w1 w2) := Lib.hid hb6
      have hd3 := Lib.hid (HM1.out.trans (Mods.fresh hb6 (WkP ob ba vL)))
      have hd4 := Lib.hid (HRX.out.after hb6)
      have hd5 := Lib.hid (HRB.out.after hb6)
      have hd6 : Hid (kb < w2.heap.size ∧ kx < w2.heap.size) := Lib.hid (by have := hb6.size; have := HSZ.out; omega)
      have hd1 := Lib.hid h6
      have hd2 := Lib.hid ht6
      have hd7 := Lib.hid hto6
      clear x1 x2 x3 s0 s1 s2 k8 z8 h6 ht6 hto6 ho6 hb6 HM1 HRX HRB HSZ H1 HT1
      go_wp2_with fail
      refine hK _ _ (fun _ => HRL.out) ?_
      clear hK KK HRL
      obtain ⟨w1, hw1⟩ : ∃ y, y = w2 := ⟨_, rfl⟩
      rw [← hw1] at hd1 hd2 hd3 hd4 hd5 hd6 hd7 ⊢
      clear hw1 w2
      have H1 := hd1
      have HT0 := hd2
      have HM1 := hd3
      have HRX := hd4
      have HRB := hd5
      have HSZ := hd6
      have HT1 := hd7
      clear hd1 hd2 hd3 hd4 hd5 hd6 hd7
      have x1 : (w1).cell? ⟨kx, 1, none⟩ = some (.int .i64 x.a) := HRX.out.cell 1
      have x2 : (w1).cell? ⟨kx, 2, none⟩ = some (.int .i64 x.b) := HRX.out.cell 2
      have x3 : (w1).cell? ⟨kx, 3, none⟩ = some (.int .i64 x.c) := HRX.out.cell 3
      have s0 : (w1).cell? ⟨kb, 0, none⟩ = some (.bool true) := HRB.out.cell 0
      have s1 : (w1).cell? ⟨kb, 1, none⟩ = some (.int .i64 s.1) := HRB.out.cell 1
      have s2 : (w1).cell? ⟨kb, 2, none⟩ = some (.slice (adrOf aT) nT cT) := HRB.out.cell 2
      have k8 := H1.out.cells.2.2.2
      have z8 := H1.out.row.free 8
      refine wpCan_seg 1 (by kernel_rfl) ?_
      simp only [List.take_succ_cons, List.take_zero, List.drop_succ_cons, List.drop_zero, List.map_cons, List.map_nil]
      iterate 1 (go_big_quiet_step (fail))
      refine wpQuiet_nil ?_
      refine wpCan_list (k := 1) (fun KK hK => ?_) (fun h => by cases h)
      go_wp2_with fail
      refine (dto_p w0 ob ba oa base w1.heap.size f _ _ g nA w1 vL K left false H1.out hlen (Nat.le_trans H.out.lft (by decide)) ((at_ : Int) + 1) false (s.1, s.2 ++ [at_]) a6 (nT + 1) c6 HT0.out).mono ?_
      rintro e w5 ⟨K', left', bad', vL', rfl, h5, hm5, hv5, hg5⟩
      have H5 := Lib.hid h5
      have HT5 := Lib.hid (FlS.past H1.out HT1.out hm5 hv5)
      have HM5 := Lib.hid (HM1.out.trans hm5)
      have HV5 : Hid (∀ g, vL'.ownBlock = some g → vL.ownBlock = some g ∨ w1.heap.size ≤ g) := Lib.hid hv5
      have HLT : Hid (w.heap.size ≤ w1.heap.size) := Lib.hid HM1.out.size
      have HX5 := Lib.hid (HRX.out.mods hm5 HKW.out.2)
      have HB5 := Lib.hid (HRB.out.mods hm5 HKW.out.1)
      have HG5 := hg5
      clear x1 x2 x3 s0 s1 s2 k8 z8 h5 hm5 hv5 hg5 HT1 HM1 HRX HRB
      go_wp2_with fail
      refine hK _ _ (fun h => by cases h) ?_
      clear hK KK
      unfold wpCan
      have y1 : w5.cell? ⟨kx, 1, none⟩ = some (.int .i64 x.a) := HX5.out.cell 1
      have t1 : w5.cell? ⟨kb, 1, none⟩ = some (.int .i64 s.1) := HB5.out.cell 1
      have t2 : w5.cell? ⟨kb, 2, none⟩ = some (.slice (adrOf aT) nT cT) := HB5.out.cell 2
      go_wp2_with fail
      refine (dto_p w0 ob ba oa base (w1.heap.size) f _ _ g nA w5 vL' K' left' bad' H5.out hlen (by have := HG5.out.2.2.2; have := H.out.lft; omega) (x.a) false (s.1 + 1, s.2) aT nT cT HT5.out).mono ?_
      rintro e w7 ⟨K2, left2, bad2, vL2, rfl, h7, hm7, hv7, hg7⟩
      have H7 := Lib.hid h7
      have HM7 : Hid (Mods (WkP ob ba vL) w w7) := Lib.hid ((HM5.out).after hm7 (fun g hg => (WkP.past HV5.out g hg).imp id (fun h => Nat.le_trans HLT.out h)))
      have HV7 : Hid (∀ g, vL2.ownBlock = some g → vL.ownBlock = some g ∨ w.heap.size ≤ g) := Lib.hid (fun g hg => by
        have hs := (HM5.out).size
        rcases hv7 g hg with h | h
        · exact (HV5.out g h).imp id (fun h => Nat.le_trans HLT.out h)
        · exact .inr (Nat.le_trans hs h))
      clear h7 hm7 hv7
      go_wp2_with fail
      first
        | go_end0
        | refine bodyPost_ret (results_none rfl _ _ _) rfl ?_
      exact ⟨K2, left2, bad2, vL2, (w1.heap.size), rfl, H7.out, HM7.out, HV7.out, Lib.hid ((GoD.two HG5.out hg7.out (fun e => by cases e) (fun _ => HOU.out)))⟩
  have b18 : ((o : Int) == 18) = false := by rw [beq_eq_false_iff_ne]; omega
  go_upto_region 46 with fail
  clear b18
  by_cases h19 : o = 19
  · as_aux_lemma =>
      subst h19
      cases hl : s.2.getLast? with
      | none =>
        have hn0 : nT = 0 := by rw [HNT.out, List.getLast?_eq_none_iff.1 hl]; rfl
        have HOU : Hid (outs K f g at_ x s = none) := Lib.hid (by rw [outs19 HO.out, hl])
        have hbz : ((nT : Int) == 0) = true := by rw [hn0]; rfl
        have hbz2 : (nT == 0) = true := by rw [hn0]; rfl
        have hbz3 : decide (nT = 0) = true := decide_eq_true hn0
        clear hl hn0
        go_upto_region 48 with fail
        refine wp_region_idx Rb Rb_refl Rb_trans [(0,0),(0,1),(0,2),(0,3),(0,4),(0,5),(0,6),(0,7),(0,8),(0,9),(0,10),(0,11),(0,12),(0,13),(0,14),(0,15),(0,16),(0,17),(0,18),(0,19),(0,20)] (by kernel_rfl) (by kernel_rfl) (by kernel_rfl) ?_
        simp only [pickO, List.getD_cons_succ, List.getD_cons_zero]
        refine wpCan_seg 2 (by kernel_rfl) ?_
        simp only [List.take_succ_cons, List.take_zero, List.drop_succ_cons, List.drop_zero, List.map_cons, List.map_nil]
        iterate 2 (go_big_quiet_step (fail))
        refine wpQuiet_nil ?_
        try first | rw [hbz] | rw [hbz2] | rw [hbz3]
        refine wpCan_seg 19 (by kernel_rfl) ?_
        simp only [List.take_succ_cons, List.take_zero, List.drop_succ_cons, List.drop_zero, List.map_cons, List.map_nil]
        iterate 19 (go_big_quiet_step (fail))
        refine wpQuiet_nil ?_
        unfold wpCan
        have hbd : Below w1.heap.size w1 w1.drew := (Below.refl _ _).drew
        have hd1 := Lib.hid (H1.out.fresh hbd)
        have hd2 := Lib.hid (HT1.out.fresh hbd)
        have hd3 := Lib.hid (HM1.out.trans (Mods.fresh hbd (WkP ob ba vL)))
        have hd4 := Lib.hid (HRX.out.after hbd)
        have hd5 := Lib.hid (HRB.out.after hbd)
        have hd6 : Hid (kb < ((w1.drew)).heap.size ∧ kx < ((w1.drew)).heap.size) := Lib.hid (by have := hbd.size; have := HSZ.out; omega)
        clear x1 x2 x3 s0 s1 s2 k8 z8 hbd
        obtain ⟨wd, hwd⟩ : ∃ y, y = (w1.drew) := ⟨_, rfl⟩
        rw [← hwd] at hd1 hd2 hd3 hd4 hd5 hd6 ⊢
        clear hwd
        clear H1 HT1 HM1 HRX HRB HSZ
        obtain ⟨w1, hw1⟩ : ∃ y, y = wd := ⟨_, rfl⟩
        rw [← hw1] at hd1 hd2 hd3 hd4 hd5 hd6 ⊢
        clear hw1 wd
        have H1 := hd1
        have HT1 := hd2
        have HM1 := hd3
        have HRX := hd4
        have HRB := hd5
        have HSZ := hd6
        clear hd1 hd2 hd3 hd4 hd5 hd6
        have x1 : (w1).cell? ⟨kx, 1, none⟩ = some (.int .i64 x.a) := HRX.out.cell 1
        have x2 : (w1).cell? ⟨kx, 2, none⟩ = some (.int .i64 x.b) := HRX.out.cell 2
        have x3 : (w1).cell? ⟨kx, 3, none⟩ = some (.int .i64 x.c) := HRX.out.cell 3
        have s0 : (w1).cell? ⟨kb, 0, none⟩ = some (.bool true) := HRB.out.cell 0
        have s1 : (w1).cell? ⟨kb, 1, none⟩ = some (.int .i64 s.1) := HRB.out.cell 1
        have s2 : (w1).cell? ⟨kb, 2, none⟩ = some (.slice (adrOf aT) nT cT) := HRB.out.cell 2
        have k8 := H1.out.cells.2.2.2
        have z8 := H1.out.row.free 8
        go_wp2_with fail
        first
          | go_end0
          | refine bodyPost_ret (results_none rfl _ _ _) rfl ?_
        exact ⟨K, left, true, vL, top, rfl, H1.out.mark true (grown_setCell _ _ _ _) (H1.out.row.set 8 (.bool true)), HM1.out.trans ((Mods.set _ _ _ _).mono fun g e => .inl e), fun g hg => .inl hg, Lib.hid ((GoE.bad (by rw [HOU.out]; rfl)))⟩
      | some p =>
        have hpos : 0 < nT := by
          rw [HNT.out]
          cases he : s.2 with
          | nil => rw [he] at hl; cases hl
          | cons a b => simp
        have hpT : p ∈ s.2 := List.mem_of_getLast? hl
        obtain ⟨s', hs'⟩ : ∃ s', K p = some s' := Option.ne_none_iff_exists'.1 (H.out.ok p hpT)
        have hOU : outs K f g at_ x s = if s.1 = s'.1 + 1 then some [((at_ : Int) + 1, (s.1, s.2.dropLast))] else none := by rw [outs19 HO.out, hl]; simp only [hOf, hs']
        obtain ⟨hpA, a', c', _, hst, _, _⟩ := H1.out.look hs'
        have hpA' : (p : Int) < nA := by omega
        have hT1 : Sl w1 1 (.slice (adrOf aT) nT cT) nT (nats s.2) := by have := HT1.out.1; rw [← HNT.out] at this; exact this
        have hcap := hT1.cap
        obtain ⟨b, off, u, ha, hu, hc⟩ := hT1.at (k := nT - 1) (by omega)
        obtain ⟨z, rfl, hz⟩ := nats_at hu
        have hla := last_at hl
        rw [← HNT.out] at hla
        rw [hla] at hz
        cases hz
        have hb' := H.out.kb p s' hs'
        have hb0 := hb'.1
        have hb1' := hb'.2
        have q0 := later_cell s1
        have q1 := later_cell s2
        have q2 := later_cell hc
        have q6 := later_cell H1.out.cells.2.1
        have q7 := later_cell hst
        have hcap1 := hcap.1
        have hcap2 := hcap.2.1
        have HHL := Lib.hid hl
        have hbz : ((nT : Int) == 0) = false := by rw [beq_eq_false_iff_ne]; omega
        have hbz2 : (nT == 0) = false := by rw [beq_eq_false_iff_ne]; omega
        have hbz3 : decide (nT = 0) = false := decide_eq_false (by omega)
        rw [ha] at q1 s2 ⊢
        clear hl hT1 hcap hu hla hc hpT hs' hb' hst
        by_cases he : s.1 = s'.1 + 1
        · have HOU := Lib.hid (hOU.trans (if_pos he))
          have hbe : (s.1 != s'.1 + 1) = false := by rw [he]; simp
          clear he hOU
          have HOR : Hid (goTo nA (outs K f g at_ x s) K left = toS nA ((at_ : Int) + 1, (s.1, s.2.dropLast)) K left) := Lib.hid (by rw [HOU.out]; exact toAll_one _ _ _ _)
          go_upto_region 48 with fail
          refine wp_region_idx Rb Rb_refl Rb_trans [(0,0),(0,1),(0,2),(0,3),(0,4),(0,5),(0,6),(0,7),(0,8),(0,9),(0,10),(0,11),(0,12),(0,13),(0,14),(0,15),(0,16),(0,17),(0,18),(0,19),(0,20)] (by kernel_rfl) (by kernel_rfl) (by kernel_rfl) ?_
          simp only [pickO, List.getD_cons_succ, List.getD_cons_zero]
          refine wpCan_seg 2 (by kernel_rfl) ?_
          simp only [List.take_succ_cons, List.take_zero, List.drop_succ_cons, List.drop_zero, List.map_cons, List.map_nil]
          iterate 2 (go_big_quiet_step (fail))
          refine wpQuiet_nil ?_
          try first | rw [hbz] | rw [hbz2] | rw [hbz3]
          refine wpCan_seg 19 (by kernel_rfl) ?_
          simp only [List.take_succ_cons, List.take_zero, List.drop_succ_cons, List.drop_zero, List.map_cons, List.map_nil]
          iterate 19 (go_big_quiet_step (fail))
          refine wpQuiet_nil ?_
          unfold wpCan
          clear q0 q1 q2 q6 q7
          have hbd : Below w1.heap.size w1 w1.drew := (Below.refl _ _).drew
          have hd1 := Lib.hid (H1.out.fresh hbd)
          have hd2 := Lib.hid (HT1.out.fresh hbd)
          have hd3 := Lib.hid (HM1.out.trans (Mods.fresh hbd (WkP ob ba vL)))
          have hd4 := Lib.hid (HRX.out.after hbd)
          have hd5 := Lib.hid (HRB.out.after hbd)
          have hd6 : Hid (kb < ((w1.drew)).heap.size ∧ kx < ((w1.drew)).heap.size) := Lib.hid (by have := hbd.size; have := HSZ.out; omega)
          clear x1 x2 x3 s0 s1 s2 k8 z8 hbd
          obtain ⟨wd, hwd⟩ : ∃ y, y = (w1.drew) := ⟨_, rfl⟩
          rw [← hwd] at hd1 hd2 hd3 hd4 hd5 hd6 ⊢
          clear hwd
          clear H1 HT1 HM1 HRX HRB HSZ
          obtain ⟨w1, hw1⟩ : ∃ y, y = wd := ⟨_, rfl⟩
          rw [← hw1] at hd1 hd2 hd3 hd4 hd5 hd6 ⊢
          clear hw1 wd
          have H1 := hd1
          have HT1 := hd2
          have HM1 := hd3
          have HRX := hd4
          have HRB := hd5
          have HSZ := hd6
          clear hd1 hd2 hd3 hd4 hd5 hd6
          have x1 : (w1).cell? ⟨kx, 1, none⟩ = some (.int .i64 x.a) := HRX.out.cell 1
          have x2 : (w1).cell? ⟨kx, 2, none⟩ = some (.int .i64 x.b) := HRX.out.cell 2
          have x3 : (w1).cell? ⟨kx, 3, none⟩ = some (.int .i64 x.c) := HRX.out.cell 3
          have s0 : (w1).cell? ⟨kb, 0, none⟩ = some (.bool true) := HRB.out.cell 0
          have s1 : (w1).cell? ⟨kb, 1, none⟩ = some (.int .i64 s.1) := HRB.out.cell 1
          have s2 : (w1).cell? ⟨kb, 2, none⟩ = some (.slice (adrOf aT) nT cT) := HRB.out.cell 2
          have k8 := H1.out.cells.2.2.2
          have z8 := H1.out.row.free 8
          have hsl : ∀ x : Later Rb w1.drew, (Instr.slice 118 (.slice (adrOf aT) nT cT) none (some (.int .i64 ((nT : Int) - 1))) none).run Tryd.prog x.w = .ok (.slice (adrOf aT) (nT - 1) cT) x.w := fun x => by
            have h1 := run_cut (P := Tryd.prog) x.w Tryd.underlying118 (by kernel_rfl) (adrOf aT) nT cT 0 (nT - 1) cT none (some (.int .i64 ((nT - 1 : Nat) : Int))) none (bounds_h _ _ _ _ _ (by omega))
            have h2 : cutAddr (adrOf aT) cT 0 = adrOf aT := by
              unfold cutAddr
              split
              · rfl
              · cases aT <;> simp [adrOf, add_eq]
            rw [show ((nT - 1 : Nat) : Int) = (nT : Int) - 1 by omega, h2] at h1
            simpa using h1
          have q0 := later_cell s1
          have q1 := later_cell s2
          go_upto_region 50 with fail
          refine wp_region_idx Rb Rb_refl Rb_trans [(0,0),(0,1),(0,2),(0,3),(0,4),(0,5),(0,6),(0,7),(0,8),(0,9),(0,10),(2,11)] (by kernel_rfl) (by kernel_rfl) (by kernel_rfl) ?_
          simp only [pickO, List.getD_cons_succ, List.getD_cons_zero]
          refine wpCan_seg 11 (by kernel_rfl) ?_
          simp only [List.take_succ_cons, List.take_zero, List.drop_succ_cons, List.drop_zero, List.map_cons, List.map_nil]
          iterate 11 (go_big_quiet_step (fail))
          refine wpQuiet_nil ?_
          clear q0 q1 hsl
          have hbd : Below w1.heap.size w1 w1.drew := (Below.refl _ _).drew
          have hd1 := Lib.hid (H1.out.fresh hbd)
          have hd2 := Lib.hid (HT1.out.fresh hbd)
          have hd3 := Lib.hid (HM1.out.trans (Mods.fresh hbd (WkP ob ba vL)))
          have hd4 := Lib.hid (HRX.out.after hbd)
          have hd5 := Lib.hid (HRB.out.after hbd)
          have hd6 : Hid (kb < ((w1.drew)).heap.size ∧ kx < ((w1.drew)).heap.size) := Lib.hid (by have := hbd.size; have := HSZ.out; omega)
          clear x1 x2 x3 s0 s1 s2 k8 z8 hbd
          obtain ⟨wd, hwd⟩ : ∃ y, y = (w1.drew) := ⟨_, rfl⟩
          rw [← hwd] at hd1 hd2 hd3 hd4 hd5 hd6 ⊢
          clear hwd
          clear H1 HT1 HM1 HRX HRB HSZ
          obtain ⟨w1, hw1⟩ : ∃ y, y = wd := ⟨_, rfl⟩
          rw [← hw1] at hd1 hd2 hd3 hd4 hd5 hd6 ⊢
          clear hw1 wd
          have H1 := hd1
          have HT1 := hd2
          have HM1 := hd3
          have HRX := hd4
          have HRB := hd5
          have HSZ := hd6
          clear hd1 hd2 hd3 hd4 hd5 hd6
          have x1 : (w1).cell? ⟨kx, 1, none⟩ = some (.int .i64 x.a) := HRX.out.cell 1
          have x2 : (w1).cell? ⟨kx, 2, none⟩ = some (.int .i64 x.b) := HRX.out.cell 2
          have x3 : (w1).cell? ⟨kx, 3, none⟩ = some (.int .i64 x.c) := HRX.out.cell 3
          have s0 : (w1).cell? ⟨kb, 0, none⟩ = some (.bool true) := HRB.out.cell 0
          have s1 : (w1).cell? ⟨kb, 1, none⟩ = some (.int .i64 s.1) := HRB.out.cell 1
          have s2 : (w1).cell? ⟨kb, 2, none⟩ = some (.slice (adrOf aT) nT cT) := HRB.out.cell 2
          have k8 := H1.out.cells.2.2.2
          have z8 := H1.out.row.free 8
          have HTd := Lib.hid (HT1.out.drop)
          refine wpCan_list (k := 1) (fun KK hK => ?_) (fun h => by cases h)
          go_wp2_with fail
          have hto := dto_p w0 ob ba oa base top f (.slice (some ⟨gF, oF, none⟩) nF kF) (.slice aR nR kR) g nA w1 vL K left false H1.out hlen (Nat.le_trans H.out.lft (by decide)) ((at_ : Int) + 1) false (s.1, s.2.dropLast) aT (nT - 1) cT HTd.out
          rw [ha] at hto
          refine hto.mono ?_
          clear hto
          rintro e w5 ⟨K', left', bad', vL', rfl, h5, hm5, hv5, hg5⟩
          have H5 := Lib.hid h5
          have HM5 := Lib.hid hm5
          have HV5 := Lib.hid hv5
          clear h5 hm5 hv5
          go_wp2_with fail
          refine hK _ _ (fun h => by cases h) ?_
          clear hK KK
          unfold wpCan
          go_wp2_with fail
          first
            | go_end0
            | refine bodyPost_ret (results_none rfl _ _ _) rfl ?_
          exact ⟨K', left', bad', vL', top, rfl, H5.out, HM1.out.trans HM5.out, fun g hg => (HV5.out g hg).imp id (fun h => Nat.le_trans HM1.out.size h), Lib.hid (GoD.one (by rw [HOR.out]; exact hg5.out))⟩
        · have HOU := Lib.hid (hOU.trans (if_neg he))
          have hbe : (s.1 != s'.1 + 1) = true := by rw [bne_iff_ne]; exact he
          clear he hOU
          go_upto_region 48 with fail
          refine wp_region_idx Rb Rb_refl Rb_trans [(0,0),(0,1),(0,2),(0,3),(0,4),(0,5),(0,6),(0,7),(0,8),(0,9),(0,10),(0,11),(0,12),(0,13),(0,14),(0,15),(0,16),(0,17),(0,18),(0,19),(0,20)] (by kernel_rfl) (by kernel_rfl) (by kernel_rfl) ?_
          simp only [pickO, List.getD_cons_succ, List.getD_cons_zero]
          refine wpCan_seg 2 (by kernel_rfl) ?_
          simp only [List.take_succ_cons, List.take_zero, List.drop_succ_cons, List.drop_zero, List.map_cons, List.map_nil]
          iterate 2 (go_big_quiet_step (fail))
          refine wpQuiet_nil ?_
          try first | rw [hbz] | rw [hbz2] | rw [hbz3]
          refine wpCan_seg 19 (by kernel_rfl) ?_
          simp only [List.take_succ_cons, List.take_zero, List.drop_succ_cons, List.drop_zero, List.map_cons, List.map_nil]
          iterate 19 (go_big_quiet_step (fail))
          refine wpQuiet_nil ?_
          unfold wpCan
          clear q0 q1 q2 q6 q7
          have hbd : Below w1.heap.size w1 w1.drew := (Below.refl _ _).drew
          have hd1 := Lib.hid (H1.out.fresh hbd)
          have hd2 := Lib.hid (HT1.out.fresh hbd)
          have hd3 := Lib.hid (HM1.out.trans (Mods.fresh hbd (WkP ob ba vL)))
          have hd4 := Lib.hid (HRX.out.after hbd)
          have hd5 := Lib.hid (HRB.out.after hbd)
          have hd6 : Hid (kb < ((w1.drew)).heap.size ∧ kx < ((w1.drew)).heap.size) := Lib.hid (by have := hbd.size; have := HSZ.out; omega)
          clear x1 x2 x3 s0 s1 s2 k8 z8 hbd
          obtain ⟨wd, hwd⟩ : ∃ y, y = (w1.drew) := ⟨_, rfl⟩
          rw [← hwd] at hd1 hd2 hd3 hd4 hd5 hd6 ⊢
          clear hwd
          clear H1 HT1 HM1 HRX HRB HSZ
          obtain ⟨w1, hw1⟩ : ∃ y, y = wd := ⟨_, rfl⟩
          rw [← hw1] at hd1 hd2 hd3 hd4 hd5 hd6 ⊢
          clear hw1 wd
          have H1 := hd1
          have HT1 := hd2
          have HM1 := hd3
          have HRX := hd4
          have HRB := hd5
          have HSZ := hd6
          clear hd1 hd2 hd3 hd4 hd5 hd6
          have x1 : (w1).cell? ⟨kx, 1, none⟩ = some (.int .i64 x.a) := HRX.out.cell 1
          have x2 : (w1).cell? ⟨kx, 2, none⟩ = some (.int .i64 x.b) := HRX.out.cell 2
          have x3 : (w1).cell? ⟨kx, 3, none⟩ = some (.int .i64 x.c) := HRX.out.cell 3
          have s0 : (w1).cell? ⟨kb, 0, none⟩ = some (.bool true) := HRB.out.cell 0
          have s1 : (w1).cell? ⟨kb, 1, none⟩ = some (.int .i64 s.1) := HRB.out.cell 1
          have s2 : (w1).cell? ⟨kb, 2, none⟩ = some (.slice (adrOf aT) nT cT) := HRB.out.cell 2
          have k8 := H1.out.cells.2.2.2
          have z8 := H1.out.row.free 8
          go_wp2_with fail
          first
            | go_end0
            | refine bodyPost_ret (results_none rfl _ _ _) rfl ?_
          exact ⟨K, left, true, vL, top, rfl, H1.out.mark true (grown_setCell _ _ _ _) (H1.out.row.set 8 (.bool true)), HM1.out.trans ((Mods.set _ _ _ _).mono fun g e => .inl e), fun g hg => .inl hg, Lib.hid ((GoE.bad (by rw [HOU.out]; rfl)))⟩
  have b19 : ((o : Int) == 19) = false := by rw [beq_eq_false_iff_ne]; omega
  go_upto_region 51 with fail
  clear b19
  by_cases h20 : o = 20
  · as_aux_lemma =>
      subst h20
      have hmv : movesV x = ((x.a + 1), (1 : Int)) := by rw [movesV, ← HO.out]; rfl
      have HOU : Hid (outs K f g at_ x s = onV K f at_ s (x.a + 1) (1 : Int)) := Lib.hid (by
        have h1 : outs K f g at_ x s = onV K f at_ s (movesV x).1 (movesV x).2 := by rw [outs, ← HO.out]; rfl
        rw [h1, hmv])
      have hmo := hm.out
      unfold Moves1 at hmo
      rw [hmv] at hmo
      have HM := Lib.hid hmo
      clear hmo hmv
      have ha0 := HM.out.1
      have ha1 := HM.out.2.1
      go_wp2_with fail
      refine (don_p w0 ob ba oa base top f _ _ g nA w1 vL K left false H1.out hlen (Nat.le_trans H.out.lft (by decide)) at_ (by omega) true s aT nT cT HT1.out H.out.ok hh0 (by omega) (x.a + 1) (1 : Int) (HM.out.1) (HM.out.2.1) (HM.out.2.2.1) (HM.out.2.2.2)).mono ?_
      rintro e w5 ⟨K', left', bad', vL', rfl, h5, hm5, hv5, hg5⟩
      have H5 := Lib.hid h5
      have HM5 := Lib.hid hm5
      have HV5 := Lib.hid hv5
      clear h5 hm5 hv5
      go_wp2_with fail
      first
        | go_end0
        | refine bodyPost_ret (results_none rfl _ _ _) rfl ?_
      exact ⟨K', left', bad', vL', top, rfl, H5.out, HM1.out.trans HM5.out, fun g hg => (HV5.out g hg).imp id (fun h => Nat.le_trans HM1.out.size h), Lib.hid ((GoD.one (by rw [HOU.out]; exact hg5.out)))⟩
  have b20 : ((o : Int) == 20) = false := by rw [beq_eq_false_iff_ne]; omega
  go_upto_region 53 with fail
  clear b20
  by_cases h21 : o = 21
  · as_aux_lemma =>
      subst h21
      have hmv : movesV x = ((1 : Int), (0 : Int)) := by rw [movesV, ← HO.out]; rfl
      have HOU : Hid (outs K f g at_ x s = onV K f at_ s (1 : Int) (0 : Int)) := Lib.hid (by
        have h1 : outs K f g at_ x s = onV K f at_ s (movesV x).1 (movesV x).2 := by rw [outs, ← HO.out]; rfl
        rw [h1, hmv])
      have hmo := hm.out
      unfold Moves1 at hmo
      rw [hmv] at hmo
      have HM := Lib.hid hmo
      clear hmo hmv
      go_wp2_with fail
      refine (don_p w0 ob ba oa base top f _ _ g nA w1 vL K left false H1.out hlen (Nat.le_trans H.out.lft (by decide)) at_ (by omega) true s aT nT cT HT1.out H.out.ok hh0 (by omega) (1 : Int) (0 : Int) (HM.out.1) (HM.out.2.1) (HM.out.2.2.1) (HM.out.2.2.2)).mono ?_
      rintro e w5 ⟨K', left', bad', vL', rfl, h5, hm5, hv5, hg5⟩
      have H5 := Lib.hid h5
      have HM5 := Lib.hid hm5
      have HV5 := Lib.hid hv5
      clear h5 hm5 hv5
      go_wp2_with fail
      first
        | go_end0
        | refine bodyPost_ret (results_none rfl _ _ _) rfl ?_
      exact ⟨K', left', bad', vL', top, rfl, H5.out, HM1.out.trans HM5.out, fun g hg => (HV5.out g hg).imp id (fun h => Nat.le_trans HM1.out.size h), Lib.hid ((GoD.one (by rw [HOU.out]; exact hg5.out)))⟩
  have b21 : ((o : Int) == 21) = false := by rw [beq_eq_false_iff_ne]; omega
  go_upto_region 55 with fail
  clear b21
  by_cases h23 : o = 23
  · as_aux_lemma =>
      subst h23
      have HLO := Lib.hid H.out.fl.low
      have HKW : Hid (¬ WkP ob ba vL kb ∧ ¬ WkP ob ba vL kx) := Lib.hid (by have := HKB.out; exact ⟨fun h => by have := HLO.out _ h; omega, fun h => by have := HLO.out _ h; omega⟩)
      clear HLO
      by_cases hf : f = 0
      · have hb0 : ((f : Int) == 0) = true := by rw [hf]; rfl
        have HOU : Hid (goTo nA (outs K f g at_ x s) K left = toAll nA [((at_ : Int) + 1, s), (x.b, (s.1 + 1, s.2))] K left) := Lib.hid (by rw [outs23 HO.out, if_pos hf]; rfl)
        clear hf
        go_upto_region 57 with fail
        have hms : Mods (fun g => g = ob) w1 (w1.setCell ⟨ob, 8, none⟩ (.bool false)) := Mods.set _ _ _ _
        have hd1 := Lib.hid (H1.out.mark false (grown_setCell _ _ _ _) (H1.out.row.set 8 (.bool false)))
        have hd2 := Lib.hid (HT1.out.mods (B' := vL.ownBlock) H1.out.up.2 hms (fun g g1 _ _ e => by have := H1.out.obk; omega) (fun g hg => .inl hg))
        have hd3 : Hid (Mods (WkP ob ba vL) w (w1.setCell ⟨ob, 8, none⟩ (.bool false))) := Lib.hid (HM1.out.trans (hms.mono fun g e => .inl e))
        have hd4 := Lib.hid (HRX.out.mods hms (by have := HKB.out; omega))
        have hd5 := Lib.hid (HRB.out.mods hms (by have := HKB.out; omega))
        have hd6 : Hid (kb < (w1.setCell ⟨ob, 8, none⟩ (.bool false)).heap.size ∧ kx < (w1.setCell ⟨ob, 8, none⟩ (.bool false)).heap.size) := Lib.hid (by have := hms.size; have := HSZ.out; omega)
        clear x1 x2 x3 s0 s1 s2 k8 z8 hms
        obtain ⟨wd, hwd⟩ : ∃ y, y = w1.setCell ⟨ob, 8, none⟩ (.bool false) := ⟨_, rfl⟩
        rw [← hwd] at hd1 hd2 hd3 hd4 hd5 hd6 ⊢
        clear hwd H1 HT1 HM1 HRX HRB HSZ
        obtain ⟨w1, hw1⟩ : ∃ y, y = wd := ⟨_, rfl⟩
        rw [← hw1] at hd1 hd2 hd3 hd4 hd5 hd6 ⊢
        clear hw1 wd
        have H1 := hd1
        have HT1 := hd2
        have HM1 := hd3
        have HRX := hd4
        have HRB := hd5
        have HSZ := hd6
        clear hd1 hd2 hd3 hd4 hd5 hd6
        have x1 : (w1).cell? ⟨kx, 1, none⟩ = some (.int .i64 x.a) := HRX.out.cell 1
        have x2 : (w1).cell? ⟨kx, 2, none⟩ = some (.int .i64 x.b) := HRX.out.cell 2
        have x3 : (w1).cell? ⟨kx, 3, none⟩ = some (.int .i64 x.c) := HRX.out.cell 3
        have s0 : (w1).cell? ⟨kb, 0, none⟩ = some (.bool true) := HRB.out.cell 0
        have s1 : (w1).cell? ⟨kb, 1, none⟩ = some (.int .i64 s.1) := HRB.out.cell 1
        have s2 : (w1).cell? ⟨kb, 2, none⟩ = some (.slice (adrOf aT) nT cT) := HRB.out.cell 2
        have k8 := H1.out.cells.2.2.2
        have z8 := H1.out.row.free 8
        go_wp2_with fail
        refine (dto_p w0 ob ba oa base top f _ _ g nA w1 vL K left false H1.out hlen (Nat.le_trans H.out.lft (by decide)) ((at_ : Int) + 1) true s aT nT cT HT1.out).mono ?_
        rintro e w5 ⟨K', left', bad', vL', rfl, h5, hm5, hv5, hg5⟩
        have H5 := Lib.hid h5
        have HT5 := Lib.hid (FlS.past H1.out HT1.out hm5 hv5)
        have HM5 := Lib.hid (HM1.out.trans hm5)
        have HV5 : Hid (∀ g, vL'.ownBlock = some g → vL.ownBlock = some g ∨ w1.heap.size ≤ g) := Lib.hid hv5
        have HLT : Hid (w.heap.size ≤ w1.heap.size) := Lib.hid HM1.out.size
        have HX5 := Lib.hid (HRX.out.mods hm5 HKW.out.2)
        have HB5 := Lib.hid (HRB.out.mods hm5 HKW.out.1)
        have HG5 := hg5
        clear x1 x2 x3 s0 s1 s2 k8 z8 h5 hm5 hv5 hg5 HT1 HM1 HRX HRB
        have t1 : w5.cell? ⟨kb, 1, none⟩ = some (.int .i64 s.1) := HB5.out.cell 1
        have t2 := HB5.out.free 1
        go_upto_region 59 with fail
        have hms : Mods (fun g => g = kb) w5 (w5.setCell ⟨kb, 1, none⟩ (.int .i64 (s.1 + 1))) := Mods.set _ _ _ _
        have hno : ∀ g, (fun g => g = kb) g → top ≤ g ∧ vL'.ownBlock ≠ some g := fun g hg => by
          have h1 := H.out.fl.up
          have h2 := HKB.out
          refine ⟨by omega, fun e => ?_⟩
          rcases HV5.out g e with h | h
          · have := H.out.fl.lft.lives g h; omega
          · have := HSZ.out; omega
        have h6 := Lib.hid (H5.out.mods hms hno)
        have ht6 := Lib.hid (HT5.out.mods (B' := vL'.ownBlock) H5.out.up.2 hms (fun g g1 g2 _ e => by have := (hno g e).1; omega) (fun g hg => .inl hg))
        have hm6 : Hid (Mods (WkP ob ba vL) w (w5.setCell ⟨kb, 1, none⟩ (.int .i64 (s.1 + 1)))) := Lib.hid (HM5.out.after hms (fun g e => .inr (by have := HKB.out; omega)))
        have hb6 := Lib.hid (HB5.out.set 1 (.int .i64 (s.1 + 1)))
        have hx6 := Lib.hid (HX5.out.mods hms (by have := HKB.out; omega))
        clear t1 t2 hms hno
        obtain ⟨w6, hw6⟩ : ∃ y, y = w5.setCell ⟨kb, 1, none⟩ (.int .i64 (s.1 + 1)) := ⟨_, rfl⟩
        rw [← hw6] at h6 ht6 hm6 hb6 hx6 ⊢
        clear hw6 HT5 H5 HB5 HX5 HM5
        have H6 := h6
        have HT6 := ht6
        have HM6 := hm6
        have y1 : w6.cell? ⟨kx, 1, none⟩ = some (.int .i64 x.a) := hx6.out.cell 1
        have y2 : w6.cell? ⟨kx, 2, none⟩ = some (.int .i64 x.b) := hx6.out.cell 2
        have t0 : w6.cell? ⟨kb, 0, none⟩ = some (.bool true) := hb6.out.cell 0
        have t1 : w6.cell? ⟨kb, 1, none⟩ = some (.int .i64 (s.1 + 1)) := hb6.out.cell 1
        have t2 : w6.cell? ⟨kb, 2, none⟩ = some (.slice (adrOf aT) nT cT) := hb6.out.cell 2
        have k8 := H6.out.cells.2.2.2
        clear h6 ht6 hm6 hb6 hx6
        go_wp2_with fail
        refine (dto_p w0 ob ba oa base top f _ _ g nA w6 vL' K' left' bad' H6.out hlen (by have := HG5.out.2.2.2; have := H.out.lft; omega) (x.b) true (s.1 + 1, s.2) aT nT cT HT6.out).mono ?_
        rintro e w7 ⟨K2, left2, bad2, vL2, rfl, h7, hm7, hv7, hg7⟩
        have H7 := Lib.hid h7
        have HM7 : Hid (Mods (WkP ob ba vL) w w7) := Lib.hid ((HM6.out).after hm7 (fun g hg => (WkP.past HV5.out g hg).imp id (fun h => Nat.le_trans HLT.out h)))
        have HV7 : Hid (∀ g, vL2.ownBlock = some g → vL.ownBlock = some g ∨ w.heap.size ≤ g) := Lib.hid (fun g hg => by
          have hs := (HM6.out).size
          rcases hv7 g hg with h | h
          · exact (HV5.out g h).imp id (fun h => Nat.le_trans HLT.out h)
          · exact .inr (Nat.le_trans hs h))
        clear h7 hm7 hv7
        go_wp2_with fail
        first
          | go_end0
          | refine bodyPost_ret (results_none rfl _ _ _) rfl ?_
        exact ⟨K2, left2, bad2, vL2, top, rfl, H7.out, HM7.out, HV7.out, Lib.hid ((GoD.two HG5.out hg7.out (fun e => by cases e) (fun _ => HOU.out)))⟩
      · have hb0 : ((f : Int) == 0) = false := by rw [beq_eq_false_iff_ne]; omega
        have HOU : Hid (goTo nA (outs K f g at_ x s) K left = none) := Lib.hid (by rw [outs23 HO.out, if_neg hf]; rfl)
        clear hf
        go_upto_region 57 with fail
        have hms : Mods (fun g => g = ob) w1 (w1.setCell ⟨ob, 8, none⟩ (.bool true)) := Mods.set _ _ _ _
        have hd1 := Lib.hid (H1.out.mark true (grown_setCell _ _ _ _) (H1.out.row.set 8 (.bool true)))
        have hd2 := Lib.hid (HT1.out.mods (B' := vL.ownBlock) H1.out.up.2 hms (fun g g1 _ _ e => by have := H1.out.obk; omega) (fun g hg => .inl hg))
        have hd3 : Hid (Mods (WkP ob ba vL) w (w1.setCell ⟨ob, 8, none⟩ (.bool true))) := Lib.hid (HM1.out.trans (hms.mono fun g e => .inl e))
        have hd4 := Lib.hid (HRX.out.mods hms (by have := HKB.out; omega))
        have hd5 := Lib.hid (HRB.out.mods hms (by have := HKB.out; omega))
        have hd6 : Hid (kb < (w1.setCell ⟨ob, 8, none⟩ (.bool true)).heap.size ∧ kx < (w1.setCell ⟨ob, 8, none⟩ (.bool true)).heap.size) := Lib.hid (by have := hms.size; have := HSZ.out; omega)
        clear x1 x2 x3 s0 s1 s2 k8 z8 hms
        obtain ⟨wd, hwd⟩ : ∃ y, y = w1.setCell ⟨ob, 8, none⟩ (.bool true) := ⟨_, rfl⟩
        rw [← hwd] at hd1 hd2 hd3 hd4 hd5 hd6 ⊢
        clear hwd H1 HT1 HM1 HRX HRB HSZ
        obtain ⟨w1, hw1⟩ : ∃ y, y = wd := ⟨_, rfl⟩
        rw [← hw1] at hd1 hd2 hd3 hd4 hd5 hd6 ⊢
        clear hw1 wd
        have H1 := hd1
        have HT1 := hd2
        have HM1 := hd3
        have HRX := hd4
        have HRB := hd5
        have HSZ := hd6
        clear hd1 hd2 hd3 hd4 hd5 hd6
        have x1 : (w1).cell? ⟨kx, 1, none⟩ = some (.int .i64 x.a) := HRX.out.cell 1
        have x2 : (w1).cell? ⟨kx, 2, none⟩ = some (.int .i64 x.b) := HRX.out.cell 2
        have x3 : (w1).cell? ⟨kx, 3, none⟩ = some (.int .i64 x.c) := HRX.out.cell 3
        have s0 : (w1).cell? ⟨kb, 0, none⟩ = some (.bool true) := HRB.out.cell 0
        have s1 : (w1).cell? ⟨kb, 1, none⟩ = some (.int .i64 s.1) := HRB.out.cell 1
        have s2 : (w1).cell? ⟨kb, 2, none⟩ = some (.slice (adrOf aT) nT cT) := HRB.out.cell 2
        have k8 := H1.out.cells.2.2.2
        have z8 := H1.out.row.free 8
        go_wp2_with fail
        refine (dto_p w0 ob ba oa base top f _ _ g nA w1 vL K left true H1.out hlen (Nat.le_trans H.out.lft (by decide)) ((at_ : Int) + 1) true s aT nT cT HT1.out).mono ?_
        rintro e w5 ⟨K', left', bad', vL', rfl, h5, hm5, hv5, hg5⟩
        have H5 := Lib.hid h5
        have HT5 := Lib.hid (FlS.past H1.out HT1.out hm5 hv5)
        have HM5 := Lib.hid (HM1.out.trans hm5)
        have HV5 : Hid (∀ g, vL'.ownBlock = some g → vL.ownBlock = some g ∨ w1.heap.size ≤ g) := Lib.hid hv5
        have HLT : Hid (w.heap.size ≤ w1.heap.size) := Lib.hid HM1.out.size
        have HX5 := Lib.hid (HRX.out.mods hm5 HKW.out.2)
        have HB5 := Lib.hid (HRB.out.mods hm5 HKW.out.1)
        have HG5 := hg5
        clear x1 x2 x3 s0 s1 s2 k8 z8 h5 hm5 hv5 hg5 HT1 HM1 HRX HRB
        have t1 : w5.cell? ⟨kb, 1, none⟩ = some (.int .i64 s.1) := HB5.out.cell 1
        have t2 := HB5.out.free 1
        go_upto_region 59 with fail
        have hms : Mods (fun g => g = kb) w5 (w5.setCell ⟨kb, 1, none⟩ (.int .i64 (s.1 + 1))) := Mods.set _ _ _ _
        have hno : ∀ g, (fun g => g = kb) g → top ≤ g ∧ vL'.ownBlock ≠ some g := fun g hg => by
          have h1 := H.out.fl.up
          have h2 := HKB.out
          refine ⟨by omega, fun e => ?_⟩
          rcases HV5.out g e with h | h
          · have := H.out.fl.lft.lives g h; omega
          · have := HSZ.out; omega
        have h6 := Lib.hid (H5.out.mods hms hno)
        have ht6 := Lib.hid (HT5.out.mods (B' := vL'.ownBlock) H5.out.up.2 hms (fun g g1 g2 _ e => by have := (hno g e).1; omega) (fun g hg => .inl hg))
        have hm6 : Hid (Mods (WkP ob ba vL) w (w5.setCell ⟨kb, 1, none⟩ (.int .i64 (s.1 + 1)))) := Lib.hid (HM5.out.after hms (fun g e => .inr (by have := HKB.out; omega)))
        have hb6 := Lib.hid (HB5.out.set 1 (.int .i64 (s.1 + 1)))
        have hx6 := Lib.hid (HX5.out.mods hms (by have := HKB.out; omega))
        clear t1 t2 hms hno
        obtain ⟨w6, hw6⟩ : ∃ y, y = w5.setCell ⟨kb, 1, none⟩ (.int .i64 (s.1 + 1)) := ⟨_, rfl⟩
        rw [← hw6] at h6 ht6 hm6 hb6 hx6 ⊢
        clear hw6 HT5 H5 HB5 HX5 HM5
        have H6 := h6
        have HT6 := ht6
        have HM6 := hm6
        have y1 : w6.cell? ⟨kx, 1, none⟩ = some (.int .i64 x.a) := hx6.out.cell 1
        have y2 : w6.cell? ⟨kx, 2, none⟩ = some (.int .i64 x.b) := hx6.out.cell 2
        have t0 : w6.cell? ⟨kb, 0, none⟩ = some (.bool true) := hb6.out.cell 0
        have t1 : w6.cell? ⟨kb, 1, none⟩ = some (.int .i64 (s.1 + 1)) := hb6.out.cell 1
        have t2 : w6.cell? ⟨kb, 2, none⟩ = some (.slice (adrOf aT) nT cT) := hb6.out.cell 2
        have k8 := H6.out.cells.2.2.2
        clear h6 ht6 hm6 hb6 hx6
        go_wp2_with fail
        refine (dto_p w0 ob ba oa base top f _ _ g nA w6 vL' K' left' bad' H6.out hlen (by have := HG5.out.2.2.2; have := H.out.lft; omega) (x.b) true (s.1 + 1, s.2) aT nT cT HT6.out).mono ?_
        rintro e w7 ⟨K2, left2, bad2, vL2, rfl, h7, hm7, hv7, hg7⟩
        have H7 := Lib.hid h7
        have HM7 : Hid (Mods (WkP ob ba vL) w w7) := Lib.hid ((HM6.out).after hm7 (fun g hg => (WkP.past HV5.out g hg).imp id (fun h => Nat.le_trans HLT.out h)))
        have HV7 : Hid (∀ g, vL2.ownBlock = some g → vL.ownBlock = some g ∨ w.heap.size ≤ g) := Lib.hid (fun g hg => by
          have hs := (HM6.out).size
          rcases hv7 g hg with h | h
          · exact (HV5.out g h).imp id (fun h => Nat.le_trans HLT.out h)
          · exact .inr (Nat.le_trans hs h))
        clear h7 hm7 hv7
        go_wp2_with fail
        first
          | go_end0
          | refine bodyPost_ret (results_none rfl _ _ _) rfl ?_
        exact ⟨K2, left2, bad2, vL2, top, rfl, H7.out, HM7.out, HV7.out, Lib.hid ((GoD.two HG5.out hg7.out (fun _ => HOU.out) (fun e => by cases e)))⟩
  have b23 : ((o : Int) == 23) = false := by rw [beq_eq_false_iff_ne]; omega
  go_upto_region 60 with fail
  clear b23
  by_cases h24 : o = 24
  · as_aux_lemma =>
      subst h24
      by_cases hf : f = 0
      · have hb0 : ((f : Int) == 0) = true := by rw [hf]; rfl
        have HOU : Hid (outs K f g at_ x s = onV K f at_ s 1 1) := Lib.hid ((outs24 HO.out).trans (if_pos hf))
        clear hf
        go_upto_region 62 with fail
        have hms : Mods (fun g => g = ob) w1 (w1.setCell ⟨ob, 8, none⟩ (.bool false)) := Mods.set _ _ _ _
        have hd1 := Lib.hid (H1.out.mark false (grown_setCell _ _ _ _) (H1.out.row.set 8 (.bool false)))
        have hd2 := Lib.hid (HT1.out.mods (B' := vL.ownBlock) H1.out.up.2 hms (fun g g1 _ _ e => by have := H1.out.obk; omega) (fun g hg => .inl hg))
        have hd3 : Hid (Mods (WkP ob ba vL) w (w1.setCell ⟨ob, 8, none⟩ (.bool false))) := Lib.hid (HM1.out.trans (hms.mono fun g e => .inl e))
        have hd4 := Lib.hid (HRX.out.mods hms (by have := HKB.out; omega))
        have hd5 := Lib.hid (HRB.out.mods hms (by have := HKB.out; omega))
        have hd6 : Hid (kb < (w1.setCell ⟨ob, 8, none⟩ (.bool false)).heap.size ∧ kx < (w1.setCell ⟨ob, 8, none⟩ (.bool false)).heap.size) := Lib.hid (by have := hms.size; have := HSZ.out; omega)
        clear x1 x2 x3 s0 s1 s2 k8 z8 hms
        obtain ⟨wd, hwd⟩ : ∃ y, y = w1.setCell ⟨ob, 8, none⟩ (.bool false) := ⟨_, rfl⟩
        rw [← hwd] at hd1 hd2 hd3 hd4 hd5 hd6 ⊢
        clear hwd H1 HT1 HM1 HRX HRB HSZ
        obtain ⟨w1, hw1⟩ : ∃ y, y = wd := ⟨_, rfl⟩
        rw [← hw1] at hd1 hd2 hd3 hd4 hd5 hd6 ⊢
        clear hw1 wd
        have H1 := hd1
        have HT1 := hd2
        have HM1 := hd3
        have HRX := hd4
        have HRB := hd5
        have HSZ := hd6
        clear hd1 hd2 hd3 hd4 hd5 hd6
        have x1 : (w1).cell? ⟨kx, 1, none⟩ = some (.int .i64 x.a) := HRX.out.cell 1
        have x2 : (w1).cell? ⟨kx, 2, none⟩ = some (.int .i64 x.b) := HRX.out.cell 2
        have x3 : (w1).cell? ⟨kx, 3, none⟩ = some (.int .i64 x.c) := HRX.out.cell 3
        have s0 : (w1).cell? ⟨kb, 0, none⟩ = some (.bool true) := HRB.out.cell 0
        have s1 : (w1).cell? ⟨kb, 1, none⟩ = some (.int .i64 s.1) := HRB.out.cell 1
        have s2 : (w1).cell? ⟨kb, 2, none⟩ = some (.slice (adrOf aT) nT cT) := HRB.out.cell 2
        have k8 := H1.out.cells.2.2.2
        have z8 := H1.out.row.free 8
        go_wp2_with fail
        refine (don_p w0 ob ba oa base top f _ _ g nA w1 vL K left false H1.out hlen (Nat.le_trans H.out.lft (by decide)) at_ (by omega) true s aT nT cT HT1.out H.out.ok hh0 (by omega) 1 1 (by decide) (by decide) (by decide) (by decide)).mono ?_
        rintro e w5 ⟨K', left', bad', vL', rfl, h5, hm5, hv5, hg5⟩
        have H5 := Lib.hid h5
        have HM5 := Lib.hid hm5
        have HV5 := Lib.hid hv5
        clear h5 hm5 hv5
        go_wp2_with fail
        first
          | go_end0
          | refine bodyPost_ret (results_none rfl _ _ _) rfl ?_
        exact ⟨K', left', bad', vL', top, rfl, H5.out, HM1.out.trans HM5.out, fun g hg => (HV5.out g hg).imp id (fun h => Nat.le_trans HM1.out.size h), Lib.hid ((GoD.one (by rw [HOU.out]; exact hg5.out)))⟩
      · have HOU : Hid (outs K f g at_ x s = none) := Lib.hid ((outs24 HO.out).trans (if_neg hf))
        have hb0 : ((f : Int) == 0) = false := by rw [beq_eq_false_iff_ne]; omega
        clear hf
        go_upto_region 62 with fail
        have hms : Mods (fun g => g = ob) w1 (w1.setCell ⟨ob, 8, none⟩ (.bool true)) := Mods.set _ _ _ _
        have hd1 := Lib.hid (H1.out.mark true (grown_setCell _ _ _ _) (H1.out.row.set 8 (.bool true)))
        have hd2 := Lib.hid (HT1.out.mods (B' := vL.ownBlock) H1.out.up.2 hms (fun g g1 _ _ e => by have := H1.out.obk; omega) (fun g hg => .inl hg))
        have hd3 : Hid (Mods (WkP ob ba vL) w (w1.setCell ⟨ob, 8, none⟩ (.bool true))) := Lib.hid (HM1.out.trans (hms.mono fun g e => .inl e))
        have hd4 := Lib.hid (HRX.out.mods hms (by have := HKB.out; omega))
        have hd5 := Lib.hid (HRB.out.mods hms (by have := HKB.out; omega))
        have hd6 : Hid (kb < (w1.setCell ⟨ob, 8, none⟩ (.bool true)).heap.size ∧ kx < (w1.setCell ⟨ob, 8, none⟩ (.bool true)).heap.size) := Lib.hid (by have := hms.size; have := HSZ.out; omega)
        clear x1 x2 x3 s0 s1 s2 k8 z8 hms
        obtain ⟨wd, hwd⟩ : ∃ y, y = w1.setCell ⟨ob, 8, none⟩ (.bool true) := ⟨_, rfl⟩
        rw [← hwd] at hd1 hd2 hd3 hd4 hd5 hd6 ⊢
        clear hwd H1 HT1 HM1 HRX HRB HSZ
        obtain ⟨w1, hw1⟩ : ∃ y, y = wd := ⟨_, rfl⟩
        rw [← hw1] at hd1 hd2 hd3 hd4 hd5 hd6 ⊢
        clear hw1 wd
        have H1 := hd1
        have HT1 := hd2
        have HM1 := hd3
        have HRX := hd4
        have HRB := hd5
        have HSZ := hd6
        clear hd1 hd2 hd3 hd4 hd5 hd6
        have x1 : (w1).cell? ⟨kx, 1, none⟩ = some (.int .i64 x.a) := HRX.out.cell 1
        have x2 : (w1).cell? ⟨kx, 2, none⟩ = some (.int .i64 x.b) := HRX.out.cell 2
        have x3 : (w1).cell? ⟨kx, 3, none⟩ = some (.int .i64 x.c) := HRX.out.cell 3
        have s0 : (w1).cell? ⟨kb, 0, none⟩ = some (.bool true) := HRB.out.cell 0
        have s1 : (w1).cell? ⟨kb, 1, none⟩ = some (.int .i64 s.1) := HRB.out.cell 1
        have s2 : (w1).cell? ⟨kb, 2, none⟩ = some (.slice (adrOf aT) nT cT) := HRB.out.cell 2
        have k8 := H1.out.cells.2.2.2
        have z8 := H1.out.row.free 8
        go_wp2_with fail
        refine (don_p w0 ob ba oa base top f _ _ g nA w1 vL K left true H1.out hlen (Nat.le_trans H.out.lft (by decide)) at_ (by omega) true s aT nT cT HT1.out H.out.ok hh0 (by omega) 1 1 (by decide) (by decide) (by decide) (by decide)).mono ?_
        rintro e w5 ⟨K', left', bad', vL', rfl, h5, hm5, hv5, hg5⟩
        have H5 := Lib.hid h5
        have HM5 := Lib.hid hm5
        have HV5 := Lib.hid hv5
        clear h5 hm5 hv5
        go_wp2_with fail
        first
          | go_end0
          | refine bodyPost_ret (results_none rfl _ _ _) rfl ?_
        exact ⟨K', left', bad', vL', top, rfl, H5.out, HM1.out.trans HM5.out, fun g hg => (HV5.out g hg).imp id (fun h => Nat.le_trans HM1.out.size h), Lib.hid ((GoD.spoilt hg5.out (by rw [HOU.out]; rfl)))⟩
  have b24 : ((o : Int) == 24) = false := by rw [beq_eq_false_iff_ne]; omega
  go_upto_region 63 with fail
  clear b24
  obtain rfl : o = 25 := by omega
  as_aux_lemma =>
    by_cases hf : f = 0
    · have hb0 : ((f : Int) == 0) = true := by rw [hf]; rfl
      by_cases hT0 : s.2 = []
      · have HOU : Hid (outs K f g at_ x s = some []) := Lib.hid ((outs25 HO.out).trans (if_pos ⟨hf, hT0⟩))
        have hn0 : nT = 0 := by rw [HNT.out, hT0]; rfl
        clear hT0 hf
        subst hn0
        go_wp2_with fail
        first
          | go_end0
          | refine bodyPost_ret (results_none rfl _ _ _) rfl ?_
        exact ⟨K, left, false, vL, top, rfl, H1.out.mark false (grown_setCell _ _ _ _) (H1.out.row.set 8 (.bool false)), HM1.out.trans ((Mods.set _ _ _ _).mono fun g e => .inl e), fun g hg => .inl hg, Lib.hid ((GoE.good (by rw [HOU.out]; rfl)))⟩
      · have HOU : Hid (outs K f g at_ x s = none) := Lib.hid ((outs25 HO.out).trans (if_neg (fun h => hT0 h.2)))
        have hn0 : 0 < nT := Nat.pos_of_ne_zero fun e => hT0 (List.eq_nil_of_length_eq_zero (HNT.out.symm.trans e))
        clear hT0 hf
        go_wp2_with fail
        try rw [decide_eq_true hn0]
        first
          | go_end0
          | refine bodyPost_ret (results_none rfl _ _ _) rfl ?_
        exact ⟨K, left, true, vL, top, rfl, H1.out.mark true (grown_setCell _ _ _ _) (H1.out.row.set 8 (.bool true)), HM1.out.trans ((Mods.set _ _ _ _).mono fun g e => .inl e), fun g hg => .inl hg, Lib.hid ((GoE.bad (by rw [HOU.out]; rfl)))⟩
    · have HOU : Hid (outs K f g at_ x s = none) := Lib.hid ((outs25 HO.out).trans (if_neg (fun h => hf h.1)))
      have hb0 : ((f : Int) == 0) = false := by rw [beq_eq_false_iff_ne]; omega
      clear hf
      go_wp2_with fail
      first
        | go_end0
        | refine bodyPost_ret (results_none rfl _ _ _) rfl ?_
      exact ⟨K, left, true, vL, top, rfl, H1.out.mark true (grown_setCell _ _ _ _) (H1.out.row.set 8 (.bool true)), HM1.out.trans ((Mods.set _ _ _ _).mono fun g e => .inl e), fun g hg => .inl hg, Lib.hid ((GoE.bad (by rw [HOU.out]; rfl)))⟩
end Go.Proofs.YtoddklfblcfoiaaDoor
