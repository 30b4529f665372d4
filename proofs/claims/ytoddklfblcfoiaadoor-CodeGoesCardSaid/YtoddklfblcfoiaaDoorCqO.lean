/-
  The law's machine, walked: one instruction more. Condition: within a machine's reach; the code may be run.
-/
import Derived.Test.YtoddklfblcfoiaaDoorCqN
import Derived.Test.YtoddklfblcfoiaaDoorCoL
namespace Go.Proofs.YtoddklfblcfoiaaDoor
open Go Go.RowKit
set_option linter.unusedVariables false
set_option linter.unusedSimpArgs false
set_option maxRecDepth 100000

theorem field_b (g : Ins) (wx : World) : (Instr.field 46 (.agg #[.int .u8 (g.op.toNat : Int), .int .i64 g.a, .int .i64 g.b, .int .i64 g.c, .string (str g.t)]) 2).run Tryd.prog wx = .ok (.int .i64 g.b) wx := by kernel_rfl
theorem field_c (g : Ins) (wx : World) : (Instr.field 46 (.agg #[.int .u8 (g.op.toNat : Int), .int .i64 g.a, .int .i64 g.b, .int .i64 g.c, .string (str g.t)]) 3).run Tryd.prog wx = .ok (.int .i64 g.c) wx := by kernel_rfl
theorem some_wrong {first tk : Int} {way : Nat} {m : Ms} (h : (someM first tk way m).wrong = false) : m.wrong = false ∧ lowM first m.T ≤ m.h - tk := by
  unfold someM at h
  simp only at h
  split at h
  · exact on_wrong (pt := 1) (raise_wrong (m := ⟨(onM first tk 1 m).at_, (onM first tk 1 m).h - 1, (onM first tk 1 m).T, (onM first tk 1 m).wrong, (onM first tk 1 m).done⟩) h)
  · exact on_wrong h
theorem bad_wrong {b : Bool} {m : Ms} (h : (badM b m).wrong = false) : b = false := (Bool.or_eq_false_iff.1 h).2
def RtW (v : Value) (w w' : World) : Prop := Mods (fun g => v.ownBlock = some g) w w'
theorem RtW_refl (v : Value) (w : World) : RtW v w w := Mods.refl _ _
theorem RtW_trans (v : Value) (x y z : World) (h : RtW v x y) (k : RtW v y z) : RtW v x z := Mods.trans h k
instance laterRtW (v : Value) (w : World) : Nonempty (Later (RtW v) w) := nonemptyLater (RtW_refl v) w
theorem laterT_cell {v : Value} {w : World} {b o : Nat} {u : Value} (h : w.cell? ⟨b, o, none⟩ = some u) (hb : v.ownBlock ≠ some b) : ∀ x : Later (RtW v) w.drew, x.w.cell? ⟨b, o, none⟩ = some u :=
  fun x => Mods.cell (P := fun g => v.ownBlock = some g) x.later h hb
/-- what the machine goes by -/
structure NxH (W : World) (aF : Option Addr) (nF kF : Nat) (aR : Option Addr) (nR kR : Nat) (c : Cod) (f : Nat) (l : List Ins) (first : Int) (g : Ins) (aw : Option Addr) (nw cw : Nat) (ws : List UInt8) (step : Nat) (m : Ms) (p : Nat) (x : Ins) (z : Int) : Prop where
  cod : CodM W (.slice aF nF kF) (.slice aR nR kR) c
  fl : c.f[f]? = some l
  lx : l[p]? = some x
  at_ : m.at_ = p
  wr : m.wrong = false
  dn : m.done = false
  ws : Sl W 1 (.slice aw nw cw) nw (bvs ws)
  grp : g = grpOf c.f.flatten f
  bn : MBn z m
  z0 : z ≤ 100000000
  nF0 : nF ≤ 65536
  nR0 : nR ≤ 65536
  nF1 : nF = c.f.length
  nR1 : nR = c.r.length
  st : step ≤ 100000000
  hlen : ∀ l ∈ c.f, l.length ≤ 1000000
  hop : OpsAll c
  first0 : 0 ≤ first
  nx : ∀ way, (nextM f nR first g way x m).wrong = false
def NxR (W : World) (ob : Nat) (vF vR : Value) (f nR : Nat) (first : Int) (g : Ins) (aw : Option Addr) (nw cw step : Nat) (x : Ins) (m : Ms) (e : Ending) (w' : World) : Prop :=
  ∃ tv way, e = .returned (.tuple #[]) ∧ MS W ob vF vR f first aw nw cw step (nextM f nR first g way x m) tv w'
set_option maxHeartbeats 16000000 in
theorem mnext_p (W : World) (ob : Nat) (aF : Option Addr) (nF kF : Nat) (aR : Option Addr) (nR kR : Nat) (c : Cod) (f : Nat) (l : List Ins) (first : Int) (g : Ins) (aw : Option Addr) (nw cw : Nat) (ws : List UInt8) (step : Nat) (m : Ms) (p : Nat) (x : Ins) (z : Int) (tv : Value) (w : World) (h : MS W ob (.slice aF nF kF) (.slice aR nR kR) f first aw nw cw step m tv w) (hn : NxH W aF nF kF aR nR kR c f l first g aw nw cw ws step m p x z) :
    Calls Tryd.prog 24 #[.pointer (some ⟨ob, 0, none⟩)] w fun e w' => NxR W ob (.slice aF nF kF) (.slice aR nR kR) f nR first g aw nw cw (step + 1) x m e w' := by
  obtain ⟨at_, hg, T, wr0, dn⟩ := m
  have ha := hn.at_
  have hw := hn.wr
  have hd := hn.dn
  simp only at ha hw hd
  subst ha hw hd
  have HN := Lib.hid hn
  have hg0 : 0 ≤ hg := hn.bn.h0
  have hg1 : hg ≤ 100000000 := by have h1 := hn.bn.h1; have h2 := hn.z0; simp only at h1; omega
  have hT9 : T.length ≤ 1000000000 := by have h1 := hn.bn.len; have h2 := hn.z0; simp only at h1; omega
  have hst := hn.st
  have hnR := hn.nR0
  have hpl : p < l.length := (List.getElem?_eq_some_iff.1 hn.lx).1
  have hl9 := hn.hlen l (List.mem_of_getElem? hn.fl)
  have hp9 : p < 1000000 := by omega
  have hmv := op_moves (hn.hop l (List.mem_of_getElem? hn.fl) x (List.mem_of_getElem? hn.lx)) (by rw [← hn.nF1]; exact hn.nF0)
  have hor := op_range (hn.hop l (List.mem_of_getElem? hn.fl) x (List.mem_of_getElem? hn.lx))
  obtain ⟨hm1, hm2, hm3, hm4⟩ := hmv
  have hfl := hn.fl
  obtain ⟨gF, oF, aL, cL, rfl, hcell, hsl⟩ := (hn.cod.below h.bel).fun_at f l hfl
  have hxx := hn.lx
  obtain ⟨b5, o5, y, rfl, hy, hc5⟩ := hsl.elem insC insC_len (by decide) p hpl
  rw [hxx] at hy
  cases hy
  have d0 := hc5 0 _ rfl
  have d1 := hc5 1 _ rfl
  have d2 := hc5 2 _ rfl
  have d3 := hc5 3 _ rfl
  have d4 := hc5 4 _ rfl
  simp only [Nat.add_zero] at d0
  have HH := Lib.hid h
  obtain ⟨nL, hnL⟩ : ∃ y, y = l.length := ⟨_, rfl⟩
  have HNL := Lib.hid hnL
  rw [← hnL] at hcell hpl hl9
  have hplt : (p : Int) < nL := by omega
  have hff : f < nF := by rw [hn.nF1]; exact (List.getElem?_eq_some_iff.1 hfl).1
  have hff' : (f : Int) < nF := by omega
  have hp0 : ¬ (p : Int) < 0 := by omega
  have hpn : ¬ (nL : Int) ≤ p := by omega
  have c0 : w.cell? ⟨ob, 0, none⟩ = some (.slice (some ⟨gF, oF, none⟩) nF kF) := h.row.cell 0
  have c2 : w.cell? ⟨ob, 2, none⟩ = some (.int .i64 (f : Nat)) := h.row.cell 2
  have c4 : w.cell? ⟨ob, 4, none⟩ = some (.int .i64 (p : Nat)) := h.row.cell 4
  have c8 : w.cell? ⟨ob, 8, none⟩ = some (.int .i64 (step : Nat)) := h.row.cell 8
  clear h hn hfl hxx hsl hc5 hnL
  go_enter Tryd.func24, Tryd.ntmps24
  go_upto_region 0 with fail
  go_quiet (fail)
  have hbd : Below w.heap.size w (w.drewN nq) := below_drewN (Below.refl _ _) nq
  obtain ⟨wd, hwd⟩ : ∃ y, y = w.drewN nq := ⟨_, rfl⟩
  rw [← hwd] at hbd ⊢
  clear hwd
  have HHd := Lib.hid (HH.out.fresh hbd)
  have c4 : wd.cell? ⟨ob, 4, none⟩ = some (.int .i64 (p : Nat)) := HHd.out.row.cell 4
  have c8 : wd.cell? ⟨ob, 8, none⟩ = some (.int .i64 (step : Nat)) := HHd.out.row.cell 8
  have d0 := (hbd.cell (lt_of_cell d0)).trans d0
  have d1 := (hbd.cell (lt_of_cell d1)).trans d1
  have d2 := (hbd.cell (lt_of_cell d2)).trans d2
  have d3 := (hbd.cell (lt_of_cell d3)).trans d3
  have d4 := (hbd.cell (lt_of_cell d4)).trans d4
  clear c0 c2 hcell HH hbd
  go_upto_region 4 with fail
  obtain ⟨w1, hw1⟩ : ∃ y, y = wd.alloc (.cells #[.int .u8 (x.op.toNat : Int), .int .i64 x.a, .int .i64 x.b, .int .i64 x.c, .string (str x.t)] 46) := ⟨_, rfl⟩
  have hb1 : Below wd.heap.size wd w1 := by rw [hw1]; exact (Below.refl _ _).alloc (Nat.le_refl _) _
  obtain ⟨kx, hkx⟩ : ∃ y, y = wd.heap.size := ⟨_, rfl⟩
  have HX1 : Hid (Row w1 kx 46 (insC x)) := Lib.hid (by rw [hw1, hkx]; exact Row.new wd _ _)
  have HKX : Hid (ob < kx) := Lib.hid (by rw [hkx]; exact HHd.out.row.lt)
  have HKB0 : Hid (tv.ownBlock ≠ some kx) := Lib.hid (fun e => by have := HHd.out.own.lives kx e; omega)
  rw [← hw1, ← hkx]
  have HH1 := Lib.hid (HHd.out.fresh hb1)
  clear hw1 hkx hb1 HHd c4 c8 d0 d1 d2 d3 d4
  have c8 : w1.cell? ⟨ob, 8, none⟩ = some (.int .i64 (step : Nat)) := HH1.out.row.cell 8
  have hr := HH1.out.row
  go_upto_region 5 with (refine wpL_storeAt rfl _ _ _ rfl rfl rfl rfl rfl (by kernel_rfl) hr rfl ?_; intro w4 hg4 hr4)
  clear c8 hr
  have HH4 : Hid (MS W ob (.slice (some ⟨gF, oF, none⟩) nF kF) (.slice aR nR kR) f first aw nw cw (step + 1) ⟨p, hg, T, false, false⟩ tv w4) := Lib.hid (HH1.out.put hg4 hr4 rfl)
  have HX4 : Hid (Row w4 kx 46 (insC x)) := Lib.hid (HX1.out.grown hg4 (fun e => by have := Option.some.inj e; have := HKX.out; omega))
  clear hg4 hr4 HH1 HX1
  have e0 : w4.cell? ⟨kx, 0, none⟩ = some (.int .u8 (x.op.toNat : Int)) := HX4.out.cell 0
  obtain ⟨o, ho⟩ : ∃ y, y = x.op.toNat := ⟨_, rfl⟩
  have HO : Hid (x.op.toNat = o) := Lib.hid ho.symm
  rw [← ho] at e0 hor
  clear ho
  have e1 : w4.cell? ⟨kx, 1, none⟩ = some (.int .i64 x.a) := HX4.out.cell 1
  have e2 : w4.cell? ⟨kx, 2, none⟩ = some (.int .i64 x.b) := HX4.out.cell 2
  have e3 : w4.cell? ⟨kx, 3, none⟩ = some (.int .i64 x.c) := HX4.out.cell 3
  have hcs : o = 1 ∨ o = 2 ∨ o = 3 ∨ o = 4 ∨ o = 5 ∨ o = 6 ∨ o = 7 ∨ o = 8 ∨ o = 9 ∨ o = 10 ∨ o = 11 ∨ o = 12 ∨ o = 13 ∨ o = 14 ∨ o = 15 ∨ o = 16 ∨ o = 17 ∨ o = 18 ∨ o = 19 ∨ o = 20 ∨ o = 21 ∨ o = 22 ∨ o = 23 ∨ o = 24 ∨ o = 25 := by omega
  clear hor
  rcases hcs with rfl | rfl | rfl | rfl | rfl | rfl | rfl | rfl | rfl | rfl | rfl | rfl | rfl | rfl | rfl | rfl | rfl | rfl | rfl | rfl | rfl | rfl | rfl | rfl | rfl
  · as_aux_lemma =>
      have HNX : Hid (nextM f nR first g 0 x ⟨p, hg, T, false, false⟩ = onM first (0 : Int) (1 : Int) ⟨p, hg, T, false, false⟩) := Lib.hid (by unfold nextM movesV; simp [HO.out])
      have HLE : Hid (lowM first T ≤ hg - (0 : Int)) := Lib.hid (by have h1 := HN.out.nx 0; rw [HNX.out] at h1; exact (on_wrong h1).2)
      have hon := mon_p W ob _ _ f first aw nw cw (step + 1) ⟨p, hg, T, false, false⟩ tv w4 HH4.out hT9 (0 : Int) (1 : Int) hg0 (by simp only; omega) (by simp only; omega) (by simp only; omega) (by first | omega | (have hmv2 : movesV x = ((0 : Int), (1 : Int)) := (by unfold movesV; simp [HO.out]); rw [hmv2] at hm1 hm2 hm3 hm4; simp only at hm1 hm2 hm3 hm4; omega)) (by first | omega | (have hmv2 : movesV x = ((0 : Int), (1 : Int)) := (by unfold movesV; simp [HO.out]); rw [hmv2] at hm1 hm2 hm3 hm4; simp only at hm1 hm2 hm3 hm4; omega)) (by first | omega | (have hmv2 : movesV x = ((0 : Int), (1 : Int)) := (by unfold movesV; simp [HO.out]); rw [hmv2] at hm1 hm2 hm3 hm4; simp only at hm1 hm2 hm3 hm4; omega)) (by first | omega | (have hmv2 : movesV x = ((0 : Int), (1 : Int)) := (by unfold movesV; simp [HO.out]); rw [hmv2] at hm1 hm2 hm3 hm4; simp only at hm1 hm2 hm3 hm4; omega)) HLE
      go_wp2_with fail
      refine hon.mono ?_
      rintro e w5 ⟨tv5, rfl, hs5, hm5⟩
      clear hon
      have HS5 := Lib.hid hs5
      clear hs5 hm5
      go_wp2_with fail
      first
        | go_end0
        | refine bodyPost_ret (results_none rfl _ _ _) rfl ?_
      exact ⟨tv5, 0, rfl, by rw [HNX.out]; exact HS5.out⟩
  · as_aux_lemma =>
      have HNX : Hid (nextM f nR first g 0 x ⟨p, hg, T, false, false⟩ = onM first (0 : Int) (1 : Int) ⟨p, hg, T, false, false⟩) := Lib.hid (by unfold nextM movesV; simp [HO.out])
      have HLE : Hid (lowM first T ≤ hg - (0 : Int)) := Lib.hid (by have h1 := HN.out.nx 0; rw [HNX.out] at h1; exact (on_wrong h1).2)
      have hon := mon_p W ob _ _ f first aw nw cw (step + 1) ⟨p, hg, T, false, false⟩ tv w4 HH4.out hT9 (0 : Int) (1 : Int) hg0 (by simp only; omega) (by simp only; omega) (by simp only; omega) (by first | omega | (have hmv2 : movesV x = ((0 : Int), (1 : Int)) := (by unfold movesV; simp [HO.out]); rw [hmv2] at hm1 hm2 hm3 hm4; simp only at hm1 hm2 hm3 hm4; omega)) (by first | omega | (have hmv2 : movesV x = ((0 : Int), (1 : Int)) := (by unfold movesV; simp [HO.out]); rw [hmv2] at hm1 hm2 hm3 hm4; simp only at hm1 hm2 hm3 hm4; omega)) (by first | omega | (have hmv2 : movesV x = ((0 : Int), (1 : Int)) := (by unfold movesV; simp [HO.out]); rw [hmv2] at hm1 hm2 hm3 hm4; simp only at hm1 hm2 hm3 hm4; omega)) (by first | omega | (have hmv2 : movesV x = ((0 : Int), (1 : Int)) := (by unfold movesV; simp [HO.out]); rw [hmv2] at hm1 hm2 hm3 hm4; simp only at hm1 hm2 hm3 hm4; omega)) HLE
      go_wp2_with fail
      refine hon.mono ?_
      rintro e w5 ⟨tv5, rfl, hs5, hm5⟩
      clear hon
      have HS5 := Lib.hid hs5
      clear hs5 hm5
      go_wp2_with fail
      first
        | go_end0
        | refine bodyPost_ret (results_none rfl _ _ _) rfl ?_
      exact ⟨tv5, 0, rfl, by rw [HNX.out]; exact HS5.out⟩
  · as_aux_lemma =>
      have HNX0 : Hid (nextM f nR first g 0 x ⟨p, hg, T, false, false⟩ = onM first 0 1 (badM (decide (hg ≤ x.a)) ⟨p, hg, T, false, false⟩)) := Lib.hid (by unfold nextM; simp [HO.out])
      have hbad : decide (hg ≤ x.a) = false := (by have h1 := HN.out.nx 0; rw [HNX0.out] at h1; have h2 := (on_wrong h1).1; simpa [badM] using h2)
      have HNX : Hid (nextM f nR first g 0 x ⟨p, hg, T, false, false⟩ = onM first (0 : Int) (1 : Int) ⟨p, hg, T, false, false⟩) := Lib.hid (by rw [HNX0.out, hbad, no_bad])
      have hlt : ¬ hg ≤ x.a := of_decide_eq_false hbad
      have q9 := later_cell (show w4.cell? ⟨ob, 9, none⟩ = some (.bool false) from HH4.out.row.cell 9)
      have q5 := later_cell (show w4.cell? ⟨ob, 5, none⟩ = some (.int .i64 hg) from HH4.out.row.cell 5)
      have q2 := later_cell (show w4.cell? ⟨ob, 2, none⟩ = some (.int .i64 (f : Nat)) from HH4.out.row.cell 2)
      have q1 := later_cell (show w4.cell? ⟨ob, 1, none⟩ = some (.slice aR nR kR) from HH4.out.row.cell 1)
      have qx := later_cell e1
      go_upto_region 11 with fail
      clear e0 e1 e2 e3
      refine wp_region_idx Rb Rb_refl Rb_trans ([(0,0),(0,1),(0,2),(0,3),(0,4),(0,5),(0,6),(0,7),(0,8),(0,9),(0,10),(0,11),(0,12),(0,13),(0,14),(0,15),(2,16)]) (by kernel_rfl) (by kernel_rfl) (by kernel_rfl) ?_
      simp only [pickO, List.getD_cons_succ, List.getD_cons_zero]
      refine wpCan_seg 16 (by kernel_rfl) ?_
      simp only [List.take_succ_cons, List.take_zero, List.drop_succ_cons, List.drop_zero, List.map_cons, List.map_nil]
      iterate 16 (go_big_quiet_step (fail))
      refine wpQuiet_nil ?_
      clear q9 q5 q2 q1 qx
      have hr0 := HH4.out.row.drew
      refine wpCan_list (k := 1) (fun KK hK => ?_) (fun h => by cases h)
      refine wpL_storeAt rfl _ _ _ rfl rfl rfl rfl rfl (by kernel_rfl) hr0 rfl ?_
      intro w6 hg6 hr6
      have HH6 : Hid (MS W ob (.slice (some ⟨gF, oF, none⟩) nF kF) (.slice aR nR kR) f first aw nw cw (step + 1) ⟨p, hg, T, false, false⟩ tv w6) := Lib.hid ((HH4.out.fresh (Below.refl _ _).drew).put hg6 hr6 rfl)
      have HX6 : Hid (Row w6 kx 46 (insC x)) := Lib.hid (HX4.out.drew.grown hg6 (fun e => by have := Option.some.inj e; have := HKX.out; omega))
      clear hr0 hg6 hr6 HH4 HX4
      refine hK _ _ (fun h => by cases h) ?_
      clear hK KK
      unfold wpCan
      obtain ⟨w4, hw4⟩ : ∃ y, y = w6 := ⟨_, rfl⟩
      rw [← hw4] at HH6 HX6 ⊢
      clear hw4
      have HH4 := HH6
      have HX4 := HX6
      clear HH6 HX6
      have e1 : w4.cell? ⟨kx, 1, none⟩ = some (.int .i64 x.a) := HX4.out.cell 1
      have e2 : w4.cell? ⟨kx, 2, none⟩ = some (.int .i64 x.b) := HX4.out.cell 2
      have HLE : Hid (lowM first T ≤ hg - (0 : Int)) := Lib.hid (by have h1 := HN.out.nx 0; rw [HNX.out] at h1; exact (on_wrong h1).2)
      have hon := mon_p W ob _ _ f first aw nw cw (step + 1) ⟨p, hg, T, false, false⟩ tv w4 HH4.out hT9 (0 : Int) (1 : Int) (by simp only; omega) (by simp only; omega) (by simp only; omega) (by simp only; omega) (by decide) (by decide) (by decide) (by decide) HLE
      go_wp2_with fail
      refine hon.mono ?_
      rintro e w5 ⟨tv5, rfl, hs5, hm5⟩
      clear hon
      have HS5 := Lib.hid hs5
      clear hs5 hm5
      go_wp2_with fail
      first
        | go_end0
        | refine bodyPost_ret (results_none rfl _ _ _) rfl ?_
      exact ⟨tv5, 0, rfl, by rw [HNX.out]; exact HS5.out⟩
  · as_aux_lemma =>
      have HNX0 : Hid (nextM f nR first g 0 x ⟨p, hg, T, false, false⟩ = onM first 0 1 (badM (decide ((g.c) ≤ x.a)) ⟨p, hg, T, false, false⟩)) := Lib.hid (by unfold nextM; simp [HO.out])
      have hbad : decide ((g.c) ≤ x.a) = false := (by have h1 := HN.out.nx 0; rw [HNX0.out] at h1; have h2 := (on_wrong h1).1; simpa [badM] using h2)
      have HNX : Hid (nextM f nR first g 0 x ⟨p, hg, T, false, false⟩ = onM first (0 : Int) (1 : Int) ⟨p, hg, T, false, false⟩) := Lib.hid (by rw [HNX0.out, hbad, no_bad])
      have hlt : ¬ (g.c) ≤ x.a := of_decide_eq_false hbad
      have q9 := later_cell (show w4.cell? ⟨ob, 9, none⟩ = some (.bool false) from HH4.out.row.cell 9)
      have qx := later_cell e1
      go_upto_region 14 with fail
      clear e0 e1 e2 e3
      refine wp_region_idx Rb Rb_refl Rb_trans [(0,0),(0,1),(0,2),(0,3),(0,4),(0,5),(0,6),(0,7),(0,8),(1,9),(0,10),(0,11),(0,12),(0,13),(0,14),(2,15)] (by kernel_rfl) (by kernel_rfl) (by kernel_rfl) ?_
      simp only [pickO, List.getD_cons_succ, List.getD_cons_zero]
      refine wpCan_seg 9 (by kernel_rfl) ?_
      simp only [List.take_succ_cons, List.take_zero, List.drop_succ_cons, List.drop_zero, List.map_cons, List.map_nil]
      iterate 9 (go_big_quiet_step (fail))
      refine wpQuiet_nil ?_
      clear q9 qx
      refine wpCan_list (k := 0) (fun KK hK => ?_) (fun _ => Rb_refl _)
      have hgp := mgroup_p W ob (some ⟨gF, oF, none⟩) nF kF aR nR kR c f first aw nw cw (step + 1) ⟨p, hg, T, false, false⟩ tv w4.drew (HH4.out.fresh (Below.refl _ _).drew) HN.out.cod HN.out.nF0 HN.out.hlen (Lib.hid HN.out.hop) (by have := HN.out.nF0; omega) g (Lib.hid HN.out.grp)
      go_wp2_with fail
      refine hgp.mono ?_
      rintro e w7 ⟨rfl, hb7⟩
      clear hgp
      go_wp2_with fail
      refine hK _ _ (fun _ => hb7) ?_
      clear hK KK
      have HH7 := Lib.hid (HH4.out.fresh ((Below.refl w4.heap.size w4).drew.trans hb7))
      clear hb7 HH4
      have hfb := field_b g
      have hfc := field_c g
      refine wpCan_seg 5 (by kernel_rfl) ?_
      simp only [List.take_succ_cons, List.take_zero, List.drop_succ_cons, List.drop_zero, List.map_cons, List.map_nil]
      iterate 5 (go_big_quiet_step (fail))
      refine wpQuiet_nil ?_
      clear hfb hfc
      have hr0 := HH7.out.row
      refine wpCan_list (k := 1) (fun KK hK => ?_) (fun h => by cases h)
      refine wpL_storeAt rfl _ _ _ rfl rfl rfl rfl rfl (by kernel_rfl) hr0 rfl ?_
      intro w6 hg6 hr6
      have HH6 : Hid (MS W ob (.slice (some ⟨gF, oF, none⟩) nF kF) (.slice aR nR kR) f first aw nw cw (step + 1) ⟨p, hg, T, false, false⟩ tv w6) := Lib.hid (HH7.out.put hg6 hr6 rfl)
      clear hr0 hg6 hr6 HH7
      refine hK _ _ (fun h => by cases h) ?_
      clear hK KK
      unfold wpCan
      obtain ⟨w4, hw4⟩ : ∃ y, y = w6 := ⟨_, rfl⟩
      rw [← hw4] at HH6 ⊢
      clear hw4
      have HH4 := HH6
      clear HH6
      have HLE : Hid (lowM first T ≤ hg - (0 : Int)) := Lib.hid (by have h1 := HN.out.nx 0; rw [HNX.out] at h1; exact (on_wrong h1).2)
      have hon := mon_p W ob _ _ f first aw nw cw (step + 1) ⟨p, hg, T, false, false⟩ tv w4 HH4.out hT9 (0 : Int) (1 : Int) (by simp only; omega) (by simp only; omega) (by simp only; omega) (by simp only; omega) (by decide) (by decide) (by decide) (by decide) HLE
      go_wp2_with fail
      refine hon.mono ?_
      rintro e w5 ⟨tv5, rfl, hs5, hm5⟩
      clear hon
      have HS5 := Lib.hid hs5
      clear hs5 hm5
      go_wp2_with fail
      first
        | go_end0
        | refine bodyPost_ret (results_none rfl _ _ _) rfl ?_
      exact ⟨tv5, 0, rfl, by rw [HNX.out]; exact HS5.out⟩
  · as_aux_lemma =>
      have HNX0 : Hid (nextM f nR first g 0 x ⟨p, hg, T, false, false⟩ = onM first 0 1 (badM (decide ((g.b) ≤ x.a)) ⟨p, hg, T, false, false⟩)) := Lib.hid (by unfold nextM; simp [HO.out])
      have hbad : decide ((g.b) ≤ x.a) = false := (by have h1 := HN.out.nx 0; rw [HNX0.out] at h1; have h2 := (on_wrong h1).1; simpa [badM] using h2)
      have HNX : Hid (nextM f nR first g 0 x ⟨p, hg, T, false, false⟩ = onM first (0 : Int) (1 : Int) ⟨p, hg, T, false, false⟩) := Lib.hid (by rw [HNX0.out, hbad, no_bad])
      have hlt : ¬ (g.b) ≤ x.a := of_decide_eq_false hbad
      have q9 := later_cell (show w4.cell? ⟨ob, 9, none⟩ = some (.bool false) from HH4.out.row.cell 9)
      have qx := later_cell e1
      go_upto_region 17 with fail
      clear e0 e1 e2 e3
      refine wp_region_idx Rb Rb_refl Rb_trans [(0,0),(0,1),(0,2),(0,3),(0,4),(0,5),(0,6),(0,7),(0,8),(1,9),(0,10),(0,11),(0,12),(0,13),(0,14),(2,15)] (by kernel_rfl) (by kernel_rfl) (by kernel_rfl) ?_
      simp only [pickO, List.getD_cons_succ, List.getD_cons_zero]
      refine wpCan_seg 9 (by kernel_rfl) ?_
      simp only [List.take_succ_cons, List.take_zero, List.drop_succ_cons, List.drop_zero, List.map_cons, List.map_nil]
      iterate 9 (go_big_quiet_step (fail))
      refine wpQuiet_nil ?_
      clear q9 qx
      refine wpCan_list (k := 0) (fun KK hK => ?_) (fun _ => Rb_refl _)
      have hgp := mgroup_p W ob (some ⟨gF, oF, none⟩) nF kF aR nR kR c f first aw nw cw (step + 1) ⟨p, hg, T, false, false⟩ tv w4.drew (HH4.out.fresh (Below.refl _ _).drew) HN.out.cod HN.out.nF0 HN.out.hlen (Lib.hid HN.out.hop) (by have := HN.out.nF0; omega) g (Lib.hid HN.out.grp)
      go_wp2_with fail
      refine hgp.mono ?_
      rintro e w7 ⟨rfl, hb7⟩
      clear hgp
      go_wp2_with fail
      refine hK _ _ (fun _ => hb7) ?_
      clear hK KK
      have HH7 := Lib.hid (HH4.out.fresh ((Below.refl w4.heap.size w4).drew.trans hb7))
      clear hb7 HH4
      have hfb := field_b g
      have hfc := field_c g
      refine wpCan_seg 5 (by kernel_rfl) ?_
      simp only [List.take_succ_cons, List.take_zero, List.drop_succ_cons, List.drop_zero, List.map_cons, List.map_nil]
      iterate 5 (go_big_quiet_step (fail))
      refine wpQuiet_nil ?_
      clear hfb hfc
      have hr0 := HH7.out.row
      refine wpCan_list (k := 1) (fun KK hK => ?_) (fun h => by cases h)
      refine wpL_storeAt rfl _ _ _ rfl rfl rfl rfl rfl (by kernel_rfl) hr0 rfl ?_
      intro w6 hg6 hr6
      have HH6 : Hid (MS W ob (.slice (some ⟨gF, oF, none⟩) nF kF) (.slice aR nR kR) f first aw nw cw (step + 1) ⟨p, hg, T, false, false⟩ tv w6) := Lib.hid (HH7.out.put hg6 hr6 rfl)
      clear hr0 hg6 hr6 HH7
      refine hK _ _ (fun h => by cases h) ?_
      clear hK KK
      unfold wpCan
      obtain ⟨w4, hw4⟩ : ∃ y, y = w6 := ⟨_, rfl⟩
      rw [← hw4] at HH6 ⊢
      clear hw4
      have HH4 := HH6
      clear HH6
      have HLE : Hid (lowM first T ≤ hg - (0 : Int)) := Lib.hid (by have h1 := HN.out.nx 0; rw [HNX.out] at h1; exact (on_wrong h1).2)
      have hon := mon_p W ob _ _ f first aw nw cw (step + 1) ⟨p, hg, T, false, false⟩ tv w4 HH4.out hT9 (0 : Int) (1 : Int) (by simp only; omega) (by simp only; omega) (by simp only; omega) (by simp only; omega) (by decide) (by decide) (by decide) (by decide) HLE
      go_wp2_with fail
      refine hon.mono ?_
      rintro e w5 ⟨tv5, rfl, hs5, hm5⟩
      clear hon
      have HS5 := Lib.hid hs5
      clear hs5 hm5
      go_wp2_with fail
      first
        | go_end0
        | refine bodyPost_ret (results_none rfl _ _ _) rfl ?_
      exact ⟨tv5, 0, rfl, by rw [HNX.out]; exact HS5.out⟩
  · as_aux_lemma =>
      have HNX : Hid (nextM f nR first g 0 x ⟨p, hg, T, false, false⟩ = onM first (x.c) (x.b) ⟨p, hg, T, false, false⟩) := Lib.hid (by unfold nextM movesV; simp [HO.out])
      have HLE : Hid (lowM first T ≤ hg - (x.c)) := Lib.hid (by have h1 := HN.out.nx 0; rw [HNX.out] at h1; exact (on_wrong h1).2)
      have hon := mon_p W ob _ _ f first aw nw cw (step + 1) ⟨p, hg, T, false, false⟩ tv w4 HH4.out hT9 (x.c) (x.b) hg0 (by simp only; omega) (by simp only; omega) (by simp only; omega) (by first | omega | (have hmv2 : movesV x = ((x.c), (x.b)) := (by unfold movesV; simp [HO.out]); rw [hmv2] at hm1 hm2 hm3 hm4; simp only at hm1 hm2 hm3 hm4; omega)) (by first | omega | (have hmv2 : movesV x = ((x.c), (x.b)) := (by unfold movesV; simp [HO.out]); rw [hmv2] at hm1 hm2 hm3 hm4; simp only at hm1 hm2 hm3 hm4; omega)) (by first | omega | (have hmv2 : movesV x = ((x.c), (x.b)) := (by unfold movesV; simp [HO.out]); rw [hmv2] at hm1 hm2 hm3 hm4; simp only at hm1 hm2 hm3 hm4; omega)) (by first | omega | (have hmv2 : movesV x = ((x.c), (x.b)) := (by unfold movesV; simp [HO.out]); rw [hmv2] at hm1 hm2 hm3 hm4; simp only at hm1 hm2 hm3 hm4; omega)) HLE
      go_wp2_with fail
      refine hon.mono ?_
      rintro e w5 ⟨tv5, rfl, hs5, hm5⟩
      clear hon
      have HS5 := Lib.hid hs5
      clear hs5 hm5
      go_wp2_with fail
      first
        | go_end0
        | refine bodyPost_ret (results_none rfl _ _ _) rfl ?_
      exact ⟨tv5, 0, rfl, by rw [HNX.out]; exact HS5.out⟩
  · as_aux_lemma =>
      have HNX : Hid (nextM f nR first g (wayN ws (step + 1)) x ⟨p, hg, T, false, false⟩ = someM first 2 (wayN ws (step + 1)) ⟨p, hg, T, false, false⟩) := Lib.hid (by unfold nextM; simp [HO.out])
      have hso := msome_p W ob _ _ f first aw nw cw (step + 1) ⟨p, hg, T, false, false⟩ tv w4 HH4.out hT9 rfl (fun y hy => by have h1 := HN.out.bn.t y hy; have h2 := HN.out.z0; omega) (2 : Int) (by simp only; omega) (by simp only; omega) (by simp only; omega) (by simp only; omega) (by omega) (by omega) (Lib.hid (some_wrong (by have h1 := HN.out.nx (wayN ws (step + 1)); rw [HNX.out] at h1; exact h1)).2) HN.out.first0 ws HN.out.ws (by omega) (wayN ws (step + 1)) (Lib.hid rfl)
      go_wp2_with fail
      refine hso.mono ?_
      rintro e w5 ⟨tv5, rfl, hs5, hm5⟩
      clear hso
      have HS5 := Lib.hid hs5
      clear hs5 hm5
      go_wp2_with fail
      first
        | go_end0
        | refine bodyPost_ret (results_none rfl _ _ _) rfl ?_
      exact ⟨tv5, wayN ws (step + 1), rfl, by rw [HNX.out]; exact HS5.out⟩
  · as_aux_lemma =>
      have HNX0 : Hid (nextM f nR first g 0 x ⟨p, hg, T, false, false⟩ = doneM (badM (decide (f = 0 ∨ hg ≠ 2 ∨ T ≠ [])) ⟨p, hg, T, false, false⟩)) := Lib.hid (by unfold nextM; simp [HO.out])
      have hbad : decide (f = 0 ∨ hg ≠ 2 ∨ T ≠ []) = false := (by have h1 := HN.out.nx 0; rw [HNX0.out] at h1; exact bad_wrong (m := ⟨p, hg, T, false, false⟩) h1)
      have HNX : Hid (nextM f nR first g 0 x ⟨p, hg, T, false, false⟩ = ⟨p, hg, T, false, true⟩) := Lib.hid (by rw [HNX0.out, hbad]; rfl)
      have hno := of_decide_eq_false hbad
      have hT0 : T = [] := Classical.byContradiction (fun h => hno (.inr (.inr h)))
      have hg2 : hg = 2 := Classical.byContradiction (fun h => hno (.inr (.inl h)))
      have hf0 : ((f : Int) == 0) = false := (by rw [beq_eq_false_iff_ne]; intro h; exact hno (.inl (by omega)))
      clear hbad hno HNX0
      subst hT0 hg2
      have ho := HH4.out.own
      simp only [List.length_nil] at ho
      obtain ⟨aT, cT, rfl⟩ := ho.form
      clear ho
      have c9 : w4.cell? ⟨ob, 9, none⟩ = some (.bool false) := HH4.out.row.cell 9
      have c2 : w4.cell? ⟨ob, 2, none⟩ = some (.int .i64 (f : Nat)) := HH4.out.row.cell 2
      have c5 : w4.cell? ⟨ob, 5, none⟩ = some (.int .i64 2) := HH4.out.row.cell 5
      have c6 : w4.cell? ⟨ob, 6, none⟩ = some (.slice aT 0 cT) := HH4.out.row.cell 6
      have f9 : w4.frozen? ⟨ob, 9, none⟩ = false := HH4.out.row.free 9
      go_upto_region 25 with fail
      have HH5 : Hid (MS W ob (.slice (some ⟨gF, oF, none⟩) nF kF) (.slice aR nR kR) f first aw nw cw (step + 1) ⟨p, 2, [], false, false⟩ (.slice aT 0 cT) (w4.setCell ⟨ob, 9, none⟩ (.bool false))) := Lib.hid (HH4.out.put (grown_setCell w4 ob 9 _) (HH4.out.row.set 9 (.bool false)) rfl)
      obtain ⟨w5, hw5⟩ : ∃ y, y = w4.setCell ⟨ob, 9, none⟩ (.bool false) := ⟨_, rfl⟩
      rw [← hw5] at HH5 ⊢
      clear c9 f9 c6 hw5 HH4
      have c10 : w5.cell? ⟨ob, 10, none⟩ = some (.bool false) := HH5.out.row.cell 10
      have f10 : w5.frozen? ⟨ob, 10, none⟩ = false := HH5.out.row.free 10
      go_wp2_with fail
      first
        | go_end0
        | refine bodyPost_ret (results_none rfl _ _ _) rfl ?_
      exact ⟨.slice aT 0 cT, 0, rfl, by rw [HNX.out]; exact HH5.out.put (grown_setCell w5 ob 10 _) (HH5.out.row.set 10 (.bool true)) rfl⟩
  · as_aux_lemma =>
      have HNX : Hid (nextM f nR first g 0 x ⟨p, hg, T, false, false⟩ = ⟨x.a, hg, T, false, false⟩) := Lib.hid (by unfold nextM; simp [HO.out])
      have hr := HH4.out.row
      go_wp2_with (refine wpL_storeAt rfl _ _ _ rfl rfl rfl rfl rfl (by kernel_rfl) hr rfl ?_; intro w5 hg5 hr5)
      first
        | go_end0
        | refine bodyPost_ret (results_none rfl _ _ _) rfl ?_
      exact ⟨tv, 0, rfl, by rw [HNX.out]; exact HH4.out.put hg5 hr5 rfl⟩
  · as_aux_lemma =>
      obtain ⟨wy, hwy⟩ : ∃ y, y = wayN ws (step + 1) := ⟨_, rfl⟩
      have HNX : Hid (nextM f nR first g wy x ⟨p, hg, T, false, false⟩ = ifM wy x.a (onM first 1 0 ⟨p, hg, T, false, false⟩)) := Lib.hid (by unfold nextM; simp [HO.out])
      have HWR : Hid ((onM first 1 0 ⟨p, hg, T, false, false⟩).wrong = false) := Lib.hid (by have h1 := HN.out.nx wy; rw [HNX.out] at h1; unfold ifM at h1; split at h1 <;> exact h1)
      have HLE : Hid (lowM first T ≤ hg - 1) := Lib.hid (on_wrong HWR.out).2
      have HON : Hid (onM first 1 0 ⟨p, hg, T, false, false⟩ = ⟨(p : Int) + 1, hg - 1 + 0, T, false, false⟩) := Lib.hid (on_is HLE.out)
      have hon := mon_p W ob _ _ f first aw nw cw (step + 1) ⟨p, hg, T, false, false⟩ tv w4 HH4.out hT9 (1 : Int) (0 : Int) (by simp only; omega) (by simp only; omega) (by simp only; omega) (by simp only; omega) (by decide) (by decide) (by decide) (by decide) HLE
      rw [HON.out] at hon
      go_upto_region 30 with fail
      refine hon.mono ?_
      rintro e w5 ⟨tv5, rfl, hs5, hm5⟩
      clear hon e0 e2 e3
      have HS5 := Lib.hid hs5
      have e1 : w5.cell? ⟨kx, 1, none⟩ = some (.int .i64 x.a) := (HX4.out.mods hm5 (by have := HKX.out; omega)).cell 1
      have HX5 := Lib.hid (HX4.out.mods hm5 (by have := HKX.out; omega))
      clear hs5 hm5 HH4 HX4
      have hwp := mway_p W ob _ _ f first aw nw cw (step + 1) ⟨(p : Int) + 1, hg - 1 + 0, T, false, false⟩ tv5 w5 HS5.out ws HN.out.ws (by omega) wy (Lib.hid hwy)
      have hwl : wy < 256 := (by rw [hwy]; exact UInt8.toNat_lt _)
      clear hwy e1
      go_upto_region 31 with fail
      refine hwp.mono ?_
      rintro e w6 ⟨rfl, hb6⟩
      clear hwp
      have HS6 := Lib.hid (HS5.out.fresh hb6)
      have e1 : w6.cell? ⟨kx, 1, none⟩ = some (.int .i64 x.a) := (HX5.out.after hb6).cell 1
      clear hb6 HS5 HX5
      by_cases hy : wy % 2 = 1
      · have hyb : (((wy : Int) % 2) == 1) = true := (by rw [beq_iff_eq]; omega)
        have hr := HS6.out.row
        go_wp2_with (refine wpL_storeAt rfl _ _ _ rfl rfl rfl rfl rfl (by kernel_rfl) hr rfl ?_; intro w7 hg7 hr7)
        first
          | go_end0
          | refine bodyPost_ret (results_none rfl _ _ _) rfl ?_
        exact ⟨tv5, wy, rfl, by rw [HNX.out, HON.out, ifM, if_pos hy]; exact HS6.out.put hg7 hr7 rfl⟩
      · have hyb : (((wy : Int) % 2) == 1) = false := (by rw [beq_eq_false_iff_ne]; omega)
        go_wp2_with fail
        first
          | go_end0
          | refine bodyPost_ret (results_none rfl _ _ _) rfl ?_
        exact ⟨tv5, wy, rfl, by rw [HNX.out, HON.out, ifM, if_neg hy]; exact HS6.out⟩
  · as_aux_lemma =>
      have HNX : Hid (nextM f nR first g 0 x ⟨p, hg, T, false, false⟩ = onM first (x.a) (1 : Int) ⟨p, hg, T, false, false⟩) := Lib.hid (by unfold nextM movesV; simp [HO.out])
      have HLE : Hid (lowM first T ≤ hg - (x.a)) := Lib.hid (by have h1 := HN.out.nx 0; rw [HNX.out] at h1; exact (on_wrong h1).2)
      have hon := mon_p W ob _ _ f first aw nw cw (step + 1) ⟨p, hg, T, false, false⟩ tv w4 HH4.out hT9 (x.a) (1 : Int) hg0 (by simp only; omega) (by simp only; omega) (by simp only; omega) (by first | omega | (have hmv2 : movesV x = ((x.a), (1 : Int)) := (by unfold movesV; simp [HO.out]); rw [hmv2] at hm1 hm2 hm3 hm4; simp only at hm1 hm2 hm3 hm4; omega)) (by first | omega | (have hmv2 : movesV x = ((x.a), (1 : Int)) := (by unfold movesV; simp [HO.out]); rw [hmv2] at hm1 hm2 hm3 hm4; simp only at hm1 hm2 hm3 hm4; omega)) (by first | omega | (have hmv2 : movesV x = ((x.a), (1 : Int)) := (by unfold movesV; simp [HO.out]); rw [hmv2] at hm1 hm2 hm3 hm4; simp only at hm1 hm2 hm3 hm4; omega)) (by first | omega | (have hmv2 : movesV x = ((x.a), (1 : Int)) := (by unfold movesV; simp [HO.out]); rw [hmv2] at hm1 hm2 hm3 hm4; simp only at hm1 hm2 hm3 hm4; omega)) HLE
      go_wp2_with fail
      refine hon.mono ?_
      rintro e w5 ⟨tv5, rfl, hs5, hm5⟩
      clear hon
      have HS5 := Lib.hid hs5
      clear hs5 hm5
      go_wp2_with fail
      first
        | go_end0
        | refine bodyPost_ret (results_none rfl _ _ _) rfl ?_
      exact ⟨tv5, 0, rfl, by rw [HNX.out]; exact HS5.out⟩
  · as_aux_lemma =>
      have HNX : Hid (nextM f nR first g 0 x ⟨p, hg, T, false, false⟩ = onM first (1 : Int) (1 : Int) ⟨p, hg, T, false, false⟩) := Lib.hid (by unfold nextM movesV; simp [HO.out])
      have HLE : Hid (lowM first T ≤ hg - (1 : Int)) := Lib.hid (by have h1 := HN.out.nx 0; rw [HNX.out] at h1; exact (on_wrong h1).2)
      have hon := mon_p W ob _ _ f first aw nw cw (step + 1) ⟨p, hg, T, false, false⟩ tv w4 HH4.out hT9 (1 : Int) (1 : Int) hg0 (by simp only; omega) (by simp only; omega) (by simp only; omega) (by first | omega | (have hmv2 : movesV x = ((1 : Int), (1 : Int)) := (by unfold movesV; simp [HO.out]); rw [hmv2] at hm1 hm2 hm3 hm4; simp only at hm1 hm2 hm3 hm4; omega)) (by first | omega | (have hmv2 : movesV x = ((1 : Int), (1 : Int)) := (by unfold movesV; simp [HO.out]); rw [hmv2] at hm1 hm2 hm3 hm4; simp only at hm1 hm2 hm3 hm4; omega)) (by first | omega | (have hmv2 : movesV x = ((1 : Int), (1 : Int)) := (by unfold movesV; simp [HO.out]); rw [hmv2] at hm1 hm2 hm3 hm4; simp only at hm1 hm2 hm3 hm4; omega)) (by first | omega | (have hmv2 : movesV x = ((1 : Int), (1 : Int)) := (by unfold movesV; simp [HO.out]); rw [hmv2] at hm1 hm2 hm3 hm4; simp only at hm1 hm2 hm3 hm4; omega)) HLE
      go_wp2_with fail
      refine hon.mono ?_
      rintro e w5 ⟨tv5, rfl, hs5, hm5⟩
      clear hon
      have HS5 := Lib.hid hs5
      clear hs5 hm5
      go_wp2_with fail
      first
        | go_end0
        | refine bodyPost_ret (results_none rfl _ _ _) rfl ?_
      exact ⟨tv5, 0, rfl, by rw [HNX.out]; exact HS5.out⟩
  · as_aux_lemma =>
      have HNX : Hid (nextM f nR first g 0 x ⟨p, hg, T, false, false⟩ = onM first (x.b) (1 : Int) ⟨p, hg, T, false, false⟩) := Lib.hid (by unfold nextM movesV; simp [HO.out])
      have HLE : Hid (lowM first T ≤ hg - (x.b)) := Lib.hid (by have h1 := HN.out.nx 0; rw [HNX.out] at h1; exact (on_wrong h1).2)
      have hon := mon_p W ob _ _ f first aw nw cw (step + 1) ⟨p, hg, T, false, false⟩ tv w4 HH4.out hT9 (x.b) (1 : Int) hg0 (by simp only; omega) (by simp only; omega) (by simp only; omega) (by first | omega | (have hmv2 : movesV x = ((x.b), (1 : Int)) := (by unfold movesV; simp [HO.out]); rw [hmv2] at hm1 hm2 hm3 hm4; simp only at hm1 hm2 hm3 hm4; omega)) (by first | omega | (have hmv2 : movesV x = ((x.b), (1 : Int)) := (by unfold movesV; simp [HO.out]); rw [hmv2] at hm1 hm2 hm3 hm4; simp only at hm1 hm2 hm3 hm4; omega)) (by first | omega | (have hmv2 : movesV x = ((x.b), (1 : Int)) := (by unfold movesV; simp [HO.out]); rw [hmv2] at hm1 hm2 hm3 hm4; simp only at hm1 hm2 hm3 hm4; omega)) (by first | omega | (have hmv2 : movesV x = ((x.b), (1 : Int)) := (by unfold movesV; simp [HO.out]); rw [hmv2] at hm1 hm2 hm3 hm4; simp only at hm1 hm2 hm3 hm4; omega)) HLE
      go_wp2_with fail
      refine hon.mono ?_
      rintro e w5 ⟨tv5, rfl, hs5, hm5⟩
      clear hon
      have HS5 := Lib.hid hs5
      clear hs5 hm5
      go_wp2_with fail
      first
        | go_end0
        | refine bodyPost_ret (results_none rfl _ _ _) rfl ?_
      exact ⟨tv5, 0, rfl, by rw [HNX.out]; exact HS5.out⟩
  · as_aux_lemma =>
      have HNX : Hid (nextM f nR first g 0 x ⟨p, hg, T, false, false⟩ = onM first (1 : Int) (1 : Int) ⟨p, hg, T, false, false⟩) := Lib.hid (by unfold nextM movesV; simp [HO.out])
      have HLE : Hid (lowM first T ≤ hg - (1 : Int)) := Lib.hid (by have h1 := HN.out.nx 0; rw [HNX.out] at h1; exact (on_wrong h1).2)
      have hon := mon_p W ob _ _ f first aw nw cw (step + 1) ⟨p, hg, T, false, false⟩ tv w4 HH4.out hT9 (1 : Int) (1 : Int) hg0 (by simp only; omega) (by simp only; omega) (by simp only; omega) (by first | omega | (have hmv2 : movesV x = ((1 : Int), (1 : Int)) := (by unfold movesV; simp [HO.out]); rw [hmv2] at hm1 hm2 hm3 hm4; simp only at hm1 hm2 hm3 hm4; omega)) (by first | omega | (have hmv2 : movesV x = ((1 : Int), (1 : Int)) := (by unfold movesV; simp [HO.out]); rw [hmv2] at hm1 hm2 hm3 hm4; simp only at hm1 hm2 hm3 hm4; omega)) (by first | omega | (have hmv2 : movesV x = ((1 : Int), (1 : Int)) := (by unfold movesV; simp [HO.out]); rw [hmv2] at hm1 hm2 hm3 hm4; simp only at hm1 hm2 hm3 hm4; omega)) (by first | omega | (have hmv2 : movesV x = ((1 : Int), (1 : Int)) := (by unfold movesV; simp [HO.out]); rw [hmv2] at hm1 hm2 hm3 hm4; simp only at hm1 hm2 hm3 hm4; omega)) HLE
      go_wp2_with fail
      refine hon.mono ?_
      rintro e w5 ⟨tv5, rfl, hs5, hm5⟩
      clear hon
      have HS5 := Lib.hid hs5
      clear hs5 hm5
      go_wp2_with fail
      first
        | go_end0
        | refine bodyPost_ret (results_none rfl _ _ _) rfl ?_
      exact ⟨tv5, 0, rfl, by rw [HNX.out]; exact HS5.out⟩
  · as_aux_lemma =>
      have HNX : Hid (nextM f nR first g 0 x ⟨p, hg, T, false, false⟩ = onM first (1 : Int) (1 : Int) ⟨p, hg, T, false, false⟩) := Lib.hid (by unfold nextM movesV; simp [HO.out])
      have HLE : Hid (lowM first T ≤ hg - (1 : Int)) := Lib.hid (by have h1 := HN.out.nx 0; rw [HNX.out] at h1; exact (on_wrong h1).2)
      have hon := mon_p W ob _ _ f first aw nw cw (step + 1) ⟨p, hg, T, false, false⟩ tv w4 HH4.out hT9 (1 : Int) (1 : Int) hg0 (by simp only; omega) (by simp only; omega) (by simp only; omega) (by first | omega | (have hmv2 : movesV x = ((1 : Int), (1 : Int)) := (by unfold movesV; simp [HO.out]); rw [hmv2] at hm1 hm2 hm3 hm4; simp only at hm1 hm2 hm3 hm4; omega)) (by first | omega | (have hmv2 : movesV x = ((1 : Int), (1 : Int)) := (by unfold movesV; simp [HO.out]); rw [hmv2] at hm1 hm2 hm3 hm4; simp only at hm1 hm2 hm3 hm4; omega)) (by first | omega | (have hmv2 : movesV x = ((1 : Int), (1 : Int)) := (by unfold movesV; simp [HO.out]); rw [hmv2] at hm1 hm2 hm3 hm4; simp only at hm1 hm2 hm3 hm4; omega)) (by first | omega | (have hmv2 : movesV x = ((1 : Int), (1 : Int)) := (by unfold movesV; simp [HO.out]); rw [hmv2] at hm1 hm2 hm3 hm4; simp only at hm1 hm2 hm3 hm4; omega)) HLE
      go_wp2_with fail
      refine hon.mono ?_
      rintro e w5 ⟨tv5, rfl, hs5, hm5⟩
      clear hon
      have HS5 := Lib.hid hs5
      clear hs5 hm5
      go_wp2_with fail
      first
        | go_end0
        | refine bodyPost_ret (results_none rfl _ _ _) rfl ?_
      exact ⟨tv5, 0, rfl, by rw [HNX.out]; exact HS5.out⟩
  · as_aux_lemma =>
      have HNX0 : Hid (∀ way, nextM f nR first g way x ⟨p, hg, T, false, false⟩ = someM first (takesN x.t) way (badM (!takesB x.t) ⟨p, hg, T, false, false⟩)) := Lib.hid (fun way => by unfold nextM; simp [HO.out])
      have hbad : takesB x.t = true := (by have h1 := HN.out.nx 0; rw [HNX0.out] at h1; have h2 := bad_wrong (some_wrong h1).1; simpa using h2)
      have HNX : Hid (nextM f nR first g (wayN ws (step + 1)) x ⟨p, hg, T, false, false⟩ = someM first (takesN x.t) (wayN ws (step + 1)) ⟨p, hg, T, false, false⟩) := Lib.hid (by rw [HNX0.out, hbad]; simp only [Bool.not_true]; rw [no_bad])
      have htk := rtakes_p x.t w4
      rw [hbad] at htk
      have htn := takesN_le x.t
      obtain ⟨tn, htn2⟩ : ∃ y, y = takesN x.t := ⟨_, rfl⟩
      rw [← htn2] at htk htn HNX
      have e4 : w4.cell? ⟨kx, 4, none⟩ = some (.string (str x.t)) := HX4.out.cell 4
      clear hbad htn2
      go_upto_region 43 with fail
      refine htk.mono ?_
      rintro e w5 ⟨rfl, hb5⟩
      clear htk e0 e1 e2 e3 e4
      have HH5 := Lib.hid (HH4.out.fresh hb5)
      clear hb5 HH4
      have c9 : w5.cell? ⟨ob, 9, none⟩ = some (.bool false) := HH5.out.row.cell 9
      have f9 : w5.frozen? ⟨ob, 9, none⟩ = false := HH5.out.row.free 9
      go_upto_region 44 with fail
      have HH4 : Hid (MS W ob (.slice (some ⟨gF, oF, none⟩) nF kF) (.slice aR nR kR) f first aw nw cw (step + 1) ⟨p, hg, T, false, false⟩ tv (w5.setCell ⟨ob, 9, none⟩ (.bool false))) := Lib.hid (HH5.out.put (grown_setCell w5 ob 9 _) (HH5.out.row.set 9 (.bool false)) rfl)
      obtain ⟨w4, hw4⟩ : ∃ y, y = w5.setCell ⟨ob, 9, none⟩ (.bool false) := ⟨_, rfl⟩
      rw [← hw4] at HH4 ⊢
      clear c9 f9 hw4 HH5
      have hso := msome_p W ob _ _ f first aw nw cw (step + 1) ⟨p, hg, T, false, false⟩ tv w4 HH4.out hT9 rfl (fun y hy => by have h1 := HN.out.bn.t y hy; have h2 := HN.out.z0; omega) (tn : Int) (by simp only; omega) (by simp only; omega) (by simp only; omega) (by simp only; omega) (by omega) (by omega) (Lib.hid (some_wrong (by have h1 := HN.out.nx (wayN ws (step + 1)); rw [HNX.out] at h1; exact h1)).2) HN.out.first0 ws HN.out.ws (by omega) (wayN ws (step + 1)) (Lib.hid rfl)
      go_wp2_with fail
      refine hso.mono ?_
      rintro e w5 ⟨tv5, rfl, hs5, hm5⟩
      clear hso
      have HS5 := Lib.hid hs5
      clear hs5 hm5
      go_wp2_with fail
      first
        | go_end0
        | refine bodyPost_ret (results_none rfl _ _ _) rfl ?_
      exact ⟨tv5, wayN ws (step + 1), rfl, by rw [HNX.out]; exact HS5.out⟩
  · as_aux_lemma =>
      have HNX : Hid (nextM f nR first g 0 x ⟨p, hg, T, false, false⟩ = raiseM (onM first 1 0 ⟨p, hg, T, false, false⟩)) := Lib.hid (by unfold nextM; simp [HO.out])
      have HWR : Hid ((onM first 1 0 ⟨p, hg, T, false, false⟩).wrong = false) := Lib.hid (by have h1 := HN.out.nx 0; rw [HNX.out] at h1; exact raise_wrong h1)
      have HLE : Hid (lowM first T ≤ hg - 1) := Lib.hid (on_wrong HWR.out).2
      have HON : Hid (onM first 1 0 ⟨p, hg, T, false, false⟩ = ⟨(p : Int) + 1, hg - 1 + 0, T, false, false⟩) := Lib.hid (on_is HLE.out)
      have hon := mon_p W ob _ _ f first aw nw cw (step + 1) ⟨p, hg, T, false, false⟩ tv w4 HH4.out hT9 (1 : Int) (0 : Int) (by simp only; omega) (by simp only; omega) (by simp only; omega) (by simp only; omega) (by decide) (by decide) (by decide) (by decide) HLE
      rw [HON.out] at hon
      go_upto_region 47 with fail
      refine hon.mono ?_
      rintro e w5 ⟨tv5, rfl, hs5, hm5⟩
      clear hon e0 e1 e2 e3
      have HS5 := Lib.hid hs5
      clear hs5 hm5 HH4 HX4
      have hra := mraise_p W ob _ _ f first aw nw cw (step + 1) ⟨(p : Int) + 1, hg - 1 + 0, T, false, false⟩ tv5 w5 HS5.out hT9 rfl (fun y hy => by have h1 := HN.out.bn.t y hy; have h2 := HN.out.z0; omega) (Lib.hid (fun y hy => by have h1 : y.2 ≤ lowM first T := low_ge hy; have := HLE.out; show y.2 ≤ hg - 1 + 0; omega))
      go_wp2_with fail
      refine hra.mono ?_
      rintro e w6 ⟨tv6, rfl, hs6, hm6⟩
      clear hra
      have HS6 := Lib.hid hs6
      clear hs6 hm6
      go_wp2_with fail
      first
        | go_end0
        | refine bodyPost_ret (results_none rfl _ _ _) rfl ?_
      exact ⟨tv6, 0, rfl, by rw [HNX.out, HON.out]; exact HS6.out⟩
  · as_aux_lemma =>
      have HNX : Hid (nextM f nR first g 0 x ⟨p, hg, T, false, false⟩ = ⟨(p : Int) + 1, hg, T ++ [(x.a, hg)], false, false⟩) := Lib.hid (by unfold nextM; simp [HO.out])
      obtain ⟨n, hn⟩ : ∃ y, y = T.length := ⟨_, rfl⟩
      have HNT := Lib.hid hn
      have ho := HH4.out.own
      simp only at ho
      rw [← hn] at ho
      have hn9 : n ≤ 1000000000 := (by rw [hn]; exact hT9)
      obtain ⟨aT, cT, rfl⟩ := ho.form
      have hob : (Value.slice aT n cT).ownBlock ≠ some ob := fun e => (by have := ho.lt ob e; omega)
      have HKB := HKB0.out
      have q6 := laterT_cell (show w4.cell? ⟨ob, 6, none⟩ = some (.slice aT n cT) from HH4.out.row.cell 6) hob
      have q5 := laterT_cell (show w4.cell? ⟨ob, 5, none⟩ = some (.int .i64 hg) from HH4.out.row.cell 5) hob
      have qx := laterT_cell e1 HKB
      have HOa := Lib.hid (ho.drew.alloc (.cells #[.int .i64 x.a, .int .i64 hg] 97))
      have HSa := Lib.hid (Sl.litS w4.drew (trV (x.a, hg)) 97 2 1 rfl (by decide))
      have HBa : Hid (ob + 1 ≤ (w4.drew.alloc (.cells #[.int .i64 x.a, .int .i64 hg] 97)).heap.size) := Lib.hid (by have := HH4.out.row.lt; have e : w4.drew.heap.size = w4.heap.size := rfl; simp; omega)
      clear hn hob HKB ho
      go_upto_region 49 with fail
      clear e0 e1 e2 e3
      refine wp_region_idx (RtW (.slice aT n cT)) (RtW_refl _) (RtW_trans _) [(0,0),(0,1),(0,2),(0,3),(0,4),(0,5),(0,6),(0,7),(0,8),(0,9),(0,10),(0,11),(1,12),(1,13),(0,14),(0,15),(2,16)] (by kernel_rfl) (by kernel_rfl) (by kernel_rfl) ?_
      simp only [pickO, List.getD_cons_succ, List.getD_cons_zero]
      refine wpCan_seg 12 (by kernel_rfl) ?_
      simp only [List.take_succ_cons, List.take_zero, List.drop_succ_cons, List.drop_zero, List.map_cons, List.map_nil]
      iterate 12 (go_big_quiet_step (fail))
      refine wpQuiet_nil ?_
      clear q6 q5 qx
      refine wpCan_list (k := 0) (fun KK hK => ?_) (fun _ => RtW_refl _ _)
      go_wp2_with fail
      refine hK _ _ (fun _ => Mods.fresh ((Below.refl w4.drew.heap.size w4.drew).alloc (Nat.le_refl _) _) _) ?_
      clear hK KK
      refine wpCan_list (k := 0) (fun KK hK => ?_) (fun _ => RtW_refl _ _)
      go_wp2_with (at_builtin; refine wpL_append etTry rfl _ _ rfl HOa.out rfl HSa.out rfl (by simp [trV, Value.oneCell']) (by omega) (by simp [maxLen]; omega) HBa.out ?_; intro v6 w6 ho6 hg6; obtain ⟨a6, c6, rfl⟩ := ho6.form)
      have HO6 : Hid (Own w6 (ob + 1) 2 (.slice a6 (n + 1) c6) (n + 1) (trC (T ++ [(x.a, hg)]))) := Lib.hid (by unfold trC; rw [List.flatMap_append]; exact ho6)
      have HM6 : Hid (Mods (fun g => ob + 1 ≤ g) w4 w6) := Lib.hid (((Mods.fresh ((Below.refl w4.heap.size w4).drew) _).trans (Mods.fresh ((Below.refl w4.drew.heap.size w4.drew).alloc (Nat.le_refl _) _) _)).trans ((Mods.grown hg6).mono (fun g hg => HOa.out.lt g hg)))
      refine hK _ _ (fun _ => Mods.grown hg6) ?_
      clear hK KK hg6 ho6 HOa HSa HBa
      refine wpCan_seg 2 (by kernel_rfl) ?_
      simp only [List.take_succ_cons, List.take_zero, List.drop_succ_cons, List.drop_zero, List.map_cons, List.map_nil]
      iterate 2 (go_big_quiet_step (fail))
      refine wpQuiet_nil ?_
      have HR6 : Hid (Row w6 ob 53 (mchC (.slice (some ⟨gF, oF, none⟩) nF kF) (.slice aR nR kR) f first ⟨p, hg, T, false, false⟩ (.slice aT n cT) aw nw cw (step + 1))) := Lib.hid (HH4.out.row.mods HM6.out (by omega))
      have hr6 := HR6.out
      refine wpCan_list (k := 1) (fun KK hK => ?_) (fun h => by cases h)
      refine wpL_storeAt rfl _ _ _ rfl rfl rfl rfl rfl (by kernel_rfl) hr6 rfl ?_
      intro w7 hg7 hr7
      have HS7 : Hid (MS W ob (.slice (some ⟨gF, oF, none⟩) nF kF) (.slice aR nR kR) f first aw nw cw (step + 1) ⟨p, hg, T ++ [(x.a, hg)], false, false⟩ (.slice a6 (n + 1) c6) w7) := Lib.hid (by
        refine ⟨hr7, ?_, below_mods (below_mods HH4.out.bel HM6.out (fun g hg => by have := HH4.out.ge; omega) HH4.out.bel.size) (Mods.grown hg7) (fun g e => by have := Option.some.inj e; have := HH4.out.ge; omega) (Nat.le_trans HH4.out.bel.size HM6.out.size), HH4.out.ge⟩
        simp only
        rw [List.length_append, List.length_singleton, ← HNT.out]
        exact HO6.out.mods (Mods.grown hg7) (fun g hg e => by have := HO6.out.lt g hg; have := Option.some.inj e; omega))
      clear hr6 hg7 hr7 HR6 HO6 HM6 HH4
      refine hK _ _ (fun h => by cases h) ?_
      clear hK KK
      unfold wpCan
      have c4 : w7.cell? ⟨ob, 4, none⟩ = some (.int .i64 (p : Nat)) := HS7.out.row.cell 4
      have f4 : w7.frozen? ⟨ob, 4, none⟩ = false := HS7.out.row.free 4
      go_wp2_with fail
      first
        | go_end0
        | refine bodyPost_ret (results_none rfl _ _ _) rfl ?_
      exact ⟨_, 0, rfl, by rw [HNX.out]; exact HS7.out.put (grown_setCell w7 ob 4 _) (HS7.out.row.set 4 (.int .i64 ((p : Int) + 1))) rfl⟩
  · as_aux_lemma =>
      have HNX0 : Hid (nextM f nR first g 0 x ⟨p, hg, T, false, false⟩ = endM ⟨p, hg, T, false, false⟩) := Lib.hid (by unfold nextM; simp [HO.out])
      obtain ⟨n, hn⟩ : ∃ y, y = T.length := ⟨_, rfl⟩
      have HNT := Lib.hid hn
      have ho := HH4.out.own
      simp only at ho
      rw [← hn] at ho hT9
      obtain ⟨aT, cT, rfl⟩ := ho.form
      have hn0 : n ≠ 0 := fun h0 => (by
        have h1 := HN.out.nx 0
        have hT : T = [] := List.eq_nil_of_length_eq_zero (by rw [← hn]; exact h0)
        rw [HNX0.out, hT] at h1
        cases h1)
      obtain ⟨k, rfl⟩ : ∃ k, n = k + 1 := ⟨n - 1, by omega⟩
      obtain ⟨b7, o7, y, rfl, hyk, hc7⟩ := ho.sl.elem trV trV_len (by decide) k (by omega)
      have y1 := hc7 1 _ rfl
      have hlast := tlast_at hyk HNT.out.symm
      have hyb := HN.out.bn.t y (List.mem_of_getLast? hlast)
      have hz0 := HN.out.z0
      have hEQ : hg = y.2 + 1 := Classical.byContradiction (fun hne => (by
        have h1 := HN.out.nx 0
        rw [HNX0.out] at h1
        unfold endM at h1
        simp only [hlast] at h1
        rw [if_neg hne] at h1
        cases h1))
      have HNX : Hid (nextM f nR first g 0 x ⟨p, hg, T, false, false⟩ = ⟨(p : Int) + 1, hg, T.dropLast, false, false⟩) := Lib.hid (by
        rw [HNX0.out]
        unfold endM
        simp only [hlast]
        rw [if_pos hEQ])
      obtain ⟨ya, yb⟩ := y
      simp only at y1 hyb hEQ
      have hb0 : ((k : Int) + 1 == 0) = false := (by rw [beq_eq_false_iff_ne]; omega)
      have hb1 : (hg != yb + 1) = false := (by rw [hEQ]; simp)
      have c6 : w4.cell? ⟨ob, 6, none⟩ = some (.slice (some ⟨b7, o7, none⟩) (k + 1) cT) := HH4.out.row.cell 6
      have c5 : w4.cell? ⟨ob, 5, none⟩ = some (.int .i64 hg) := HH4.out.row.cell 5
      have HOW := Lib.hid ho
      clear hc7 hyk hlast hn hn0 hEQ ho
      go_upto_region 53 with fail
      clear e0 e1 e2 e3
      go_quiet (fail)
      have hbd : Below w4.heap.size w4 (w4.drewN nq) := below_drewN (Below.refl _ _) nq
      obtain ⟨w5, hw5⟩ : ∃ y, y = w4.drewN nq := ⟨_, rfl⟩
      rw [← hw5] at hbd ⊢
      clear hw5 c6 c5 y1
      have HH5 := Lib.hid (HH4.out.fresh hbd)
      have HO5 := Lib.hid (HOW.out.below hbd)
      clear hbd HH4 HOW
      have c6 : w5.cell? ⟨ob, 6, none⟩ = some (.slice (some ⟨b7, o7, none⟩) (k + 1) cT) := HH5.out.row.cell 6
      have f6 : w5.frozen? ⟨ob, 6, none⟩ = false := HH5.out.row.free 6
      have hcap : k + 1 ≤ cT := HO5.out.sl.cap.1
      have hsl : ∀ wx : World, (Instr.slice 51 (.slice (some ⟨b7, o7, none⟩) (k + 1) cT) none (some (.int .i64 (k : Nat))) none).run Tryd.prog wx = .ok (.slice (some ⟨b7, o7, none⟩) k cT) wx := fun wx =>
        run_front wx Tryd.underlying51 (z := 2) (by kernel_rfl) b7 o7 (k + 1) cT k (by omega)
      go_upto_region 56 with fail
      have HH6 : Hid (MS W ob (.slice (some ⟨gF, oF, none⟩) nF kF) (.slice aR nR kR) f first aw nw cw (step + 1) ⟨p, hg, T.dropLast, false, false⟩ (.slice (some ⟨b7, o7, none⟩) k cT) (w5.setCell ⟨ob, 6, none⟩ (.slice (some ⟨b7, o7, none⟩) k cT))) := Lib.hid (by
        have hgr := grown_setCell w5 ob 6 (.slice (some ⟨b7, o7, none⟩) k cT)
        have ho := HO5.out.mods (Mods.grown hgr) (fun g hg e => by have := HO5.out.lt g hg; have := Option.some.inj e; omega)
        have ho2 := ho.front (m := k) (by omega)
        have hd := tr_drop T
        rw [← HNT.out] at hd
        rw [show k + 1 - 1 = k from rfl] at hd
        rw [hd] at ho2
        refine ⟨HH5.out.row.set 6 _, ?_, below_mods HH5.out.bel (Mods.grown hgr) (fun g e => by have := Option.some.inj e; have := HH5.out.ge; omega) HH5.out.bel.size, HH5.out.ge⟩
        simp only
        rw [List.length_dropLast, ← HNT.out]
        exact ho2)
      obtain ⟨w6, hw6⟩ : ∃ y, y = w5.setCell ⟨ob, 6, none⟩ (.slice (some ⟨b7, o7, none⟩) k cT) := ⟨_, rfl⟩
      rw [← hw6] at HH6 ⊢
      clear c6 f6 hsl hcap hw6 HH5 HO5
      have c4 : w6.cell? ⟨ob, 4, none⟩ = some (.int .i64 (p : Nat)) := HH6.out.row.cell 4
      have f4 : w6.frozen? ⟨ob, 4, none⟩ = false := HH6.out.row.free 4
      go_wp2_with fail
      first
        | go_end0
        | refine bodyPost_ret (results_none rfl _ _ _) rfl ?_
      exact ⟨_, 0, rfl, by rw [HNX.out]; exact HH6.out.put (grown_setCell w6 ob 4 _) (HH6.out.row.set 4 (.int .i64 ((p : Int) + 1))) rfl⟩
  · as_aux_lemma =>
      have hmv2 : movesV x = (x.a + 1, 1) := (by unfold movesV; simp [HO.out])
      rw [hmv2] at hm1 hm2
      simp only at hm1 hm2
      have HNX : Hid (nextM f nR first g 0 x ⟨p, hg, T, false, false⟩ = onM first (x.a + 1) (1 : Int) ⟨p, hg, T, false, false⟩) := Lib.hid (by unfold nextM movesV; simp [HO.out])
      have HLE : Hid (lowM first T ≤ hg - (x.a + 1)) := Lib.hid (by have h1 := HN.out.nx 0; rw [HNX.out] at h1; exact (on_wrong h1).2)
      have hon := mon_p W ob _ _ f first aw nw cw (step + 1) ⟨p, hg, T, false, false⟩ tv w4 HH4.out hT9 (x.a + 1) (1 : Int) hg0 (by simp only; omega) (by simp only; omega) (by simp only; omega) (by first | omega | (have hmv2 : movesV x = ((x.a + 1), (1 : Int)) := (by unfold movesV; simp [HO.out]); rw [hmv2] at hm1 hm2 hm3 hm4; simp only at hm1 hm2 hm3 hm4; omega)) (by first | omega | (have hmv2 : movesV x = ((x.a + 1), (1 : Int)) := (by unfold movesV; simp [HO.out]); rw [hmv2] at hm1 hm2 hm3 hm4; simp only at hm1 hm2 hm3 hm4; omega)) (by first | omega | (have hmv2 : movesV x = ((x.a + 1), (1 : Int)) := (by unfold movesV; simp [HO.out]); rw [hmv2] at hm1 hm2 hm3 hm4; simp only at hm1 hm2 hm3 hm4; omega)) (by first | omega | (have hmv2 : movesV x = ((x.a + 1), (1 : Int)) := (by unfold movesV; simp [HO.out]); rw [hmv2] at hm1 hm2 hm3 hm4; simp only at hm1 hm2 hm3 hm4; omega)) HLE
      go_wp2_with fail
      refine hon.mono ?_
      rintro e w5 ⟨tv5, rfl, hs5, hm5⟩
      clear hon
      have HS5 := Lib.hid hs5
      clear hs5 hm5
      go_wp2_with fail
      first
        | go_end0
        | refine bodyPost_ret (results_none rfl _ _ _) rfl ?_
      exact ⟨tv5, 0, rfl, by rw [HNX.out]; exact HS5.out⟩
  · as_aux_lemma =>
      have HNX : Hid (nextM f nR first g 0 x ⟨p, hg, T, false, false⟩ = onM first (1 : Int) (0 : Int) ⟨p, hg, T, false, false⟩) := Lib.hid (by unfold nextM movesV; simp [HO.out])
      have HLE : Hid (lowM first T ≤ hg - (1 : Int)) := Lib.hid (by have h1 := HN.out.nx 0; rw [HNX.out] at h1; exact (on_wrong h1).2)
      have hon := mon_p W ob _ _ f first aw nw cw (step + 1) ⟨p, hg, T, false, false⟩ tv w4 HH4.out hT9 (1 : Int) (0 : Int) hg0 (by simp only; omega) (by simp only; omega) (by simp only; omega) (by first | omega | (have hmv2 : movesV x = ((1 : Int), (0 : Int)) := (by unfold movesV; simp [HO.out]); rw [hmv2] at hm1 hm2 hm3 hm4; simp only at hm1 hm2 hm3 hm4; omega)) (by first | omega | (have hmv2 : movesV x = ((1 : Int), (0 : Int)) := (by unfold movesV; simp [HO.out]); rw [hmv2] at hm1 hm2 hm3 hm4; simp only at hm1 hm2 hm3 hm4; omega)) (by first | omega | (have hmv2 : movesV x = ((1 : Int), (0 : Int)) := (by unfold movesV; simp [HO.out]); rw [hmv2] at hm1 hm2 hm3 hm4; simp only at hm1 hm2 hm3 hm4; omega)) (by first | omega | (have hmv2 : movesV x = ((1 : Int), (0 : Int)) := (by unfold movesV; simp [HO.out]); rw [hmv2] at hm1 hm2 hm3 hm4; simp only at hm1 hm2 hm3 hm4; omega)) HLE
      go_wp2_with fail
      refine hon.mono ?_
      rintro e w5 ⟨tv5, rfl, hs5, hm5⟩
      clear hon
      have HS5 := Lib.hid hs5
      clear hs5 hm5
      go_wp2_with fail
      first
        | go_end0
        | refine bodyPost_ret (results_none rfl _ _ _) rfl ?_
      exact ⟨tv5, 0, rfl, by rw [HNX.out]; exact HS5.out⟩
  · as_aux_lemma =>
      have HNX : Hid (nextM f nR first g 0 x ⟨p, hg, T, false, false⟩ = onM first (x.b) (1 : Int) ⟨p, hg, T, false, false⟩) := Lib.hid (by unfold nextM movesV; simp [HO.out])
      have HLE : Hid (lowM first T ≤ hg - (x.b)) := Lib.hid (by have h1 := HN.out.nx 0; rw [HNX.out] at h1; exact (on_wrong h1).2)
      have hon := mon_p W ob _ _ f first aw nw cw (step + 1) ⟨p, hg, T, false, false⟩ tv w4 HH4.out hT9 (x.b) (1 : Int) hg0 (by simp only; omega) (by simp only; omega) (by simp only; omega) (by first | omega | (have hmv2 : movesV x = ((x.b), (1 : Int)) := (by unfold movesV; simp [HO.out]); rw [hmv2] at hm1 hm2 hm3 hm4; simp only at hm1 hm2 hm3 hm4; omega)) (by first | omega | (have hmv2 : movesV x = ((x.b), (1 : Int)) := (by unfold movesV; simp [HO.out]); rw [hmv2] at hm1 hm2 hm3 hm4; simp only at hm1 hm2 hm3 hm4; omega)) (by first | omega | (have hmv2 : movesV x = ((x.b), (1 : Int)) := (by unfold movesV; simp [HO.out]); rw [hmv2] at hm1 hm2 hm3 hm4; simp only at hm1 hm2 hm3 hm4; omega)) (by first | omega | (have hmv2 : movesV x = ((x.b), (1 : Int)) := (by unfold movesV; simp [HO.out]); rw [hmv2] at hm1 hm2 hm3 hm4; simp only at hm1 hm2 hm3 hm4; omega)) HLE
      go_wp2_with fail
      refine hon.mono ?_
      rintro e w5 ⟨tv5, rfl, hs5, hm5⟩
      clear hon
      have HS5 := Lib.hid hs5
      clear hs5 hm5
      go_wp2_with fail
      first
        | go_end0
        | refine bodyPost_ret (results_none rfl _ _ _) rfl ?_
      exact ⟨tv5, 0, rfl, by rw [HNX.out]; exact HS5.out⟩
  · as_aux_lemma =>
      obtain ⟨wy, hwy⟩ : ∃ y, y = wayN ws (step + 1) := ⟨_, rfl⟩
      have HNX0 : Hid (nextM f nR first g wy x ⟨p, hg, T, false, false⟩ = (let m1 := badM (decide (f ≠ 0 ∨ x.a < 0 ∨ (nR : Int) ≤ x.a)) ⟨p, hg, T, false, false⟩; if wy % 2 = 1 then ⟨x.b, m1.h + 1, m1.T, m1.wrong, m1.done⟩ else ⟨m1.at_ + 1, m1.h, m1.T, m1.wrong, m1.done⟩)) := Lib.hid (by unfold nextM; simp [HO.out])
      have hbad : decide (f ≠ 0 ∨ x.a < 0 ∨ (nR : Int) ≤ x.a) = false := (by have h1 := HN.out.nx wy; rw [HNX0.out] at h1; simp only at h1; split at h1 <;> exact bad_wrong (m := ⟨p, hg, T, false, false⟩) h1)
      have HNX : Hid (nextM f nR first g wy x ⟨p, hg, T, false, false⟩ = if wy % 2 = 1 then ⟨x.b, hg + 1, T, false, false⟩ else ⟨(p : Int) + 1, hg, T, false, false⟩) := Lib.hid (by rw [HNX0.out, hbad]; rfl)
      have hno := of_decide_eq_false hbad
      have hf0 : ((f : Int) != 0) = false := (by have : f = 0 := by omega
                                                 subst this; rfl)
      have ha0 : ¬ x.a < 0 := by omega
      have ha1 : ¬ (nR : Int) ≤ x.a := by omega
      clear hbad hno HNX0
      have q9 := later_cell (show w4.cell? ⟨ob, 9, none⟩ = some (.bool false) from HH4.out.row.cell 9)
      have q5 := later_cell (show w4.cell? ⟨ob, 5, none⟩ = some (.int .i64 hg) from HH4.out.row.cell 5)
      have q2 := later_cell (show w4.cell? ⟨ob, 2, none⟩ = some (.int .i64 (f : Nat)) from HH4.out.row.cell 2)
      have q1 := later_cell (show w4.cell? ⟨ob, 1, none⟩ = some (.slice aR nR kR) from HH4.out.row.cell 1)
      have qx := later_cell e1
      go_upto_region 62 with fail
      clear e0 e1 e2 e3
      refine wp_region_idx Rb Rb_refl Rb_trans ([(0,0),(0,1),(0,2),(0,3),(0,4),(0,5),(0,6),(0,7),(0,8),(0,9),(0,10),(0,11),(0,12),(0,13),(0,14),(0,15),(0,16),(0,17),(0,18),(0,19),(0,20),(0,21),(0,22),(0,23),(0,24),(0,25),(0,26),(0,27),(0,28),(0,29),(2,30)]) (by kernel_rfl) (by kernel_rfl) (by kernel_rfl) ?_
      simp only [pickO, List.getD_cons_succ, List.getD_cons_zero]
      refine wpCan_seg 30 (by kernel_rfl) ?_
      simp only [List.take_succ_cons, List.take_zero, List.drop_succ_cons, List.drop_zero, List.map_cons, List.map_nil]
      iterate 30 (go_big_quiet_step (fail))
      refine wpQuiet_nil ?_
      clear q9 q5 q2 q1 qx
      have hr0 := HH4.out.row.drew
      refine wpCan_list (k := 1) (fun KK hK => ?_) (fun h => by cases h)
      refine wpL_storeAt rfl _ _ _ rfl rfl rfl rfl rfl (by kernel_rfl) hr0 rfl ?_
      intro w6 hg6 hr6
      have HH6 : Hid (MS W ob (.slice (some ⟨gF, oF, none⟩) nF kF) (.slice aR nR kR) f first aw nw cw (step + 1) ⟨p, hg, T, false, false⟩ tv w6) := Lib.hid ((HH4.out.fresh (Below.refl _ _).drew).put hg6 hr6 rfl)
      have HX6 : Hid (Row w6 kx 46 (insC x)) := Lib.hid (HX4.out.drew.grown hg6 (fun e => by have := Option.some.inj e; have := HKX.out; omega))
      clear hr0 hg6 hr6 HH4 HX4
      refine hK _ _ (fun h => by cases h) ?_
      clear hK KK
      unfold wpCan
      obtain ⟨w4, hw4⟩ : ∃ y, y = w6 := ⟨_, rfl⟩
      rw [← hw4] at HH6 HX6 ⊢
      clear hw4
      have HH4 := HH6
      have HX4 := HX6
      clear HH6 HX6
      have e1 : w4.cell? ⟨kx, 1, none⟩ = some (.int .i64 x.a) := HX4.out.cell 1
      have e2 : w4.cell? ⟨kx, 2, none⟩ = some (.int .i64 x.b) := HX4.out.cell 2
      have hwp := mway_p W ob _ _ f first aw nw cw (step + 1) ⟨p, hg, T, false, false⟩ tv w4 HH4.out ws HN.out.ws (by omega) wy (Lib.hid hwy)
      have hwl : wy < 256 := (by rw [hwy]; exact UInt8.toNat_lt _)
      clear hwy e1 e2
      go_upto_region 64 with fail
      refine hwp.mono ?_
      rintro e w6 ⟨rfl, hb6⟩
      clear hwp
      have HS6 := Lib.hid (HH4.out.fresh hb6)
      have HX6 := Lib.hid (HX4.out.after hb6)
      clear hb6 HH4 HX4
      have c5 : w6.cell? ⟨ob, 5, none⟩ = some (.int .i64 hg) := HS6.out.row.cell 5
      have c4 : w6.cell? ⟨ob, 4, none⟩ = some (.int .i64 (p : Nat)) := HS6.out.row.cell 4
      have f5 : w6.frozen? ⟨ob, 5, none⟩ = false := HS6.out.row.free 5
      have f4 : w6.frozen? ⟨ob, 4, none⟩ = false := HS6.out.row.free 4
      by_cases hy : wy % 2 = 1
      · have hyb : (((wy : Int) % 2) == 1) = true := (by rw [beq_iff_eq]; omega)
        go_upto_region 65 with fail
        have hgr := grown_setCell w6 ob 5 (.int .i64 (hg + 1))
        have HS7 : Hid (MS W ob (.slice (some ⟨gF, oF, none⟩) nF kF) (.slice aR nR kR) f first aw nw cw (step + 1) ⟨p, hg + 1, T, false, false⟩ tv (w6.setCell ⟨ob, 5, none⟩ (.int .i64 (hg + 1)))) := Lib.hid (HS6.out.put hgr (HS6.out.row.set 5 (.int .i64 (hg + 1))) rfl)
        have e2 : (w6.setCell ⟨ob, 5, none⟩ (.int .i64 (hg + 1))).cell? ⟨kx, 2, none⟩ = some (.int .i64 x.b) := (HX6.out.grown hgr (fun e => by have := Option.some.inj e; have := HKX.out; omega)).cell 2
        obtain ⟨w7, hw7⟩ : ∃ y, y = w6.setCell ⟨ob, 5, none⟩ (.int .i64 (hg + 1)) := ⟨_, rfl⟩
        rw [← hw7] at HS7 e2 ⊢
        clear c5 c4 f5 f4 hgr hw7 HS6 HX6
        have c4 : w7.cell? ⟨ob, 4, none⟩ = some (.int .i64 (p : Nat)) := HS7.out.row.cell 4
        have f4 : w7.frozen? ⟨ob, 4, none⟩ = false := HS7.out.row.free 4
        go_wp2_with fail
        first
          | go_end0
          | refine bodyPost_ret (results_none rfl _ _ _) rfl ?_
        exact ⟨tv, wy, rfl, by rw [HNX.out, if_pos hy]; exact HS7.out.put (grown_setCell w7 ob 4 _) (HS7.out.row.set 4 (.int .i64 x.b)) rfl⟩
      · have hyb : (((wy : Int) % 2) == 1) = false := (by rw [beq_eq_false_iff_ne]; omega)
        go_wp2_with fail
        first
          | go_end0
          | refine bodyPost_ret (results_none rfl _ _ _) rfl ?_
        exact ⟨tv, wy, rfl, by rw [HNX.out, if_neg hy]; exact HS6.out.put (grown_setCell w6 ob 4 _) (HS6.out.row.set 4 (.int .i64 ((p : Int) + 1))) rfl⟩
  · as_aux_lemma =>
      have HNX0 : Hid (nextM f nR first g 0 x ⟨p, hg, T, false, false⟩ = onM first 1 1 (badM (decide (f ≠ 0 ∨ x.a < 0 ∨ (nR : Int) ≤ x.a)) ⟨p, hg, T, false, false⟩)) := Lib.hid (by unfold nextM; simp [HO.out])
      have hbad : decide (f ≠ 0 ∨ x.a < 0 ∨ (nR : Int) ≤ x.a) = false := (by have h1 := HN.out.nx 0; rw [HNX0.out] at h1; have h2 := (on_wrong h1).1; simpa [badM] using h2)
      have HNX : Hid (nextM f nR first g 0 x ⟨p, hg, T, false, false⟩ = onM first (1 : Int) (1 : Int) ⟨p, hg, T, false, false⟩) := Lib.hid (by rw [HNX0.out, hbad, no_bad])
      have hno := of_decide_eq_false hbad
      have hf0 : ((f : Int) != 0) = false := (by have : f = 0 := by omega
                                                 subst this; rfl)
      have ha0 : ¬ x.a < 0 := by omega
      have ha1 : ¬ (nR : Int) ≤ x.a := by omega
      clear hbad hno
      have q9 := later_cell (show w4.cell? ⟨ob, 9, none⟩ = some (.bool false) from HH4.out.row.cell 9)
      have q5 := later_cell (show w4.cell? ⟨ob, 5, none⟩ = some (.int .i64 hg) from HH4.out.row.cell 5)
      have q2 := later_cell (show w4.cell? ⟨ob, 2, none⟩ = some (.int .i64 (f : Nat)) from HH4.out.row.cell 2)
      have q1 := later_cell (show w4.cell? ⟨ob, 1, none⟩ = some (.slice aR nR kR) from HH4.out.row.cell 1)
      have qx := later_cell e1
      go_upto_region 68 with fail
      clear e0 e1 e2 e3
      refine wp_region_idx Rb Rb_refl Rb_trans ([(0,0),(0,1),(0,2),(0,3),(0,4),(0,5),(0,6),(0,7),(0,8),(0,9),(0,10),(0,11),(0,12),(0,13),(0,14),(0,15),(0,16),(0,17),(0,18),(0,19),(0,20),(0,21),(0,22),(0,23),(0,24),(0,25),(0,26),(0,27),(0,28),(0,29),(2,30)]) (by kernel_rfl) (by kernel_rfl) (by kernel_rfl) ?_
      simp only [pickO, List.getD_cons_succ, List.getD_cons_zero]
      refine wpCan_seg 30 (by kernel_rfl) ?_
      simp only [List.take_succ_cons, List.take_zero, List.drop_succ_cons, List.drop_zero, List.map_cons, List.map_nil]
      iterate 30 (go_big_quiet_step (fail))
      refine wpQuiet_nil ?_
      clear q9 q5 q2 q1 qx
      have hr0 := HH4.out.row.drew
      refine wpCan_list (k := 1) (fun KK hK => ?_) (fun h => by cases h)
      refine wpL_storeAt rfl _ _ _ rfl rfl rfl rfl rfl (by kernel_rfl) hr0 rfl ?_
      intro w6 hg6 hr6
      have HH6 : Hid (MS W ob (.slice (some ⟨gF, oF, none⟩) nF kF) (.slice aR nR kR) f first aw nw cw (step + 1) ⟨p, hg, T, false, false⟩ tv w6) := Lib.hid ((HH4.out.fresh (Below.refl _ _).drew).put hg6 hr6 rfl)
      have HX6 : Hid (Row w6 kx 46 (insC x)) := Lib.hid (HX4.out.drew.grown hg6 (fun e => by have := Option.some.inj e; have := HKX.out; omega))
      clear hr0 hg6 hr6 HH4 HX4
      refine hK _ _ (fun h => by cases h) ?_
      clear hK KK
      unfold wpCan
      obtain ⟨w4, hw4⟩ : ∃ y, y = w6 := ⟨_, rfl⟩
      rw [← hw4] at HH6 HX6 ⊢
      clear hw4
      have HH4 := HH6
      have HX4 := HX6
      clear HH6 HX6
      have e1 : w4.cell? ⟨kx, 1, none⟩ = some (.int .i64 x.a) := HX4.out.cell 1
      have e2 : w4.cell? ⟨kx, 2, none⟩ = some (.int .i64 x.b) := HX4.out.cell 2
      have HLE : Hid (lowM first T ≤ hg - (1 : Int)) := Lib.hid (by have h1 := HN.out.nx 0; rw [HNX.out] at h1; exact (on_wrong h1).2)
      have hon := mon_p W ob _ _ f first aw nw cw (step + 1) ⟨p, hg, T, false, false⟩ tv w4 HH4.out hT9 (1 : Int) (1 : Int) (by simp only; omega) (by simp only; omega) (by simp only; omega) (by simp only; omega) (by decide) (by decide) (by decide) (by decide) HLE
      go_wp2_with fail
      refine hon.mono ?_
      rintro e w5 ⟨tv5, rfl, hs5, hm5⟩
      clear hon
      have HS5 := Lib.hid hs5
      clear hs5 hm5
      go_wp2_with fail
      first
        | go_end0
        | refine bodyPost_ret (results_none rfl _ _ _) rfl ?_
      exact ⟨tv5, 0, rfl, by rw [HNX.out]; exact HS5.out⟩
  · as_aux_lemma =>
      have HNX0 : Hid (nextM f nR first g 0 x ⟨p, hg, T, false, false⟩ = doneM (badM (decide (f ≠ 0 ∨ T ≠ [])) ⟨p, hg, T, false, false⟩)) := Lib.hid (by unfold nextM; simp [HO.out])
      have hbad : decide (f ≠ 0 ∨ T ≠ []) = false := (by have h1 := HN.out.nx 0; rw [HNX0.out] at h1; exact bad_wrong (m := ⟨p, hg, T, false, false⟩) h1)
      have HNX : Hid (nextM f nR first g 0 x ⟨p, hg, T, false, false⟩ = ⟨p, hg, T, false, true⟩) := Lib.hid (by rw [HNX0.out, hbad]; rfl)
      have hno := of_decide_eq_false hbad
      have hT0 : T = [] := Classical.byContradiction (fun h => hno (.inr h))
      have hf0 : ((f : Int) != 0) = false := (by have h9 : f = 0 := Classical.byContradiction (fun h => hno (.inl h)); rw [h9]; rfl)
      clear hbad hno HNX0
      subst hT0
      have ho := HH4.out.own
      simp only [List.length_nil] at ho
      obtain ⟨aT, cT, rfl⟩ := ho.form
      clear ho
      have c9 : w4.cell? ⟨ob, 9, none⟩ = some (.bool false) := HH4.out.row.cell 9
      have c2 : w4.cell? ⟨ob, 2, none⟩ = some (.int .i64 (f : Nat)) := HH4.out.row.cell 2
      have c6 : w4.cell? ⟨ob, 6, none⟩ = some (.slice aT 0 cT) := HH4.out.row.cell 6
      have f9 : w4.frozen? ⟨ob, 9, none⟩ = false := HH4.out.row.free 9
      go_upto_region 72 with fail
      have HH5 : Hid (MS W ob (.slice (some ⟨gF, oF, none⟩) nF kF) (.slice aR nR kR) f first aw nw cw (step + 1) ⟨p, hg, [], false, false⟩ (.slice aT 0 cT) (w4.setCell ⟨ob, 9, none⟩ (.bool false))) := Lib.hid (HH4.out.put (grown_setCell w4 ob 9 _) (HH4.out.row.set 9 (.bool false)) rfl)
      obtain ⟨w5, hw5⟩ : ∃ y, y = w4.setCell ⟨ob, 9, none⟩ (.bool false) := ⟨_, rfl⟩
      rw [← hw5] at HH5 ⊢
      clear c9 f9 c6 hw5 HH4
      have c10 : w5.cell? ⟨ob, 10, none⟩ = some (.bool false) := HH5.out.row.cell 10
      have f10 : w5.frozen? ⟨ob, 10, none⟩ = false := HH5.out.row.free 10
      go_wp2_with fail
      first
        | go_end0
        | refine bodyPost_ret (results_none rfl _ _ _) rfl ?_
      exact ⟨.slice aT 0 cT, 0, rfl, by rw [HNX.out]; exact HH5.out.put (grown_setCell w5 ob 10 _) (HH5.out.row.set 10 (.bool true)) rfl⟩
end Go.Proofs.YtoddklfblcfoiaaDoor
