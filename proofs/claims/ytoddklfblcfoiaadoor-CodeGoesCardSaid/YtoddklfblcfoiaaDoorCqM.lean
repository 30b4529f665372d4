/-
  The law's machine, walked: what is taken and put, what is raised. Condition: within a machine's reach.
-/
import Derived.Test.YtoddklfblcfoiaaDoorCqW
import Derived.Test.YtoddklfblcfoiaaDoorCpF
namespace Go.Proofs.YtoddklfblcfoiaaDoor
open Go Go.RowKit
set_option linter.unusedVariables false
set_option linter.unusedSimpArgs false
set_option maxRecDepth 100000

def trV (x : Int × Int) : List Value := [.int .i64 x.1, .int .i64 x.2]
theorem trV_len (x : Int × Int) : (trV x).length = 2 := rfl
abbrev trC (T : List (Int × Int)) : List Value := T.flatMap trV
theorem etTry : ET Tryd.prog 51 97 (.agg #[.int .i64 0, .int .i64 0]) 2 16 := ⟨Tryd.underlying51, by kernel_rfl, rfl, by decide⟩
def mchC (vF vR : Value) (f : Nat) (first : Int) (m : Ms) (tv : Value) (aw : Option Addr) (nw cw step : Nat) : List Value :=
  [vF, vR, .int .i64 (f : Nat), .int .i64 first, .int .i64 m.at_, .int .i64 m.h, tv, .slice aw nw cw, .int .i64 (step : Nat), .bool m.wrong, .bool m.done]
structure MS (W : World) (ob : Nat) (vF vR : Value) (f : Nat) (first : Int) (aw : Option Addr) (nw cw step : Nat) (m : Ms) (tv : Value) (w : World) : Prop where
  row : Row w ob 53 (mchC vF vR f first m tv aw nw cw step)
  own : Own w (ob + 1) 2 tv m.T.length (trC m.T)
  bel : Below W.heap.size W w
  ge : W.heap.size ≤ ob
theorem MS.fresh {W : World} {ob : Nat} {vF vR : Value} {f : Nat} {first : Int} {aw : Option Addr} {nw cw step : Nat} {m : Ms} {tv : Value} {w w' : World} (h : MS W ob vF vR f first aw nw cw step m tv w) (hb : Below w.heap.size w w') : MS W ob vF vR f first aw nw cw step m tv w' :=
  ⟨h.row.after hb, h.own.below hb, h.bel.trans (hb.mono h.bel.size), h.ge⟩
/-- a cell of the machine is written -/
theorem MS.put {W : World} {ob : Nat} {vF vR : Value} {f : Nat} {first : Int} {aw : Option Addr} {nw cw step : Nat} {m : Ms} {tv : Value} {w w' : World} (h : MS W ob vF vR f first aw nw cw step m tv w) {f' : Nat} {first' : Int} {step' : Nat} {m' : Ms} (hg : w.grownBy w' (some ob)) (hr : Row w' ob 53 (mchC vF vR f' first' m' tv aw nw cw step')) (hT : m'.T = m.T) : MS W ob vF vR f' first' aw nw cw step' m' tv w' := by
  refine ⟨hr, ?_, below_mods h.bel (Mods.grown hg) (fun g e => by have := Option.some.inj e; have := h.ge; omega) h.bel.size, h.ge⟩
  rw [hT]
  exact h.own.mods (Mods.grown hg) (fun g hg e => by have := h.own.lt g hg; have := Option.some.inj e; omega)
def MchR (W : World) (ob : Nat) (vF vR : Value) (f : Nat) (first : Int) (aw : Option Addr) (nw cw step : Nat) (m : Ms) (w : World) (e : Ending) (w' : World) : Prop :=
  ∃ tv, e = .returned (.tuple #[]) ∧ MS W ob vF vR f first aw nw cw step m tv w' ∧ Mods (fun g => g = ob) w w'
theorem tlast_at {T : List (Int × Int)} {x : Int × Int} {k : Nat} (h : T[k]? = some x) (hk : T.length = k + 1) : T.getLast? = some x := by
  rw [List.getLast?_eq_getElem?, hk]; exact h
theorem low_at {T : List (Int × Int)} {x : Int × Int} {k : Nat} (h : T[k]? = some x) (hk : T.length = k + 1) (first : Int) : lowM first T = max first x.2 := by
  unfold lowM
  simp only [tlast_at h hk]
set_option maxHeartbeats 2000000 in
theorem mleast_p (W : World) (ob : Nat) (vF vR : Value) (f : Nat) (first : Int) (aw : Option Addr) (nw cw step : Nat) (m : Ms) (tv : Value) (w : World) (h : MS W ob vF vR f first aw nw cw step m tv w) (hl : m.T.length ≤ 1000000000) (L : Int) (HL : Hid (L = lowM first m.T)) :
    Calls Tryd.prog 70 #[.pointer (some ⟨ob, 0, none⟩)] w fun e w' => e = .returned (.int .i64 L) ∧ Below w.heap.size w w' := by
  obtain ⟨n, hn⟩ : ∃ y, y = m.T.length := ⟨_, rfl⟩
  have HH := Lib.hid h
  have HN := Lib.hid hn
  have ho := h.own
  rw [← hn] at ho hl
  obtain ⟨aT, cT, rfl⟩ := ho.form
  have HO := Lib.hid ho.sl
  have c3 : w.cell? ⟨ob, 3, none⟩ = some (.int .i64 first) := h.row.cell 3
  have c6 : w.cell? ⟨ob, 6, none⟩ = some (.slice aT n cT) := h.row.cell 6
  clear h ho hn
  go_enter Tryd.func70, Tryd.ntmps70
  by_cases hn0 : n = 0
  · have hL : Hid (L = first) := Lib.hid (by rw [HL.out, List.eq_nil_of_length_eq_zero (l := m.T) (by rw [← HN.out]; exact hn0)]; rfl)
    subst hn0
    go_wp2_with fail
    go_ret
    rw [hL.out]
    exact ⟨rfl, Below.refl _ _⟩
  · obtain ⟨k, rfl⟩ : ∃ k, n = k + 1 := ⟨n - 1, by omega⟩
    obtain ⟨b5, o5, x, rfl, hx, hc5⟩ := HO.out.elem trV trV_len (by decide) k (by omega)
    have e1 := hc5 1 _ rfl
    have hL : Hid (L = max first x.2) := Lib.hid (by rw [HL.out]; exact low_at hx HN.out.symm first)
    clear hc5 hx hn0
    have hk0 : (0 : Int) < (k : Int) + 1 := by omega
    go_wp2_with fail
    go_quiet (fail)
    all_goals go_wp2_with fail
    all_goals
      go_ret
      rw [hL.out]
      first
        | (rw [show max first x.2 = x.2 by omega]; exact ⟨rfl, below_drewN (Below.refl _ _) _⟩)
        | (rw [show max first x.2 = first by omega]; exact ⟨rfl, below_drewN (Below.refl _ _) _⟩)
theorem on_is {first tk pt : Int} {m : Ms} (h : lowM first m.T ≤ m.h - tk) : onM first tk pt m = ⟨m.at_ + 1, m.h - tk + pt, m.T, m.wrong, m.done⟩ := by
  unfold onM
  rw [decide_eq_false (by omega), Bool.or_false]
set_option maxHeartbeats 4000000 in
theorem mon_p (W : World) (ob : Nat) (vF vR : Value) (f : Nat) (first : Int) (aw : Option Addr) (nw cw step : Nat) (m : Ms) (tv : Value) (w : World) (h : MS W ob vF vR f first aw nw cw step m tv w) (hl : m.T.length ≤ 1000000000) (tk pt : Int) (hh0 : 0 ≤ m.h) (hh1 : m.h ≤ 1000000000000) (ha0 : 0 ≤ m.at_) (ha1 : m.at_ ≤ 1000000000000) (ht0 : 0 ≤ tk) (ht1 : tk ≤ 65537) (hp0 : 0 ≤ pt) (hp1 : pt ≤ 65536) (hle : Hid (lowM first m.T ≤ m.h - tk)) :
    Calls Tryd.prog 47 #[.pointer (some ⟨ob, 0, none⟩), .int .i64 tk, .int .i64 pt] w fun e w' => MchR W ob vF vR f first aw nw cw step (onM first tk pt m) w e w' := by
  obtain ⟨L, hL⟩ : ∃ y, y = lowM first m.T := ⟨_, rfl⟩
  have HL := Lib.hid hL
  have hle2 : L ≤ m.h - tk := by rw [hL]; exact hle.out
  clear hL
  rw [on_is hle.out]
  obtain ⟨at_, hg, T, wr0, dn⟩ := m
  simp only at hl hh0 hh1 ha0 ha1 HL hle2 hle ⊢
  have q0 := later_cell (show w.cell? ⟨ob, 5, none⟩ = some (.int .i64 hg) from h.row.cell 5)
  have HH := Lib.hid h
  clear h
  go_enter Tryd.func47, Tryd.ntmps47
  go_upto_region 0 with fail
  refine wp_region_idx Rb Rb_refl Rb_trans [(0,0),(0,1),(0,2),(0,3),(0,4),(0,5),(0,6),(1,7),(0,8)] (by kernel_rfl) (by kernel_rfl) (by kernel_rfl) ?_
  simp only [pickO, List.getD_cons_succ, List.getD_cons_zero]
  refine wpCan_seg 7 (by kernel_rfl) ?_
  simp only [List.take_succ_cons, List.take_zero, List.drop_succ_cons, List.drop_zero, List.map_cons, List.map_nil]
  iterate 7 (go_big_quiet_step (fail))
  refine wpQuiet_nil ?_
  clear q0
  refine wpCan_list (k := 0) (fun KK hK => ?_) (fun _ => Rb_refl _)
  go_wp2_with fail
  refine (mleast_p W ob vF vR f first aw nw cw step ⟨at_, hg, T, wr0, dn⟩ tv w.drew (HH.out.fresh (Below.refl _ _).drew) hl L HL).mono ?_
  rintro e w2 ⟨rfl, hb2⟩
  go_wp2_with fail
  refine hK _ _ (fun _ => hb2) ?_
  clear hK KK
  have HH2 := Lib.hid (HH.out.fresh ((Below.refl w.heap.size w).drew.trans hb2))
  have HM2 : Hid (Mods (fun g => g = ob) w w2) := Lib.hid (Mods.fresh ((Below.refl w.heap.size w).drew.trans hb2) _)
  clear hb2 HH
  refine wpCan_seg 1 (by kernel_rfl) ?_
  simp only [List.take_succ_cons, List.take_zero, List.drop_succ_cons, List.drop_zero, List.map_cons, List.map_nil]
  iterate 1 (go_big_quiet_step (fail))
  refine wpQuiet_nil ?_
  unfold wpCan
  have hlt : ¬ hg - tk < L := by omega
  have d5 : w2.cell? ⟨ob, 5, none⟩ = some (.int .i64 hg) := HH2.out.row.cell 5
  have d4 : w2.cell? ⟨ob, 4, none⟩ = some (.int .i64 at_) := HH2.out.row.cell 4
  have hr := HH2.out.row
  go_upto_region 3 with (refine wpL_storeAt rfl _ _ _ rfl rfl rfl rfl rfl (by kernel_rfl) hr rfl ?_; intro w3 hg3 hr3)
  clear d5 d4 hr
  have HH3 : Hid (MS W ob vF vR f first aw nw cw step ⟨at_, hg - tk + pt, T, wr0, dn⟩ tv w3) := Lib.hid (HH2.out.put hg3 hr3 rfl)
  have HM3 : Hid (Mods (fun g => g = ob) w w3) := Lib.hid (HM2.out.trans ((Mods.grown hg3).mono fun g e => (Option.some.inj e).symm))
  clear hg3 hr3 HH2 HM2
  have d4 : w3.cell? ⟨ob, 4, none⟩ = some (.int .i64 at_) := HH3.out.row.cell 4
  have hr := HH3.out.row
  go_wp2_with (refine wpL_storeAt rfl _ _ _ rfl rfl rfl rfl rfl (by kernel_rfl) hr rfl ?_; intro w4 hg4 hr4)
  first
    | go_end0
    | refine bodyPost_ret (results_none rfl _ _ _) rfl ?_
  exact ⟨tv, rfl, HH3.out.put hg4 hr4 rfl, HM3.out.trans ((Mods.grown hg4).mono fun g e => (Option.some.inj e).symm)⟩
def wayN (ws : List UInt8) (step : Nat) : Nat := (ws.getD (step % ws.length) 0).toNat
set_option maxHeartbeats 2000000 in
theorem mway_p (W : World) (ob : Nat) (vF vR : Value) (f : Nat) (first : Int) (aw : Option Addr) (nw cw step : Nat) (m : Ms) (tv : Value) (w : World) (h : MS W ob vF vR f first aw nw cw step m tv w) (ws : List UInt8) (hws : Sl W 1 (.slice aw nw cw) nw (bvs ws)) (hst : step ≤ 1000000000) (wy : Nat) (HY : Hid (wy = wayN ws step)) :
    Calls Tryd.prog 50 #[.pointer (some ⟨ob, 0, none⟩)] w fun e w' => e = .returned (.int .u8 (wy : Nat)) ∧ Below w.heap.size w w' := by
  have HN := Lib.hid hws.len.1
  have HWS := Lib.hid (hws.below h.bel)
  have hnw := hws.len.2.1
  have c7 : w.cell? ⟨ob, 7, none⟩ = some (.slice aw nw cw) := h.row.cell 7
  have c8 : w.cell? ⟨ob, 8, none⟩ = some (.int .i64 (step : Nat)) := h.row.cell 8
  clear h hws
  go_enter Tryd.func50, Tryd.ntmps50
  by_cases hn0 : nw = 0
  · have hy : wy = 0 := by rw [HY.out]; unfold wayN; rw [List.eq_nil_of_length_eq_zero (l := ws) (by rw [HN.out]; exact hn0)]; rfl
    subst hn0 hy
    go_wp2_with fail
    go_ret
    exact ⟨rfl, Below.refl _ _⟩
  · obtain ⟨q, hq⟩ : ∃ y, y = step % nw := ⟨_, rfl⟩
    have hqn : q < nw := by rw [hq]; exact Nat.mod_lt _ (by omega)
    have hqi : (step : Int) % (nw : Int) = (q : Int) := by rw [hq]; omega
    have hb0 : ((nw : Int) == 0) = false := by rw [beq_eq_false_iff_ne]; omega
    have HYQ : Hid (wy = (ws.getD q 0).toNat) := Lib.hid (by rw [HY.out]; unfold wayN; rw [HN.out, hq])
    obtain ⟨b5, o5, rfl, hc5⟩ := HWS.out.byte hqn
    rw [← HYQ.out] at hc5
    clear hq
    go_wp2_with fail
    go_quiet (fail)
    go_wp2_with fail
    go_ret
    exact ⟨rfl, below_drewN (Below.refl _ _) _⟩
theorem tr_drop (T : List (Int × Int)) : (trC T).take ((T.length - 1) * 2) = trC T.dropLast := by
  rcases List.eq_nil_or_concat T with rfl | ⟨T', x, rfl⟩
  · rfl
  · have h1 : (trC T').length = T'.length * 2 := flat_len trV 2 trV_len T'
    simp only [List.concat_eq_append, List.length_append, List.length_singleton, Nat.add_sub_cancel, List.dropLast_concat]
    unfold trC at h1 ⊢
    rw [List.flatMap_append, ← h1, List.take_left]
theorem raise_is {m : Ms} {x : Int × Int} (hl : m.T.getLast? = some x) (hx : x.2 ≤ m.h) : raiseM m = ⟨x.1, x.2 + 1, m.T.dropLast, m.wrong, m.done⟩ := by
  unfold raiseM
  simp only [hl]
  rw [decide_eq_false (by omega), Bool.or_false]
set_option maxHeartbeats 4000000 in
theorem mraise_p (W : World) (ob : Nat) (vF vR : Value) (f : Nat) (first : Int) (aw : Option Addr) (nw cw step : Nat) (m : Ms) (tv : Value) (w : World) (h : MS W ob vF vR f first aw nw cw step m tv w) (hl : m.T.length ≤ 1000000000) (hw : m.wrong = false) (hb : ∀ x ∈ m.T, 0 ≤ x.2 ∧ x.2 ≤ 1000000000000) (hx : Hid (∀ x, m.T.getLast? = some x → x.2 ≤ m.h)) :
    Calls Tryd.prog 51 #[.pointer (some ⟨ob, 0, none⟩)] w fun e w' => MchR W ob vF vR f first aw nw cw step (raiseM m) w e w' := by
  obtain ⟨at_, hg, T, wr0, dn⟩ := m
  simp only at hl hw hb hx
  subst hw
  obtain ⟨n, hn⟩ : ∃ y, y = T.length := ⟨_, rfl⟩
  have HH := Lib.hid h
  have HN := Lib.hid hn
  have ho := h.own
  simp only at ho
  rw [← hn] at ho hl
  obtain ⟨aT, cT, rfl⟩ := ho.form
  have HO := Lib.hid ho
  have c6 : w.cell? ⟨ob, 6, none⟩ = some (.slice aT n cT) := h.row.cell 6
  clear h ho hn
  go_enter Tryd.func51, Tryd.ntmps51
  by_cases hn0 : n = 0
  · have hT : T = [] := List.eq_nil_of_length_eq_zero (by rw [← HN.out]; exact hn0)
    subst hn0 hT
    have hr := HH.out.row
    go_wp2_with (refine wpL_storeAt rfl _ _ _ rfl rfl rfl rfl rfl (by kernel_rfl) hr rfl ?_; intro w3 hg3 hr3)
    first
      | go_end0
      | refine bodyPost_ret (results_none rfl _ _ _) rfl ?_
    exact ⟨_, rfl, HH.out.put (m' := raiseM ⟨at_, hg, [], false, dn⟩) hg3 hr3 rfl, (Mods.grown hg3).mono fun g e => (Option.some.inj e).symm⟩
  · obtain ⟨k, rfl⟩ : ∃ k, n = k + 1 := ⟨n - 1, by omega⟩
    obtain ⟨b5, o5, x, rfl, hxk, hc5⟩ := HO.out.sl.elem trV trV_len (by decide) k (by omega)
    have e0 := hc5 0 _ rfl
    have e1 := hc5 1 _ rfl
    simp only [Nat.add_zero] at e0
    have hlast := tlast_at hxk HN.out.symm
    have hb1 := hb x (List.mem_of_getLast? hlast)
    have hlt : ¬ hg < x.2 := by have := hx.out x hlast; omega
    have HR : Hid (raiseM ⟨at_, hg, T, false, dn⟩ = ⟨x.1, x.2 + 1, T.dropLast, false, dn⟩) := Lib.hid (raise_is hlast (hx.out x hlast))
    obtain ⟨x1, x2⟩ := x
    simp only at e0 e1 hb1 hlt HR
    clear hc5 hxk hlast hb hn0
    have hk1 : ((k : Int) + 1 == 0) = false := by rw [beq_eq_false_iff_ne]; omega
    go_upto_region 4 with fail
    obtain ⟨w1, hw1⟩ : ∃ y, y = w.alloc (.cells #[.int .i64 x1, .int .i64 x2] 97) := ⟨_, rfl⟩
    have hbb : Below w.heap.size w w1 := by rw [hw1]; exact (Below.refl _ _).alloc (Nat.le_refl _) _
    obtain ⟨kx, hkx⟩ : ∃ y, y = w.heap.size := ⟨_, rfl⟩
    have HX1 : Hid (Row w1 kx 97 [.int .i64 x1, .int .i64 x2]) := Lib.hid (by rw [hw1, hkx]; exact Row.new w _ _)
    have HKX : Hid (ob < kx) := Lib.hid (by rw [hkx]; exact HH.out.row.lt)
    rw [← hw1, ← hkx]
    have HH1 := Lib.hid (HH.out.fresh hbb)
    have HM1 : Hid (Mods (fun g => g = ob) w w1) := Lib.hid (Mods.fresh hbb _)
    clear hbb hw1 hkx HH HO c6 e0 e1
    have q9 := later_cell (show w1.cell? ⟨ob, 9, none⟩ = some (.bool false) from HH1.out.row.cell 9)
    have q5 := later_cell (show w1.cell? ⟨ob, 5, none⟩ = some (.int .i64 hg) from HH1.out.row.cell 5)
    have qx := later_cell (show w1.cell? ⟨kx, 1, none⟩ = some (.int .i64 x2) from HX1.out.cell 1)
    refine wp_region_idx Rb Rb_refl Rb_trans [(0,0),(0,1),(0,2),(0,3),(0,4),(0,5),(0,6),(0,7),(0,8),(0,9),(0,10),(0,11),(0,12),(0,13),(0,14),(0,15),(2,16)] (by kernel_rfl) (by kernel_rfl) (by kernel_rfl) ?_
    simp only [pickO, List.getD_cons_succ, List.getD_cons_zero]
    refine wpCan_seg 16 (by kernel_rfl) ?_
    simp only [List.take_succ_cons, List.take_zero, List.drop_succ_cons, List.drop_zero, List.map_cons, List.map_nil]
    iterate 16 (go_big_quiet_step (fail))
    refine wpQuiet_nil ?_
    clear q9 q5 qx
    have hr0 := HH1.out.row.drew
    refine wpCan_list (k := 1) (fun KK hK => ?_) (fun h => by cases h)
    refine wpL_storeAt rfl _ _ _ rfl rfl rfl rfl rfl (by kernel_rfl) hr0 rfl ?_
    intro w2 hg2 hr2
    have HH2 : Hid (MS W ob vF vR f first aw nw cw step ⟨at_, hg, T, false, dn⟩ (.slice (some ⟨b5, o5, none⟩) (k + 1) cT) w2) := Lib.hid ((HH1.out.fresh (Below.refl _ _).drew).put hg2 hr2 rfl)
    have HM2 : Hid (Mods (fun g => g = ob) w w2) := Lib.hid ((HM1.out.trans (Mods.fresh (Below.refl w1.heap.size w1).drew _)).trans ((Mods.grown hg2).mono fun g e => (Option.some.inj e).symm))
    have HX2 : Hid (Row w2 kx 97 [.int .i64 x1, .int .i64 x2]) := Lib.hid (HX1.out.drew.grown hg2 (fun e => by have := Option.some.inj e; have := HKX.out; omega))
    clear hr0 hg2 hr2 HH1 HM1 HX1
    refine hK _ _ (fun h => by cases h) ?_
    clear hK KK
    unfold wpCan
    have c6 : w2.cell? ⟨ob, 6, none⟩ = some (.slice (some ⟨b5, o5, none⟩) (k + 1) cT) := HH2.out.row.cell 6
    have hr := HH2.out.row
    have hcap : k + 1 ≤ cT := HH2.out.own.sl.cap.1
    have hsl : ∀ wx : World, (Instr.slice 51 (.slice (some ⟨b5, o5, none⟩) (k + 1) cT) none (some (.int .i64 (k : Nat))) none).run Tryd.prog wx = .ok (.slice (some ⟨b5, o5, none⟩) k cT) wx := fun wx =>
      run_front wx Tryd.underlying51 (z := 2) (by kernel_rfl) b5 o5 (k + 1) cT k (by omega)
    go_upto_region 6 with (refine wpL_storeAt rfl _ _ _ rfl rfl rfl rfl rfl (by kernel_rfl) hr rfl ?_; intro w3 hg3 hr3)
    clear c6 hr hsl hcap
    have HH3 : Hid (MS W ob vF vR f first aw nw cw step ⟨at_, hg, T.dropLast, false, dn⟩ (.slice (some ⟨b5, o5, none⟩) k cT) w3) := Lib.hid (by
      have ho := HH2.out.own.mods (Mods.grown hg3) (fun g hg e => by have := HH2.out.own.lt g hg; have := Option.some.inj e; omega)
      simp only at ho
      rw [← HN.out] at ho
      have ho2 := ho.front (m := k) (by omega)
      have hd := tr_drop T
      rw [← HN.out] at hd
      rw [show k + 1 - 1 = k from rfl] at hd
      rw [hd] at ho2
      refine ⟨hr3, ?_, below_mods HH2.out.bel (Mods.grown hg3) (fun g e => by have := Option.some.inj e; have := HH2.out.ge; omega) HH2.out.bel.size, HH2.out.ge⟩
      simp only
      rw [List.length_dropLast, ← HN.out]
      exact ho2)
    have HM3 : Hid (Mods (fun g => g = ob) w w3) := Lib.hid (HM2.out.trans ((Mods.grown hg3).mono fun g e => (Option.some.inj e).symm))
    have HX3 : Hid (Row w3 kx 97 [.int .i64 x1, .int .i64 x2]) := Lib.hid (HX2.out.grown hg3 (fun e => by have := Option.some.inj e; have := HKX.out; omega))
    clear hg3 hr3 HH2 HM2 HX2
    have ex : w3.cell? ⟨kx, 1, none⟩ = some (.int .i64 x2) := HX3.out.cell 1
    have hr := HH3.out.row
    go_upto_region 7 with (refine wpL_storeAt rfl _ _ _ rfl rfl rfl rfl rfl (by kernel_rfl) hr rfl ?_; intro w4 hg4 hr4)
    clear ex hr
    have HH4 : Hid (MS W ob vF vR f first aw nw cw step ⟨at_, x2 + 1, T.dropLast, false, dn⟩ (.slice (some ⟨b5, o5, none⟩) k cT) w4) := Lib.hid (HH3.out.put hg4 hr4 rfl)
    have HM4 : Hid (Mods (fun g => g = ob) w w4) := Lib.hid (HM3.out.trans ((Mods.grown hg4).mono fun g e => (Option.some.inj e).symm))
    have HX4 : Hid (Row w4 kx 97 [.int .i64 x1, .int .i64 x2]) := Lib.hid (HX3.out.grown hg4 (fun e => by have := Option.some.inj e; have := HKX.out; omega))
    clear hg4 hr4 HH3 HM3 HX3
    have ex : w4.cell? ⟨kx, 0, none⟩ = some (.int .i64 x1) := HX4.out.cell 0
    have hr := HH4.out.row
    go_wp2_with (refine wpL_storeAt rfl _ _ _ rfl rfl rfl rfl rfl (by kernel_rfl) hr rfl ?_; intro w5 hg5 hr5)
    first
      | go_end0
      | refine bodyPost_ret (results_none rfl _ _ _) rfl ?_
    refine ⟨.slice (some ⟨b5, o5, none⟩) k cT, rfl, ?_, HM4.out.trans ((Mods.grown hg5).mono fun g e => (Option.some.inj e).symm)⟩
    rw [HR.out]
    exact HH4.out.put hg5 hr5 rfl
theorem some_is {first tk : Int} {way : Nat} {m : Ms} (h : lowM first m.T ≤ m.h - tk) : someM first tk way m = if way % 5 = 4 then raiseM ⟨m.at_ + 1, m.h - tk, m.T, m.wrong, m.done⟩ else ⟨m.at_ + 1, m.h - tk + 1, m.T, m.wrong, m.done⟩ := by
  unfold someM
  simp only
  rw [on_is h]
  simp only
  rw [show m.h - tk + 1 - 1 = m.h - tk by omega]
theorem low_ge {first : Int} {T : List (Int × Int)} {x : Int × Int} (h : T.getLast? = some x) : x.2 ≤ lowM first T := by
  unfold lowM
  simp only [h]
  omega
set_option maxHeartbeats 4000000 in
theorem msome_p (W : World) (ob : Nat) (vF vR : Value) (f : Nat) (first : Int) (aw : Option Addr) (nw cw step : Nat) (m : Ms) (tv : Value) (w : World) (h : MS W ob vF vR f first aw nw cw step m tv w) (hl : m.T.length ≤ 1000000000) (hw : m.wrong = false) (hb : ∀ x ∈ m.T, 0 ≤ x.2 ∧ x.2 ≤ 1000000000000) (tk : Int) (hh0 : 0 ≤ m.h) (hh1 : m.h ≤ 1000000000000) (ha0 : 0 ≤ m.at_) (ha1 : m.at_ ≤ 1000000000000) (ht0 : 0 ≤ tk) (ht1 : tk ≤ 65537) (hle : Hid (lowM first m.T ≤ m.h - tk)) (hf : 0 ≤ first)
    (ws : List UInt8) (hws : Sl W 1 (.slice aw nw cw) nw (bvs ws)) (hst : step ≤ 1000000000) (wy : Nat) (HY : Hid (wy = wayN ws step)) :
    Calls Tryd.prog 49 #[.pointer (some ⟨ob, 0, none⟩), .int .i64 tk] w fun e w' => MchR W ob vF vR f first aw nw cw step (someM first tk wy m) w e w' := by
  have HSI := Lib.hid (some_is (way := wy) hle.out)
  have HON := Lib.hid (on_is (pt := 1) hle.out)
  have HWY : Hid (wy < 256) := Lib.hid (by rw [HY.out]; exact UInt8.toNat_lt _)
  have hyl : wy < 256 := HWY.out
  have hwp := mway_p W ob vF vR f first aw nw cw step m tv w h ws hws hst wy HY
  have HH := Lib.hid h
  have HB := Lib.hid hb
  clear h hws hb
  obtain ⟨at_, hg, T, wr0, dn⟩ := m
  simp only at hl hw hh0 hh1 ha0 ha1 HSI HON hle HB
  subst hw
  go_enter Tryd.func49, Tryd.ntmps49
  go_upto_region 1 with fail
  refine hwp.mono ?_
  rintro e w1 ⟨rfl, hb1⟩
  clear hwp
  have HH1 := Lib.hid (HH.out.fresh hb1)
  have HM1 : Hid (Mods (fun g => g = ob) w w1) := Lib.hid (Mods.fresh hb1 _)
  clear hb1 HH
  have hon := mon_p W ob vF vR f first aw nw cw step ⟨at_, hg, T, false, dn⟩ tv w1 HH1.out hl tk 1 hh0 hh1 ha0 ha1 ht0 ht1 (by decide) (by decide) hle
  rw [HON.out] at hon
  go_upto_region 2 with fail
  refine hon.mono ?_
  rintro e w2 ⟨tv2, rfl, hs2, hm2⟩
  clear hon
  have HH2 := Lib.hid hs2
  have HM2 := Lib.hid (HM1.out.trans hm2)
  clear hs2 hm2 HH1 HM1
  by_cases hy : wy % 5 = 4
  · have hyb : (((wy : Int) % 5) == 4) = true := by rw [beq_iff_eq]; omega
    have d5 : w2.cell? ⟨ob, 5, none⟩ = some (.int .i64 (hg - tk + 1)) := HH2.out.row.cell 5
    have hr := HH2.out.row
    have HLQ : Hid (0 ≤ hg - tk) := Lib.hid (by have := least_ge first T; have := hle.out; omega)
    have hlq := HLQ.out
    go_upto_region 4 with (refine wpL_storeAt rfl _ _ _ rfl rfl rfl rfl rfl (by kernel_rfl) hr rfl ?_; intro w3 hg3 hr3)
    clear d5 hr
    have HH3 : Hid (MS W ob vF vR f first aw nw cw step ⟨at_ + 1, hg - tk, T, false, dn⟩ tv2 w3) := Lib.hid (HH2.out.put hg3 hr3 rfl)
    have HM3 : Hid (Mods (fun g => g = ob) w w3) := Lib.hid (HM2.out.trans ((Mods.grown hg3).mono fun g e => (Option.some.inj e).symm))
    have hra := mraise_p W ob vF vR f first aw nw cw step ⟨at_ + 1, hg - tk, T, false, dn⟩ tv2 w3 HH3.out hl rfl HB.out (Lib.hid (fun x hx => by have h1 : x.2 ≤ lowM first T := low_ge hx; have := hle.out; show x.2 ≤ hg - tk; omega))
    clear hg3 hr3 HH2 HM2
    go_wp2_with fail
    refine hra.mono ?_
    rintro e w4 ⟨tv4, rfl, hs4, hm4⟩
    clear hra
    have HS4 := Lib.hid hs4
    have HM4 := Lib.hid (HM3.out.trans hm4)
    clear hs4 hm4
    go_wp2_with fail
    first
      | go_end0
      | refine bodyPost_ret (results_none rfl _ _ _) rfl ?_
    rw [HSI.out, if_pos hy]
    exact ⟨_, rfl, HS4.out, HM4.out⟩
  · have hyb : (((wy : Int) % 5) == 4) = false := by rw [beq_eq_false_iff_ne]; omega
    go_wp2_with fail
    first
      | go_end0
      | refine bodyPost_ret (results_none rfl _ _ _) rfl ?_
    rw [HSI.out, if_neg hy]
    exact ⟨_, rfl, HH2.out, HM2.out⟩
end Go.Proofs.YtoddklfblcfoiaaDoor
