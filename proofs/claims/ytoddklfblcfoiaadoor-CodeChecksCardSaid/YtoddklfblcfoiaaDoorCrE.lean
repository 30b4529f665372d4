/-
  The document's walk through a function: to, on walked. Condition: code within a machine's reach.
-/
import Derived.Test.YtoddklfblcfoiaaDoorCrD
namespace Go.Proofs.YtoddklfblcfoiaaDoor
open Go Go.RowKit Go.Maps
set_option linter.unusedVariables false
set_option linter.unusedSimpArgs false
set_option maxRecDepth 100000

/-- what a call comes to, where a mark tells that it went wrong -/
def GoD (r : Option (Lab × List Nat)) (K : Lab) (left : List Nat) (bad : Bool) (K' : Lab) (left' : List Nat) (bad' : Bool) : Prop :=
  (bad' = false → bad = false ∧ r = some (K', left')) ∧ (bad' = true → bad = true ∨ r = none) ∧ (∀ q t, K q = some t → K' q = some t) ∧ left'.length ≤ left.length + 1
theorem GoD.bad {r : Option (Lab × List Nat)} {K : Lab} {left : List Nat} {bad : Bool} (h : bad = true ∨ r = none) : GoD r K left bad K left true := ⟨fun e => (by cases e), fun _ => h, fun _ _ h => h, by omega⟩
def DtR (w0 : World) (ob ba oa base top f : Nat) (vF vR : Value) (g : Ins) (nA : Nat) (w : World) (vL : Value) (r : Option (Lab × List Nat)) (K : Lab) (left : List Nat) (bad : Bool) (e : Ending) (w' : World) : Prop :=
  ∃ K' left' bad' vL', e = .returned (.tuple #[]) ∧ FlS w0 ob ba oa base top f vF vR g nA w' vL' K' left' bad' ∧ Mods (WkP ob ba vL) w w' ∧ (∀ g, vL'.ownBlock = some g → vL.ownBlock = some g ∨ w.heap.size ≤ g) ∧ Hid (GoD r K left bad K' left' bad')
/-- the mark is set in a world of the walk's -/
theorem FlS.marked {w0 : World} {ob ba oa base top f : Nat} {vF vR : Value} {g : Ins} {nA : Nat} {w w1 : World} {vL : Value} {K : Lab} {left : List Nat} {bad : Bool} (h : FlS w0 ob ba oa base top f vF vR g nA w1 vL K left bad) (hb : Below w.heap.size w w1) (b : Bool) : FlS w0 ob ba oa base top f vF vR g nA (w1.setCell ⟨ob, 8, none⟩ (.bool b)) vL K left b ∧ Mods (WkP ob ba vL) w (w1.setCell ⟨ob, 8, none⟩ (.bool b)) :=
  ⟨h.mark b (grown_setCell _ _ _ _) (h.row.set 8 (.bool b)), (Mods.fresh hb _).trans ((Mods.set _ _ _ _).mono fun g e => .inl e)⟩
set_option maxHeartbeats 1600000 in
theorem dto_out (w0 : World) (ob ba oa base top f : Nat) (vF vR : Value) (g : Ins) (nA : Nat) (w : World) (vL : Value) (K : Lab) (left : List Nat) (bad : Bool) (h : FlS w0 ob ba oa base top f vF vR g nA w vL K left bad) (at_ : Int) (is : Bool) (s : Lb) (aT : Option (Nat × Nat)) (nT cT : Nat) (hT : TrV w base top vL.ownBlock (.slice (adrOf aT) nT cT) s.2) (hout : ¬ (0 ≤ at_ ∧ at_ < nA)) :
    Calls Tryd.prog 68 #[.pointer (some ⟨ob, 0, none⟩), .int .i64 at_, .agg #[.bool is, .int .i64 s.1, .slice (adrOf aT) nT cT]] w fun e w' => DtR w0 ob ba oa base top f vF vR g nA w vL (toS nA (at_, s) K left) K left bad e w' := by
  have HO := Lib.hid (toS_out (K := K) (left := left) (z := (at_, s)) hout)
  by_cases h0 : 0 ≤ at_
  · have h1 : ¬ at_ < nA := fun e => hout ⟨h0, e⟩
    clear hout
    obtain ⟨w1, hw1⟩ : ∃ y, y = w.alloc (.cells #[.bool is, .int .i64 s.1, .slice (adrOf aT) nT cT] 132) := ⟨_, rfl⟩
    have hr1 : Row w1 w.heap.size 132 [.bool is, .int .i64 s.1, .slice (adrOf aT) nT cT] := by rw [hw1]; exact Row.new w _ _
    have hb1 : Below w.heap.size w w1 := by rw [hw1]; exact (Below.refl _ _).alloc (Nat.le_refl _) _
    have hs1 : w1.heap.size = w.heap.size + 1 := by rw [hw1]; simp
    have H := Lib.hid h
    have H1 := Lib.hid (h.fresh hb1)
    have HB1 := Lib.hid hb1
    have HT := Lib.hid (hT.fresh hb1)
    have HR1 := Lib.hid hr1
    have HS1 := Lib.hid hs1
    have k6 := H1.out.cells.2.1
    have k8 := H1.out.cells.2.2.2
    have z8 := H1.out.row.free 8
    clear hr1 hb1 hs1 h hT
    go_enter Tryd.func68, Tryd.ntmps68
    go_upto_region 1 with fail
    rw [← hw1]
    clear hw1
    go_wp2_with fail
    first
      | go_end0
      | refine bodyPost_ret (results_none rfl _ _ _) rfl ?_
    obtain ⟨e1, e2⟩ := H1.out.marked HB1.out true
    exact ⟨K, left, true, vL, rfl, e1, e2, fun g hg => .inl hg, Lib.hid (GoD.bad (.inr HO.out))⟩
  · clear hout
    obtain ⟨w1, hw1⟩ : ∃ y, y = w.alloc (.cells #[.bool is, .int .i64 s.1, .slice (adrOf aT) nT cT] 132) := ⟨_, rfl⟩
    have hr1 : Row w1 w.heap.size 132 [.bool is, .int .i64 s.1, .slice (adrOf aT) nT cT] := by rw [hw1]; exact Row.new w _ _
    have hb1 : Below w.heap.size w w1 := by rw [hw1]; exact (Below.refl _ _).alloc (Nat.le_refl _) _
    have hs1 : w1.heap.size = w.heap.size + 1 := by rw [hw1]; simp
    have H := Lib.hid h
    have H1 := Lib.hid (h.fresh hb1)
    have HB1 := Lib.hid hb1
    have HT := Lib.hid (hT.fresh hb1)
    have HR1 := Lib.hid hr1
    have HS1 := Lib.hid hs1
    have k6 := H1.out.cells.2.1
    have k8 := H1.out.cells.2.2.2
    have z8 := H1.out.row.free 8
    clear hr1 hb1 hs1 h hT
    go_enter Tryd.func68, Tryd.ntmps68
    go_upto_region 1 with fail
    rw [← hw1]
    clear hw1
    go_wp2_with fail
    first
      | go_end0
      | refine bodyPost_ret (results_none rfl _ _ _) rfl ?_
    obtain ⟨e1, e2⟩ := H1.out.marked HB1.out true
    exact ⟨K, left, true, vL, rfl, e1, e2, fun g hg => .inl hg, Lib.hid (GoD.bad (.inr HO.out))⟩
set_option maxHeartbeats 2000000 in
theorem dto_was (w0 : World) (ob ba oa base top f : Nat) (vF vR : Value) (g : Ins) (nA : Nat) (w : World) (vL : Value) (K : Lab) (left : List Nat) (bad : Bool) (h : FlS w0 ob ba oa base top f vF vR g nA w vL K left bad) (hn : nA ≤ 1000000) (p : Nat) (is : Bool) (s : Lb) (aT : Option (Nat × Nat)) (nT cT : Nat) (hT : TrV w base top vL.ownBlock (.slice (adrOf aT) nT cT) s.2) (s' : Lb) (hk : K p = some s') :
    Calls Tryd.prog 68 #[.pointer (some ⟨ob, 0, none⟩), .int .i64 (p : Nat), .agg #[.bool is, .int .i64 s.1, .slice (adrOf aT) nT cT]] w fun e w' => DtR w0 ob ba oa base top f vF vR g nA w vL (toS nA ((p : Int), s) K left) K left bad e w' := by
  have hp := (h.look hk).1
  have hp' : (p : Int) < nA := by omega
  have HO := Lib.hid (toS_was (s := s) (left := left) hp hk)
  have HK := Lib.hid hk
  clear hk
  obtain ⟨w1, hw1⟩ : ∃ y, y = w.alloc (.cells #[.bool is, .int .i64 s.1, .slice (adrOf aT) nT cT] 132) := ⟨_, rfl⟩
  have hr1 : Row w1 w.heap.size 132 [.bool is, .int .i64 s.1, .slice (adrOf aT) nT cT] := by rw [hw1]; exact Row.new w _ _
  have hb1 : Below w.heap.size w w1 := by rw [hw1]; exact (Below.refl _ _).alloc (Nat.le_refl _) _
  have hs1 : w1.heap.size = w.heap.size + 1 := by rw [hw1]; simp
  have H := Lib.hid h
  have H1 := Lib.hid (h.fresh hb1)
  have HB1 := Lib.hid hb1
  have HT := Lib.hid (hT.fresh hb1)
  have HR1 := Lib.hid hr1
  have HS1 := Lib.hid hs1
  have k6 := H1.out.cells.2.1
  have k8 := H1.out.cells.2.2.2
  have z8 := H1.out.row.free 8
  clear hr1 hb1 hs1 h hT
  go_enter Tryd.func68, Tryd.ntmps68
  go_upto_region 1 with fail
  rw [← hw1]
  clear hw1
  obtain ⟨_, a', c', hst0, hst1, hst2, htr'⟩ := H1.out.look HK.out
  have HTR := Lib.hid htr'
  clear htr'
  cases bad with
  | true =>
    go_upto_region 4 with fail
    have q8 := later_cell k8
    refine wp_region_idx Rb Rb_refl Rb_trans [(0,0),(0,1),(0,2),(0,3),(0,4),(0,5),(0,6),(0,7),(0,8),(0,9),(0,10),(0,11),(0,12),(0,13),(1,14),(0,15),(0,16),(0,17),(0,18),(2,19)] (by kernel_rfl) (by kernel_rfl) (by kernel_rfl) ?_
    simp only [pickO, List.getD_cons_succ, List.getD_cons_zero]
    refine wpCan_seg 14 (by kernel_rfl) ?_
    simp only [List.take_succ_cons, List.take_zero, List.drop_succ_cons, List.drop_zero, List.map_cons, List.map_nil]
    iterate 14 (go_big_quiet_step (fail))
    refine wpQuiet_nil ?_
    clear q8
    refine wpCan_list (k := 0) (fun KK hK => ?_) (fun _ => Rb_refl _)
    go_wp2_with fail
    refine hK _ _ (fun _ => Below.refl _ _) ?_
    clear hK KK
    refine wpCan_seg 4 (by kernel_rfl) ?_
    simp only [List.take_succ_cons, List.take_zero, List.drop_succ_cons, List.drop_zero, List.map_cons, List.map_nil]
    iterate 4 (go_big_quiet_step (fail))
    refine wpQuiet_nil ?_
    refine wpCan_list (k := 1) (fun KK hK => ?_) (fun h => by cases h)
    have HBd := Lib.hid (HB1.out.trans ((Below.refl w1.heap.size w1).drew.mono HB1.out.size))
    have Hd := Lib.hid (H1.out.fresh (Below.refl w1.heap.size w1).drew)
    obtain ⟨wd, hwd⟩ : ∃ y, y = w1.drew := ⟨_, rfl⟩
    have k8d := Hd.out.cells.2.2.2
    have z8d := Hd.out.row.free 8
    rw [← hwd] at HBd Hd k8d z8d ⊢
    clear hwd
    go_wp2_with fail
    refine hK _ _ (fun h => by cases h) ?_
    clear hK KK
    unfold wpCan
    go_wp2_with fail
    first
      | go_end0
      | refine bodyPost_ret (results_none rfl _ _ _) rfl ?_
    obtain ⟨e1, e2⟩ := Hd.out.marked HBd.out true
    exact ⟨K, left, true, vL, rfl, e1, e2, fun g hg => .inl hg, Lib.hid (GoD.bad (.inl rfl))⟩
  | false =>
    go_upto_region 4 with fail
    have q8 := later_cell k8
    have q6 := later_cell k6
    have q0 := later_cell hst0
    have q1 := later_cell hst1
    have q2 := later_cell hst2
    have b0 := later_cell (show w1.cell? ⟨w.heap.size, 0, none⟩ = some (.bool is) from HR1.out.cell 0)
    have b1 := later_cell (show w1.cell? ⟨w.heap.size, 1, none⟩ = some (.int .i64 s.1) from HR1.out.cell 1)
    have b2 := later_cell (show w1.cell? ⟨w.heap.size, 2, none⟩ = some (.slice (adrOf aT) nT cT) from HR1.out.cell 2)
    refine wp_region_idx Rb Rb_refl Rb_trans [(0,0),(0,1),(0,2),(0,3),(0,4),(0,5),(0,6),(0,7),(0,8),(0,9),(0,10),(0,11),(0,12),(0,13),(1,14),(0,15),(0,16),(0,17),(0,18),(2,19)] (by kernel_rfl) (by kernel_rfl) (by kernel_rfl) ?_
    simp only [pickO, List.getD_cons_succ, List.getD_cons_zero]
    refine wpCan_seg 14 (by kernel_rfl) ?_
    simp only [List.take_succ_cons, List.take_zero, List.drop_succ_cons, List.drop_zero, List.map_cons, List.map_nil]
    iterate 14 (go_big_quiet_step (fail))
    refine wpQuiet_nil ?_
    clear q8 q6 q0 q1 q2 b0 b1 b2
    obtain ⟨X, hX⟩ : ∃ X, X = decide (s'.1 = s.1 ∧ s'.2 = s.2) := ⟨_, rfl⟩
    have HX := Lib.hid hX
    clear hX
    have HBd := Lib.hid (HB1.out.trans ((Below.refl w1.heap.size w1).drew.mono HB1.out.size))
    have Hd := Lib.hid (H1.out.fresh (Below.refl w1.heap.size w1).drew)
    have t1 : Sl w1.drew 1 (.slice (adrOf aT) nT cT) nT (nats s.2) := by have := (HT.out.fresh (Below.refl w1.heap.size w1).drew).1; have e := this.cap.2.2.1; rw [← e] at this; exact this
    have t2 : Sl w1.drew 1 (.slice (adrOf a') s'.2.length c') s'.2.length (nats s'.2) := (HTR.out.fresh (Below.refl w1.heap.size w1).drew).1
    obtain ⟨wd, hwd⟩ : ∃ y, y = w1.drew := ⟨_, rfl⟩
    rw [← hwd] at HBd Hd t1 t2 ⊢
    clear hwd k6 k8 z8 hst0 hst1 hst2 HT HTR HR1 H1 HB1
    refine wpCan_list (k := 0) (fun KK hK => ?_) (fun _ => Rb_refl _)
    go_wp2_with fail
    refine (dsame_p true is s'.1 s.1 (adrOf a') s'.2.length c' (adrOf aT) nT cT s'.2 s.2 wd t2 t1 X HX).mono ?_
    rintro e w5 ⟨rfl, hb5⟩
    have HB5 := Lib.hid (HBd.out.trans (hb5.mono HBd.out.size))
    have H5 := Lib.hid (Hd.out.fresh hb5)
    go_wp2_with fail
    refine hK _ _ (fun _ => hb5) ?_
    clear hK KK hb5 t1 t2
    have k8d := H5.out.cells.2.2.2
    have z8d := H5.out.row.free 8
    cases X with
    | true =>
      have hs : s' = s := by have := of_decide_eq_true HX.out.symm; exact Prod.ext this.1 this.2
      rw [if_pos hs] at HO
      clear hs
      refine wpCan_seg 4 (by kernel_rfl) ?_
      simp only [List.take_succ_cons, List.take_zero, List.drop_succ_cons, List.drop_zero, List.map_cons, List.map_nil]
      iterate 4 (go_big_quiet_step (fail))
      refine wpQuiet_nil ?_
      refine wpCan_list (k := 1) (fun KK hK => ?_) (fun h => by cases h)
      go_wp2_with fail
      refine hK _ _ (fun h => by cases h) ?_
      clear hK KK
      unfold wpCan
      go_wp2_with fail
      first
        | go_end0
        | refine bodyPost_ret (results_none rfl _ _ _) rfl ?_
      obtain ⟨e1, e2⟩ := H5.out.marked HB5.out false
      exact ⟨K, left, false, vL, rfl, e1, e2, fun g hg => .inl hg, Lib.hid ⟨fun _ => ⟨rfl, HO.out⟩, fun h => (by cases h), fun _ _ h => h, by omega⟩⟩
    | false =>
      have hs : ¬ s' = s := fun e => by have := HX.out; rw [e] at this; simp at this
      rw [if_neg hs] at HO
      clear hs
      refine wpCan_seg 4 (by kernel_rfl) ?_
      simp only [List.take_succ_cons, List.take_zero, List.drop_succ_cons, List.drop_zero, List.map_cons, List.map_nil]
      iterate 4 (go_big_quiet_step (fail))
      refine wpQuiet_nil ?_
      refine wpCan_list (k := 1) (fun KK hK => ?_) (fun h => by cases h)
      go_wp2_with fail
      refine hK _ _ (fun h => by cases h) ?_
      clear hK KK
      unfold wpCan
      go_wp2_with fail
      first
        | go_end0
        | refine bodyPost_ret (results_none rfl _ _ _) rfl ?_
      obtain ⟨e1, e2⟩ := H5.out.marked HB5.out true
      exact ⟨K, left, true, vL, rfl, e1, e2, fun g hg => .inl hg, Lib.hid (GoD.bad (.inr HO.out))⟩
/-- a new place is laid into the array and behind those that are left -/
theorem FlS.add {w0 : World} {ob ba oa base top f : Nat} {vF vR : Value} {g : Ins} {nA : Nat} {w : World} {vL : Value} {K : Lab} {left : List Nat} {bad : Bool} (h : FlS w0 ob ba oa base top f vF vR g nA w vL K left bad) {p : Nat} (hp : p < nA) {s : Lb} {aT : Option (Nat × Nat)} {nT cT : Nat} (hT : TrV w base top vL.ownBlock (.slice (adrOf aT) nT cT) s.2) (hk : K p = none)
    {sts : List StD} (h1 : sts.length = nA) (h3 : ∀ p s, K p = some s → ∃ y, sts[p]? = some (true, y) ∧ y.1 = s.1 ∧ TrV w base top vL.ownBlock (sliceOf y) s.2) (h4 : ∀ p, p < nA → K p = none → ∃ y, sts[p]? = some (false, y))
    {w5 : World} (ho5 : Own w5 0 3 (.slice (some ⟨ba, oa, none⟩) nA nA) nA (sdCells (sts.set p (true, (s.1, aT, nT, cT))))) (hg5 : w.grownBy w5 (some ba)) {o : Obj} {w6 : World} {v6 : Value} (ho6 : Own w6 base 1 v6 (left.length + 1) (nats left ++ [.int .i64 (p : Nat)])) (hg6 : (w5.alloc o).grownBy w6 vL.ownBlock) (hc6 : ∀ g, v6.ownBlock = some g → vL.ownBlock = some g ∨ (w5.alloc o).heap.size ≤ g) :
    FlS w0 ob ba oa base top f vF vR g nA (w6.setCell ⟨ob, 7, none⟩ v6) v6 (setK K p s) (left ++ [p]) bad ∧ Mods (WkP ob ba vL) w (w6.setCell ⟨ob, 7, none⟩ v6) ∧ ∀ g, v6.ownBlock = some g → vL.ownBlock = some g ∨ w.heap.size ≤ g := by
  have hvl : ∀ g, vL.ownBlock = some g → base ≤ g := fun g hg => h.lft.lt g hg
  have e5 := Mods.grown hg5
  have ea : Mods (fun _ => False) w5 (w5.alloc o) := (Mods.refl _ _).alloc o
  have e6 := Mods.grown hg6
  have e7 := Mods.set w6 ob 7 v6
  have s5 := hg5.size
  have sa : (w5.alloc o).heap.size = w5.heap.size + 1 := by simp
  have hob := h.obk
  have hbm := h.bak
  have hne := h.ne
  have path : ∀ {v : Value} {T : List Nat}, TrV w base top vL.ownBlock v T → TrV (w6.setCell ⟨ob, 7, none⟩ v6) base top v6.ownBlock v T := by
    intro v T hv
    have t5 := hv.mods (B' := vL.ownBlock) h.up.2 e5 (fun g g1 _ _ e => by injection e with e; omega) (fun g hg => .inl hg)
    have ta := t5.mods (B' := vL.ownBlock) (by have := h.up; omega) ea (fun _ _ _ _ h => h) (fun g hg => .inl hg)
    have t6 := ta.mods (B' := v6.ownBlock) (by have := h.up; omega) e6 (fun g _ _ g2 e => g2 e.symm) hc6
    exact t6.mods (B' := v6.ownBlock) (by have := h.up; have := hg6.size; omega) e7 (fun g g1 _ _ e => by omega) (fun g hg => .inl hg)
  have hall : Mods (WkP ob ba vL) w (w6.setCell ⟨ob, 7, none⟩ v6) := (((e5.mono fun g e => by unfold WkP; injection e with e; exact .inr (.inl e.symm)).trans (ea.mono fun _ h => h.elim)).trans (e6.mono fun g e => .inr (.inr e))).trans (e7.mono fun g e => .inl e)
  refine ⟨⟨?_, ?_, ?_, hob, hbm, hne, ?_, ?_⟩, hall, fun g hg => ?_⟩
  · exact (((h.row.mods e5 (fun e => by injection e with e; omega)).alloc o).mods e6 (fun e => by have := hvl _ e; omega)).set 7 v6
  · refine ⟨sts.set p (true, (s.1, aT, nT, cT)), by rw [List.length_set]; exact h1, ?_, fun k t hkt => ?_, fun k hk1 hk2 => ?_⟩
    · have o1 := (ho5.alloc o).mods e6 (fun g hg e => by obtain rfl : ba = g := (by injection hg); have := hvl _ e; omega)
      exact o1.mods e7 (fun g hg e => by obtain rfl : ba = g := (by injection hg); omega)
    · unfold setK at hkt
      by_cases hkp : k = p
      · subst hkp
        rw [if_pos rfl] at hkt
        cases hkt
        exact ⟨(s.1, aT, nT, cT), by rw [List.getElem?_set_self (by omega)], rfl, path hT⟩
      · rw [if_neg hkp] at hkt
        obtain ⟨y, y1, y2, y3⟩ := h3 k t hkt
        exact ⟨y, by rw [List.getElem?_set_ne (fun e => hkp e.symm)]; exact y1, y2, path y3⟩
    · unfold setK at hk2
      by_cases hkp : k = p
      · rw [if_pos hkp] at hk2; cases hk2
      · rw [if_neg hkp] at hk2
        obtain ⟨y, y1⟩ := h4 k hk1 hk2
        exact ⟨y, by rw [List.getElem?_set_ne (fun e => hkp e.symm)]; exact y1⟩
  · rw [List.length_append, nats_append]
    exact ho6.far hob.2 _
  · exact below_mods h.bel hall (fun g hg => by
      rcases hg with e | e | e
      · omega
      · omega
      · have := hvl g e; omega) h.bel.size
  · have h1 := h.up
    have h2 := hall.size
    exact ⟨h1.1, by omega⟩
  · rcases hc6 g hg with h1 | h1
    · exact .inl h1
    · right; omega
set_option maxHeartbeats 2000000 in
theorem dto_new (w0 : World) (ob ba oa base top f : Nat) (vF vR : Value) (g : Ins) (nA : Nat) (w : World) (vL : Value) (K : Lab) (left : List Nat) (bad : Bool) (h : FlS w0 ob ba oa base top f vF vR g nA w vL K left bad) (hn : nA ≤ 1000000) (hlf : left.length ≤ 10000000) (p : Nat) (hp : p < nA) (is : Bool) (s : Lb) (aT : Option (Nat × Nat)) (nT cT : Nat) (hT : TrV w base top vL.ownBlock (.slice (adrOf aT) nT cT) s.2) (hk : K p = none) :
    Calls Tryd.prog 68 #[.pointer (some ⟨ob, 0, none⟩), .int .i64 (p : Nat), .agg #[.bool is, .int .i64 s.1, .slice (adrOf aT) nT cT]] w fun e w' => DtR w0 ob ba oa base top f vF vR g nA w vL (toS nA ((p : Int), s) K left) K left bad e w' := by
  have hp' : (p : Int) < nA := by omega
  have HO := Lib.hid (toS_new (s := s) (left := left) hp hk)
  have HK := Lib.hid hk
  have HTR := Lib.hid hT
  clear hk
  obtain ⟨w1, hw1⟩ : ∃ y, y = w.alloc (.cells #[.bool is, .int .i64 s.1, .slice (adrOf aT) nT cT] 132) := ⟨_, rfl⟩
  have hr1 : Row w1 w.heap.size 132 [.bool is, .int .i64 s.1, .slice (adrOf aT) nT cT] := by rw [hw1]; exact Row.new w _ _
  have hb1 : Below w.heap.size w w1 := by rw [hw1]; exact (Below.refl _ _).alloc (Nat.le_refl _) _
  have hs1 : w1.heap.size = w.heap.size + 1 := by rw [hw1]; simp
  have H := Lib.hid h
  have H1 := Lib.hid (h.fresh hb1)
  have HB1 := Lib.hid hb1
  have HT := Lib.hid (hT.fresh hb1)
  have HR1 := Lib.hid hr1
  have HS1 := Lib.hid hs1
  have k6 := H1.out.cells.2.1
  have k8 := H1.out.cells.2.2.2
  have z8 := H1.out.row.free 8
  clear hr1 hb1 hs1 h hT
  go_enter Tryd.func68, Tryd.ntmps68
  go_upto_region 1 with fail
  rw [← hw1]
  clear hw1
  have hst0 := H1.out.lookno hp HK.out
  have b0 : w1.cell? ⟨w.heap.size, 0, none⟩ = some (.bool is) := HR1.out.cell 0
  have z0 := HR1.out.free 0
  go_upto_region 6 with fail
  have hm2 := Mods.set w1 w.heap.size 0 (.bool true)
  have hr2 := HR1.out.set 0 (.bool true)
  obtain ⟨w2, hw2⟩ : ∃ y, y = w1.setCell ⟨w.heap.size, 0, none⟩ (.bool true) := ⟨_, rfl⟩
  rw [← hw2] at hm2 hr2 ⊢
  clear hw2
  have H2 := Lib.hid (H1.out.mods hm2 (fun g hg => by
    have h1 := H.out.up
    exact ⟨by omega, fun e => by have := H.out.lft.lives g e; omega⟩))
  have HT2 := Lib.hid (HT.out.mods (B' := vL.ownBlock) H1.out.up.2 hm2 (fun g _ g2 _ e => by have h1 := H.out.up; omega) (fun g hg => .inl hg))
  have HB2 := Lib.hid (below_mods HB1.out hm2 (fun g hg => by omega) HB1.out.size)
  have q0 := later_cell (show w2.cell? ⟨w.heap.size, 0, none⟩ = some (.bool true) from hr2.cell 0)
  have q1 := later_cell (show w2.cell? ⟨w.heap.size, 1, none⟩ = some (.int .i64 s.1) from hr2.cell 1)
  have q2 := later_cell (show w2.cell? ⟨w.heap.size, 2, none⟩ = some (.slice (adrOf aT) nT cT) from hr2.cell 2)
  have q6 := later_cell H2.out.cells.2.1
  have Hd := Lib.hid (H2.out.fresh (Below.refl w2.heap.size w2).drew)
  have HTd := Lib.hid (HT2.out.fresh (Below.refl w2.heap.size w2).drew)
  have HBd := Lib.hid (HB2.out.trans ((Below.refl w2.heap.size w2).drew.mono HB2.out.size))
  clear hr2 hm2 b0 z0 k6 k8 z8 hst0 H1 HT HR1 HB1 H2 HT2 HB2
  refine wp_region_idx Rb Rb_refl Rb_trans [(0,0),(0,1),(0,2),(0,3),(0,4),(0,5),(0,6),(2,7)] (by kernel_rfl) (by kernel_rfl) (by kernel_rfl) ?_
  simp only [pickO, List.getD_cons_succ, List.getD_cons_zero]
  refine wpCan_seg 7 (by kernel_rfl) ?_
  simp only [List.take_succ_cons, List.take_zero, List.drop_succ_cons, List.drop_zero, List.map_cons, List.map_nil]
  iterate 7 (go_big_quiet_step (fail))
  refine wpQuiet_nil ?_
  clear q0 q1 q2 q6
  obtain ⟨wd, hwd⟩ : ∃ y, y = w2.drew := ⟨_, rfl⟩
  rw [← hwd] at Hd HTd HBd ⊢
  clear hwd
  obtain ⟨sts, g1, g2, g3, g4⟩ := Hd.out.kn
  have G1 := Lib.hid g1
  have G2 := Lib.hid g2
  have G3 := Lib.hid g3
  have G4 := Lib.hid g4
  have HL3 : Hid (p * 3 + [Value.bool true, .int .i64 s.1, .slice (adrOf aT) nT cT].length ≤ (sdCells sts).length) := Lib.hid (by
    unfold sdCells
    rw [flat_len sdC 3 sdC_len, g1]
    show p * 3 + 3 ≤ nA * 3
    omega)
  clear g1 g2 g3 g4
  refine wpCan_list (k := 1) (fun KK hK => ?_) (fun h => by cases h)
  refine wpL_storeOwnS rfl _ _ _ rfl (cs := [.bool true, .int .i64 s.1, .slice (adrOf aT) nT cT]) rfl rfl (by simp [Value.oneCell']) (by kernel_rfl) G2.out (p * 3) rfl HL3.out ?_
  intro w5 hg5 ho5
  have ho5' : Own w5 0 3 (.slice (some ⟨ba, oa, none⟩) nA nA) nA (sdCells (sts.set p (true, (s.1, aT, nT, cT)))) := by
    rw [← sd_set sts p _ (by rw [G1.out]; exact hp)]
    exact ho5
  have HG5 := Lib.hid hg5
  have HO5 := Lib.hid ho5'
  clear hg5 ho5 ho5'
  refine hK _ _ (fun h => by cases h) ?_
  clear hK KK
  unfold wpCan
  have hr5 := Hd.out.row.mods (Mods.grown HG5.out) (fun e => by have := Hd.out.ne; injection e with e; omega)
  have k7 : w5.cell? ⟨ob, 7, none⟩ = some vL := hr5.cell 7
  have hO5 := Hd.out.lft.mods (Mods.grown HG5.out) (fun k hk e => by have := Hd.out.lft.lt k hk; have := Hd.out.bak; injection e with e; omega)
  have HOL := Lib.hid (hO5.alloc (.cells #[.int .i64 (p : Nat)] 3))
  have HS5 := Lib.hid (Sl.one w5 (.int .i64 (p : Nat)) 3)
  have HBS : Hid (base ≤ (w5.alloc (.cells #[.int .i64 (p : Nat)] 3)).heap.size) := Lib.hid (by have := Hd.out.up; have := HG5.out.size; simp; omega)
  have HR5 := Lib.hid (hr5.alloc (.cells #[.int .i64 (p : Nat)] 3))
  have HLF := Lib.hid hlf
  clear hr5 hO5
  go_wp2_with (at_builtin; refine wpL_appendX2 etI rfl _ _ rfl HOL.out rfl HS5.out rfl (by simp [Value.oneCell']) (by have := HLF.out; omega) (by have := HLF.out; simp [maxLen]; omega) HBS.out ?_; intro v6 w6 ho6 hg6 hc6; obtain ⟨a6, c6, rfl⟩ := ho6.form; have hr6 := HR5.out.mods (Mods.grown hg6) (fun e => by have := Hd.out.obk; have := HOL.out.lt _ e; omega); have d1 : w6.cell? ⟨ob, 7, none⟩ = some vL := hr6.cell 7; have d2 := hr6.free 7; have HO6 := Lib.hid ho6; have HG6 := Lib.hid hg6; have HC6 := Lib.hid hc6; clear ho6 hg6 hc6 hr6)
  first
    | go_end0
    | refine bodyPost_ret (results_none rfl _ _ _) rfl ?_
  obtain ⟨e1, e2, e3⟩ := Hd.out.add hp HTd.out HK.out G1.out G3.out G4.out HO5.out HG5.out HO6.out HG6.out HC6.out
  refine ⟨setK K p s, left ++ [p], bad, _, rfl, e1, (Mods.fresh HBd.out _).trans e2, fun g hg => (e3 g hg).imp id (fun h => Nat.le_trans HBd.out.size h), Lib.hid ⟨fun hb => ⟨hb, HO.out⟩, fun hb => .inl hb, fun q t hq => setK_mono HK.out q t hq, by simp⟩⟩
theorem dto_p (w0 : World) (ob ba oa base top f : Nat) (vF vR : Value) (g : Ins) (nA : Nat) (w : World) (vL : Value) (K : Lab) (left : List Nat) (bad : Bool) (h : FlS w0 ob ba oa base top f vF vR g nA w vL K left bad) (hn : nA ≤ 1000000) (hlf : left.length ≤ 10000000) (at_ : Int) (is : Bool) (s : Lb) (aT : Option (Nat × Nat)) (nT cT : Nat) (hT : TrV w base top vL.ownBlock (.slice (adrOf aT) nT cT) s.2) :
    Calls Tryd.prog 68 #[.pointer (some ⟨ob, 0, none⟩), .int .i64 at_, .agg #[.bool is, .int .i64 s.1, .slice (adrOf aT) nT cT]] w fun e w' => DtR w0 ob ba oa base top f vF vR g nA w vL (toS nA (at_, s) K left) K left bad e w' := by
  by_cases hr : 0 ≤ at_ ∧ at_ < nA
  · obtain ⟨p, rfl⟩ : ∃ p : Nat, at_ = p := ⟨at_.toNat, by omega⟩
    have hp : p < nA := by omega
    cases hk : K p with
    | some s' => exact dto_was w0 ob ba oa base top f vF vR g nA w vL K left bad h hn p is s aT nT cT hT s' hk
    | none => exact dto_new w0 ob ba oa base top f vF vR g nA w vL K left bad h hn hlf p hp is s aT nT cT hT hk
  · exact dto_out w0 ob ba oa base top f vF vR g nA w vL K left bad h at_ is s aT nT cT hT hr
set_option maxHeartbeats 2000000 in
theorem don_p (w0 : World) (ob ba oa base top f : Nat) (vF vR : Value) (g : Ins) (nA : Nat) (w : World) (vL : Value) (K : Lab) (left : List Nat) (bad : Bool) (h : FlS w0 ob ba oa base top f vF vR g nA w vL K left bad) (hn : nA ≤ 1000000) (hlf : left.length ≤ 10000000) (at_ : Nat) (hat : at_ ≤ 1000000) (is : Bool) (s : Lb) (aT : Option (Nat × Nat)) (nT cT : Nat) (hT : TrV w base top vL.ownBlock (.slice (adrOf aT) nT cT) s.2) (htr : TriOk K s.2) (hs0 : 0 ≤ s.1) (hs1 : s.1 ≤ 1000000000000) (takes puts : Int) (ht0 : 0 ≤ takes) (ht1 : takes ≤ 65536) (hp0 : 0 ≤ puts) (hp1 : puts ≤ 65536) :
    Calls Tryd.prog 82 #[.pointer (some ⟨ob, 0, none⟩), .int .i64 (at_ : Nat), .agg #[.bool is, .int .i64 s.1, .slice (adrOf aT) nT cT], .int .i64 takes, .int .i64 puts] w fun e w' => DtR w0 ob ba oa base top f vF vR g nA w vL (goTo nA (onV K f at_ s takes puts) K left) K left bad e w' := by
  obtain ⟨w1, hw1⟩ : ∃ y, y = w.alloc (.cells #[.bool is, .int .i64 s.1, .slice (adrOf aT) nT cT] 132) := ⟨_, rfl⟩
  have hr1 : Row w1 w.heap.size 132 [.bool is, .int .i64 s.1, .slice (adrOf aT) nT cT] := by rw [hw1]; exact Row.new w _ _
  have hb1 : Below w.heap.size w w1 := by rw [hw1]; exact (Below.refl _ _).alloc (Nat.le_refl _) _
  have H := Lib.hid h
  have HT := Lib.hid hT
  have H1 := Lib.hid (h.fresh hb1)
  have HT1 := Lib.hid (hT.fresh hb1)
  have HB1 := Lib.hid hb1
  have HR1 := Lib.hid hr1
  have q0 := later_cell (show w1.cell? ⟨w.heap.size, 0, none⟩ = some (.bool is) from hr1.cell 0)
  have q1 := later_cell (show w1.cell? ⟨w.heap.size, 1, none⟩ = some (.int .i64 s.1) from hr1.cell 1)
  have q2 := later_cell (show w1.cell? ⟨w.heap.size, 2, none⟩ = some (.slice (adrOf aT) nT cT) from hr1.cell 2)
  clear hr1 hb1 h hT
  go_enter Tryd.func82, Tryd.ntmps82
  go_upto_region 1 with fail
  rw [← hw1]
  clear hw1
  refine wp_region_idx Rb Rb_refl Rb_trans [(0,0),(0,1),(0,2),(0,3),(0,4),(0,5),(1,6),(0,7)] (by kernel_rfl) (by kernel_rfl) (by kernel_rfl) ?_
  simp only [pickO, List.getD_cons_succ, List.getD_cons_zero]
  refine wpCan_seg 6 (by kernel_rfl) ?_
  simp only [List.take_succ_cons, List.take_zero, List.drop_succ_cons, List.drop_zero, List.map_cons, List.map_nil]
  iterate 6 (go_big_quiet_step (fail))
  refine wpQuiet_nil ?_
  clear q0 q1 q2
  refine wpCan_list (k := 0) (fun KK hK => ?_) (fun _ => Rb_refl _)
  go_wp2_with fail
  refine (dfloor_p w0 ob ba oa base top f vF vR g nA w1.drew vL K left bad (H1.out.fresh (Below.refl _ _).drew) hn is s (adrOf aT) nT cT (HT1.out.fresh (Below.refl _ _).drew) htr).mono ?_
  rintro e w2 ⟨rfl, hb2⟩
  have HB2 := Lib.hid ((Below.refl w1.heap.size w1).drew.trans hb2)
  go_wp2_with fail
  refine hK _ _ (fun _ => hb2) ?_
  clear hK KK hb2
  obtain ⟨fl, hfl⟩ : ∃ z, z = floorV K f s := ⟨_, rfl⟩
  have HFL := Lib.hid hfl
  rw [← hfl]
  clear hfl
  have HB3 := Lib.hid (HB1.out.trans (HB2.out.mono HB1.out.size))
  have H3 := Lib.hid (H1.out.fresh HB2.out)
  have HR3 := Lib.hid (HR1.out.after HB2.out)
  clear HB1 HB2 H1 HR1 HT1
  have k8 := H3.out.cells.2.2.2
  have z8 := H3.out.row.free 8
  by_cases hle : fl ≤ s.1 - takes
  · have HON : Hid (goTo nA (onV K f at_ s takes puts) K left = toS nA ((at_ : Int) + 1, (s.1 + (puts - takes), s.2)) K left) := Lib.hid (by rw [onV, if_pos (by rw [← HFL.out]; exact hle), goTo]; exact toAll_one ..)
    have hle' : ¬ s.1 - takes < fl := by omega
    refine wpCan_seg 1 (by kernel_rfl) ?_
    simp only [List.take_succ_cons, List.take_zero, List.drop_succ_cons, List.drop_zero, List.map_cons, List.map_nil]
    iterate 1 (go_big_quiet_step (fail))
    refine wpQuiet_nil ?_
    unfold wpCan
    have c1 : w2.cell? ⟨w.heap.size, 1, none⟩ = some (.int .i64 s.1) := HR3.out.cell 1
    have f1 := HR3.out.free 1
    go_upto_region 4 with fail
    clear c1 f1
    have hb9 := below_mods HB3.out (Mods.set w2 w.heap.size 1 (.int .i64 (s.1 - takes + puts))) (fun g hg => by omega) HB3.out.size
    have hr9 := HR3.out.set 1 (.int .i64 (s.1 - takes + puts))
    obtain ⟨w9, hw9⟩ : ∃ y, y = w2.setCell ⟨w.heap.size, 1, none⟩ (.int .i64 (s.1 - takes + puts)) := ⟨_, rfl⟩
    rw [← hw9] at hb9 hr9 ⊢
    clear hw9 k8 z8 hle hle'
    have HB9 := Lib.hid hb9
    have c0 : w9.cell? ⟨w.heap.size, 0, none⟩ = some (.bool is) := hr9.cell 0
    have c1 : w9.cell? ⟨w.heap.size, 1, none⟩ = some (.int .i64 (s.1 - takes + puts)) := hr9.cell 1
    have c2 : w9.cell? ⟨w.heap.size, 2, none⟩ = some (.slice (adrOf aT) nT cT) := hr9.cell 2
    clear hb9 hr9 H3 HR3 HB3
    go_wp2_with fail
    have hto := dto_p w0 ob ba oa base top f vF vR g nA w9 vL K left bad (H.out.fresh HB9.out) hn hlf ((at_ : Int) + 1) is (s.1 + (puts - takes), s.2) aT nT cT (HT.out.fresh HB9.out)
    rw [show (s.1 + (puts - takes), s.2).1 = s.1 - takes + puts by simp only; omega] at hto
    refine hto.mono ?_
    clear hto
    rintro e w5 ⟨K', left', bad', vL', rfl, h5, hm5, hv5, hg5⟩
    have H5 := Lib.hid h5
    have HM5 := Lib.hid hm5
    have HV5 := Lib.hid hv5
    clear h5 hm5 hv5
    go_wp2_with fail
    first
      | go_end0
      | refine bodyPost_ret (results_none rfl _ _ _) rfl ?_
    exact ⟨K', left', bad', vL', rfl, H5.out, (Mods.fresh HB9.out _).trans HM5.out, fun g hg => (HV5.out g hg).imp id (fun h => Nat.le_trans HB9.out.size h), Lib.hid (by rw [HON.out]; exact hg5.out)⟩
  · have HON : Hid (goTo nA (onV K f at_ s takes puts) K left = none) := Lib.hid (by rw [onV, if_neg (by rw [← HFL.out]; exact hle), goTo])
    have hle' : s.1 - takes < fl := by omega
    refine wpCan_seg 1 (by kernel_rfl) ?_
    simp only [List.take_succ_cons, List.take_zero, List.drop_succ_cons, List.drop_zero, List.map_cons, List.map_nil]
    iterate 1 (go_big_quiet_step (fail))
    refine wpQuiet_nil ?_
    unfold wpCan
    go_wp2_with fail
    first
      | go_end0
      | refine bodyPost_ret (results_none rfl _ _ _) rfl ?_
    obtain ⟨e1, e2⟩ := H3.out.marked HB3.out true
    exact ⟨K, left, true, vL, rfl, e1, e2, fun g hg => .inl hg, Lib.hid (GoD.bad (.inr HON.out))⟩
end Go.Proofs.YtoddklfblcfoiaaDoor
