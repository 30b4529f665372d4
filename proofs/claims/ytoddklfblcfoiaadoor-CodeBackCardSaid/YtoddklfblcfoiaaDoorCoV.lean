/-
  on and moves, walked. Condition: code within a machine's reach.
-/
import Derived.Test.YtoddklfblcfoiaaDoorCoU
import Derived.Deep.CutBlock
namespace Go.Proofs.YtoddklfblcfoiaaDoor
open Go Go.RowKit Go.Maps
set_option linter.unusedVariables false
set_option linter.unusedSimpArgs false
set_option maxRecDepth 100000

theorem TrV.len {w : World} {base top : Nat} {B : Option Nat} {a : Option Addr} {n c : Nat} {T : List Nat} (h : TrV w base top B (.slice a n c) T) : n = T.length := h.1.cap.2.2.1
/-- what the outcome of a row of places comes to -/
def goTo (n : Nat) (o : Option (List (Int × Lb))) (K : Lab) (left : List Nat) : Option (Lab × List Nat) := match o with | none => none | some ts => toAll n ts K left
def OnR (w0 : World) (ob bm base top f : Nat) (l : List Ins) (g : Ins) (aC : Option Addr) (nC cC : Nat) (w : World) (vL : Value) (v : Value) (r : Option (Lab × List Nat)) (e : Ending) (w' : World) : Prop :=
  (∃ K' left' vL', Hid (r = some (K', left')) ∧ e = .returned v ∧ WkS w0 ob bm base top f l g aC nC cC w' vL' K' left' ∧ Mods (WkP ob bm vL) w w' ∧ ∀ g, vL'.ownBlock = some g → vL.ownBlock = some g ∨ w.heap.size ≤ g) ∨ (r = none ∧ e = .panicked wrongE ∧ Mods (WkP ob bm vL) w w')
theorem toAll_one (n : Nat) (z : Int × Lb) (K : Lab) (left : List Nat) : toAll n [z] K left = toS n z K left := by
  unfold toAll
  cases toS n z K left with
  | none => rfl
  | some q => rfl
set_option maxHeartbeats 4000000 in
theorem on_p (w0 : World) (ob bm base top f : Nat) (l : List Ins) (g : Ins) (aC : Option Addr) (nC cC : Nat) (w : World) (vL : Value) (K : Lab) (left : List Nat) (h : WkS w0 ob bm base top f l g aC nC cC w vL K left) (hn : nC ≤ 1000000) (hlf : left.length ≤ 10000000) (at_ : Nat) (hat : at_ ≤ 1000000) (s : Lb) (aT : Option (Nat × Nat)) (nT cT : Nat) (hT : TrV w base top vL.ownBlock (.slice (adrOf aT) nT cT) s.2) (htr : TriOk K s.2) (hs0 : 0 ≤ s.1) (hs1 : s.1 ≤ 1000000000000) (takes puts : Int) (ht0 : 0 ≤ takes) (ht1 : takes ≤ 65536) (hp0 : 0 ≤ puts) (hp1 : puts ≤ 65536) :
    Calls Tryd.prog 77 #[.pointer (some ⟨ob, 0, none⟩), .int .i64 (at_ : Nat), .agg #[.int .i64 s.1, .slice (adrOf aT) nT cT], .int .i64 takes, .int .i64 puts] w fun e w' => OnR w0 ob bm base top f l g aC nC cC w vL (.agg #[.int .i64 (s.1 + (puts - takes)), .slice (adrOf aT) nT cT]) (goTo nC (onV K f at_ s takes puts) K left) e w' := by
  obtain ⟨w1, hw1⟩ : ∃ y, y = (w.alloc (.cells #[.int .i64 s.1, .slice (adrOf aT) nT cT] 124)).alloc (.cells #[.int .i64 0, .slice none 0 0] 124) := ⟨_, rfl⟩
  have hall : Row w1 w.heap.size 124 [.int .i64 s.1, .slice (adrOf aT) nT cT] ∧ Row w1 (w.heap.size + 1) 124 [.int .i64 0, .slice none 0 0] ∧ Below w.heap.size w w1 ∧ w1.heap.size = w.heap.size + 1 + 1 := by
    rw [hw1]
    obtain ⟨wa, hwa⟩ : ∃ y, y = w.alloc (.cells #[.int .i64 s.1, .slice (adrOf aT) nT cT] 124) := ⟨_, rfl⟩
    have ra : Row wa w.heap.size 124 [.int .i64 s.1, .slice (adrOf aT) nT cT] := by rw [hwa]; exact Row.new w _ _
    have sa : wa.heap.size = w.heap.size + 1 := by rw [hwa]; simp
    have ba : Below w.heap.size w wa := by rw [hwa]; exact (Below.refl _ _).alloc (Nat.le_refl _) _
    rw [← hwa]
    clear hwa
    have rb := Row.new wa [.int .i64 0, .slice none 0 0] 124
    rw [sa] at rb
    have bb := (Below.refl wa.heap.size wa).alloc (Nat.le_refl _) (.cells [Value.int .i64 0, .slice none 0 0].toArray 124)
    exact ⟨ra.after bb, rb, ba.trans (bb.mono ba.size), by simp [sa]⟩
  obtain ⟨r1, r2, hb1, hs2⟩ := hall
  have H1 := Lib.hid (h.fresh hb1)
  have HB1 := Lib.hid hb1
  have HT1 := Lib.hid (hT.fresh hb1)
  have HR1 := Lib.hid r1
  have HR2 := Lib.hid r2
  have HS2 := Lib.hid hs2
  have q0 := later_cell (show w1.cell? ⟨w.heap.size, 0, none⟩ = some (.int .i64 s.1) from r1.cell 0)
  have q1 := later_cell (show w1.cell? ⟨w.heap.size, 1, none⟩ = some (.slice (adrOf aT) nT cT) from r1.cell 1)
  have HH := Lib.hid h
  have HT0 := Lib.hid hT
  clear r1 r2 hb1 hs2 h hT
  go_enter Tryd.func77, Tryd.ntmps77
  go_upto_region 1 with fail
  rw [← hw1]
  clear hw1
  refine wp_region_idxP Rb Rb_refl Rb_trans (fun c w' => c = wrongE ∧ Mods (WkP ob bm vL) w w' ∧ goTo nC (onV K f at_ s takes puts) K left = none) [(0,0),(0,1),(0,2),(0,3),(0,4),(0,5),(1,6),(0,7),(1,8)] (by kernel_rfl) [] (by kernel_rfl) (by kernel_rfl) (by kernel_rfl) ?_ ?_
  · rintro c a' w' hh ⟨rfl, hmm, hno⟩
    exact ⟨hh.1, .inr ⟨hno, rfl, hmm⟩⟩
  simp only [pickO, List.getD_cons_succ, List.getD_cons_zero]
  refine wpCanP_seg 6 (by kernel_rfl) ?_
  simp only [List.take_succ_cons, List.take_zero, List.drop_succ_cons, List.drop_zero, List.map_cons, List.map_nil]
  iterate 6 (go_big_quiet_step (fail))
  refine wpQuiet_nil ?_
  clear q0 q1
  refine wpCanP_list (k := 0) (fun KK hK hP => ?_) rfl
  go_wp2_with fail
  refine (floor_p w0 ob bm base top f l g aC nC cC w1.drew vL K left (H1.out.fresh (Below.refl _ _).drew) hn s (adrOf aT) nT cT (HT1.out.fresh (Below.refl _ _).drew) htr).mono ?_
  rintro e w2 ⟨rfl, hb2⟩
  have HB2 := Lib.hid ((Below.refl w1.heap.size w1).drew.trans hb2)
  go_wp2_with fail
  refine hK _ _ ⟨rfl, fun j hj => by cases hj⟩ (fun _ => hb2) ?_
  clear hK hP KK hb2
  obtain ⟨fl, hfl⟩ : ∃ z, z = floorV K f s := ⟨_, rfl⟩
  have HFL := Lib.hid hfl
  rw [← hfl]
  clear hfl
  by_cases hle : fl ≤ s.1 - takes
  · have HON : Hid (goTo nC (onV K f at_ s takes puts) K left = toS nC ((at_ : Int) + 1, (s.1 + (puts - takes), s.2)) K left) := Lib.hid (by rw [onV, if_pos (by rw [← HFL.out]; exact hle), goTo]; exact toAll_one ..)
    refine wpCanP_seg 1 (by kernel_rfl) ?_
    simp only [List.take_succ_cons, List.take_zero, List.drop_succ_cons, List.drop_zero, List.map_cons, List.map_nil]
    iterate 1 (go_big_quiet_step (fail))
    refine wpQuiet_nil ?_
    refine wpCanP_list (k := 0) (fun KK hK hP => ?_) rfl
    go_wp2_with fail
    refine (ask_yes w2).mono ?_
    rintro e w3 ⟨rfl, rfl⟩
    go_wp2_with fail
    refine hK _ _ ⟨rfl, fun j hj => by cases hj⟩ (fun _ => Below.refl _ _) ?_
    clear hK hP KK
    unfold wpCanP
    have HB3 := Lib.hid (HB1.out.trans (HB2.out.mono HB1.out.size))
    have H3 := Lib.hid (H1.out.fresh HB2.out)
    have HT3 := Lib.hid (HT1.out.fresh HB2.out)
    have HR3 := Lib.hid (HR1.out.after HB2.out)
    have HR4 := Lib.hid (HR2.out.after HB2.out)
    have c0 := HR3.out.cell 0
    have c1 := HR3.out.cell 1
    have f0 := HR3.out.free 0
    simp only [List.getElem?_cons_zero, List.getElem?_cons_succ] at c0 c1
    clear H1 HT1 HR1 HR2
    go_upto_region 3 with fail
    clear c0 c1 f0
    have hb9 : Below w.heap.size w (w3.setCell ⟨w.heap.size, 0, none⟩ (.int .i64 (s.1 + (puts - takes)))) := below_mods HB3.out (Mods.set _ _ _ _) (fun g hg => by omega) HB3.out.size
    have hr9 := HR3.out.set 0 (.int .i64 (s.1 + (puts - takes)))
    have hr9b := HR4.out.other (b' := w.heap.size) (o := 0) (by omega) (.int .i64 (s.1 + (puts - takes)))
    obtain ⟨w9, hw9⟩ : ∃ y, y = w3.setCell ⟨w.heap.size, 0, none⟩ (.int .i64 (s.1 + (puts - takes))) := ⟨_, rfl⟩
    rw [← hw9] at hb9 hr9 hr9b ⊢
    clear hw9
    have HB9 := Lib.hid hb9
    have HR9 := Lib.hid (show Row w9 w.heap.size 124 [.int .i64 (s.1 + (puts - takes)), .slice (adrOf aT) nT cT] from hr9)
    have HR9b := Lib.hid hr9b
    have c0 : w9.cell? ⟨w.heap.size, 0, none⟩ = some (.int .i64 (s.1 + (puts - takes))) := hr9.cell 0
    have c1 : w9.cell? ⟨w.heap.size, 1, none⟩ = some (.slice (adrOf aT) nT cT) := hr9.cell 1
    clear hb9 hr9 hr9b H3 HT3 HR3 HR4
    go_wp2_with fail
    refine (to_p w0 ob bm base top f l g aC nC cC w9 vL K left (HH.out.fresh HB9.out) hn hlf ((at_ : Int) + 1) (s.1 + (puts - takes), s.2) aT nT cT (HT0.out.fresh HB9.out)).mono ?_
    rintro e w5 (⟨K', left', vL', HR, rfl, h5, hm5, hv5⟩ | ⟨hno, rfl, hm5⟩)
    · have hlow : ∀ g, WkP ob bm vL g → g < w.heap.size := fun g hg => by
        have h1 := HH.out.obk
        have h2 := HH.out.bmk
        have h3 := HH.out.up
        rcases hg with e | e | e
        · omega
        · omega
        · exact HH.out.lft.lives g e
      have hr5 := HR9.out.mods hm5 (fun e => by have := hlow _ e; omega)
      have hr5b := HR9b.out.mods hm5 (fun e => by have := hlow _ e; omega)
      have H5 := Lib.hid h5
      have HM5 := Lib.hid hm5
      have HV5 := Lib.hid hv5
      have HLO := Lib.hid hlow
      clear h5 hm5 hv5 hlow c0 c1
      go_upto_region 4 with fail
      go_wp2_with (first | refine wpL_loadRow rfl _ _ rfl rfl hr5 Tryd.underlying124 rfl (by kernel_rfl) ?_ | (refine wpL_storeRow rfl _ _ _ rfl (cs := [.int .i64 (s.1 + (puts - takes)), .slice (adrOf aT) nT cT]) rfl rfl hr5b (by kernel_rfl) rfl rfl ?_; intro w6 hg6 hr6))
      try simp only [Exit.inBlock, Exit.then]
      refine bodyPost_ret (results_cell_row (P := Tryd.prog) rfl _ _ _ 124 #[.int .i64 (s.1 + (puts - takes)), .slice (adrOf aT) nT cT] (0, 0) _ rfl hr6 Tryd.underlying124 rfl (by kernel_rfl)) rfl ?_
      have hm6 := Mods.grown hg6
      refine .inl ⟨K', left', vL', Lib.hid (HON.out.trans HR.out), rfl, H5.out.mods hm6 (fun g hg => ?_), ((Mods.fresh HB9.out _).trans HM5.out).after hm6 (fun g hg => .inr ?_), fun g hg => (HV5.out g hg).imp id (fun h => Nat.le_trans HB9.out.size h)⟩
      · injection hg with hg
        have h3 := HH.out.up
        refine ⟨by omega, fun e => ?_⟩
        rcases HV5.out g e with h | h
        · have := HH.out.lft.lives g h; omega
        · have h9 := hr5b.lt
          have := HR9b.out.lt
          omega
      · injection hg with hg
        omega
    · go_wp2_with fail
      exact ⟨rfl, .inr ⟨HON.out.trans hno, rfl, (Mods.fresh HB9.out _).trans hm5⟩⟩
  · have HON : Hid (goTo nC (onV K f at_ s takes puts) K left = none) := Lib.hid (by rw [onV, if_neg (by rw [← HFL.out]; exact hle), goTo])
    refine wpCanP_seg 1 (by kernel_rfl) ?_
    simp only [List.take_succ_cons, List.take_zero, List.drop_succ_cons, List.drop_zero, List.map_cons, List.map_nil]
    iterate 1 (go_big_quiet_step (fail))
    refine wpQuiet_nil ?_
    refine wpCanP_list (k := 0) (fun KK hK hP => ?_) rfl
    go_wp2_with fail
    refine (ask_no w2).mono ?_
    rintro e w3 ⟨rfl, rfl⟩
    go_wp2_with fail
    exact hP _ _ _ ⟨rfl, (Mods.fresh HB1.out _).trans (Mods.fresh HB2.out _), HON.out⟩
set_option maxHeartbeats 8000000 in
theorem moves_p (W0 : World) (pb fuel pn : Nat) (HP0 : Hid (PrimsR W0 pb fuel pn)) (nF nR n : Nat) (x : Ins) (w : World) (hW0 : Hid (Below W0.heap.size W0 w)) (hop : Hid (opB nF nR n x = true)) (hF : nF ≤ 65536)
    (hno : x.op.toNat ≠ 3 ∧ x.op.toNat ≠ 4 ∧ x.op.toNat ≠ 5 ∧ x.op.toNat ≠ 8 ∧ x.op.toNat ≠ 9 ∧ x.op.toNat ≠ 10 ∧ x.op.toNat ≠ 17 ∧ x.op.toNat ≠ 18 ∧ x.op.toNat ≠ 19 ∧ x.op.toNat ≠ 23 ∧ x.op.toNat ≠ 24 ∧ x.op.toNat ≠ 25) :
    Calls Tryd.prog 80 #[.agg #[.int .u8 (x.op.toNat : Int), .int .i64 x.a, .int .i64 x.b, .int .i64 x.c, .string (str x.t)]] w fun e w' => e = .returned (.tuple #[.int .i64 (movesV x).1, .int .i64 (movesV x).2]) ∧ Below w.heap.size w w' := by
  have hr := op_range hop.out
  obtain ⟨w1, hw1⟩ : ∃ y, y = w.alloc (.cells #[.int .u8 (x.op.toNat : Int), .int .i64 x.a, .int .i64 x.b, .int .i64 x.c, .string (str x.t)] 46) := ⟨_, rfl⟩
  have hr1 : Row w1 w.heap.size 46 (insC x) := by rw [hw1]; exact Row.new w _ _
  have HBW : Hid (Below w.heap.size w w1) := Lib.hid (by rw [hw1]; exact (Below.refl _ _).alloc (Nat.le_refl _) _)
  have x0 : w1.cell? ⟨w.heap.size, 0, none⟩ = some (.int .u8 (x.op.toNat : Int)) := hr1.cell 0
  have x1 : w1.cell? ⟨w.heap.size, 1, none⟩ = some (.int .i64 x.a) := hr1.cell 1
  have x2 : w1.cell? ⟨w.heap.size, 2, none⟩ = some (.int .i64 x.b) := hr1.cell 2
  have x3 : w1.cell? ⟨w.heap.size, 3, none⟩ = some (.int .i64 x.c) := hr1.cell 3
  have x4 : w1.cell? ⟨w.heap.size, 4, none⟩ = some (.string (str x.t)) := hr1.cell 4
  clear hr1
  obtain ⟨o, ho⟩ : ∃ o, o = x.op.toNat := ⟨_, rfl⟩
  have HO := Lib.hid ho
  rw [← ho] at hr hno x0 hw1 ⊢
  clear ho
  go_enter Tryd.func80, Tryd.ntmps80
  go_upto_block 0 with fail
  rw [← hw1]
  clear hw1
  have hcs : o = 1 ∨ o = 2 ∨ o = 6 ∨ o = 7 ∨ o = 11 ∨ o = 12 ∨ o = 13 ∨ o = 14 ∨ o = 15 ∨ o = 16 ∨ o = 20 ∨ o = 21 ∨ o = 22 := by omega
  clear hr hno
  rcases hcs with rfl | rfl | rfl | rfl | rfl | rfl | rfl | rfl | rfl | rfl | rfl | rfl | rfl
  · as_aux_lemma =>
      have HV : Hid (movesV x = ((0, 1))) := Lib.hid (by rw [movesV, ← HO.out]; rfl)
      go_wp2_with fail
      go_ret2
      exact ⟨by rw [HV.out]; rfl, HBW.out⟩
  · as_aux_lemma =>
      have HV : Hid (movesV x = ((0, 1))) := Lib.hid (by rw [movesV, ← HO.out]; rfl)
      go_wp2_with fail
      go_ret2
      exact ⟨by rw [HV.out]; rfl, HBW.out⟩
  · as_aux_lemma =>
      have HV : Hid (movesV x = (x.c, x.b)) := Lib.hid (by rw [movesV, ← HO.out]; rfl)
      have q2 := later_cell x2
      have q3 := later_cell x3
      go_upto_region 3 with fail
      refine wp_region_idx Rb Rb_refl Rb_trans [(0,0),(0,1),(0,2),(0,3),(0,4),(0,5)] (by kernel_rfl) (by kernel_rfl) (by kernel_rfl) ?_
      simp only [pickO, List.getD_cons_succ, List.getD_cons_zero]
      refine wpCan_seg 6 (by kernel_rfl) ?_
      simp only [List.take_succ_cons, List.take_zero, List.drop_succ_cons, List.drop_zero, List.map_cons, List.map_nil]
      iterate 6 (go_big_quiet_step (fail))
      refine wpQuiet_nil ?_
      clear q2 q3
      unfold wpCan
      go_wp2_with fail
      go_ret2
      exact ⟨by rw [HV.out]; rfl, HBW.out.trans ((Below.refl _ _).drew.mono HBW.out.size)⟩
  · as_aux_lemma =>
      have HV : Hid (movesV x = ((2, 1))) := Lib.hid (by rw [movesV, ← HO.out]; rfl)
      go_wp2_with fail
      go_ret2
      exact ⟨by rw [HV.out]; rfl, HBW.out⟩
  · as_aux_lemma =>
      have HV : Hid (movesV x = ((x.a, 1))) := Lib.hid (by rw [movesV, ← HO.out]; rfl)
      go_wp2_with fail
      go_ret2
      exact ⟨by rw [HV.out]; rfl, HBW.out⟩
  · as_aux_lemma =>
      have HV : Hid (movesV x = ((1, 1))) := Lib.hid (by rw [movesV, ← HO.out]; rfl)
      go_wp2_with fail
      go_ret2
      exact ⟨by rw [HV.out]; rfl, HBW.out⟩
  · as_aux_lemma =>
      have HV : Hid (movesV x = ((x.b, 1))) := Lib.hid (by rw [movesV, ← HO.out]; rfl)
      go_wp2_with fail
      go_ret2
      exact ⟨by rw [HV.out]; rfl, HBW.out⟩
  · as_aux_lemma =>
      have HV : Hid (movesV x = ((1, 1))) := Lib.hid (by rw [movesV, ← HO.out]; rfl)
      go_wp2_with fail
      go_ret2
      exact ⟨by rw [HV.out]; rfl, HBW.out⟩
  · as_aux_lemma =>
      have HV : Hid (movesV x = ((1, 1))) := Lib.hid (by rw [movesV, ← HO.out]; rfl)
      go_wp2_with fail
      go_ret2
      exact ⟨by rw [HV.out]; rfl, HBW.out⟩
  · as_aux_lemma =>
      have HV : Hid (movesV x = (((takesN x.t : Nat) : Int), 1)) := Lib.hid (by rw [movesV, ← HO.out]; rfl)
      go_wp2_with fail
      refine (takes_p W0 pb fuel pn HP0 x.t w1 (hW0.out.trans (HBW.out.mono hW0.out.size))).mono ?_
      rintro e w2 ⟨rfl, hb2⟩
      have HB2 := Lib.hid (HBW.out.trans (hb2.mono HBW.out.size))
      clear hb2
      go_wp2_with fail
      go_ret2
      exact ⟨by rw [HV.out]; rfl, HB2.out⟩
  · as_aux_lemma =>
      have ha : 0 ≤ x.a ∧ x.a ≤ 65535 := by
        have h := hop.out
        rw [opB, ← HO.out] at h
        simp [opK, opV, inB] at h
        omega
      have ha1 := ha.1
      have ha2 := ha.2
      clear ha
      have HV : Hid (movesV x = ((x.a + 1, 1))) := Lib.hid (by rw [movesV, ← HO.out]; rfl)
      go_wp2_with fail
      go_ret2
      exact ⟨by rw [HV.out]; rfl, HBW.out⟩
  · as_aux_lemma =>
      have HV : Hid (movesV x = ((1, 0))) := Lib.hid (by rw [movesV, ← HO.out]; rfl)
      go_wp2_with fail
      go_ret2
      exact ⟨by rw [HV.out]; rfl, HBW.out⟩
  · as_aux_lemma =>
      have HV : Hid (movesV x = ((x.b, 1))) := Lib.hid (by rw [movesV, ← HO.out]; rfl)
      go_wp2_with fail
      go_ret2
      exact ⟨by rw [HV.out]; rfl, HBW.out⟩
end Go.Proofs.YtoddklfblcfoiaaDoor
