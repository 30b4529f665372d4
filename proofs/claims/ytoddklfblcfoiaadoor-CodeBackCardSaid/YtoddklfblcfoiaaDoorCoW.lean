/-
  One step of the walk through a function, walked. Condition: code within a machine's reach.
-/
import Derived.Test.YtoddklfblcfoiaaDoorCoV
import Derived.Test.YtoddklfblcfoiaaDoorCanT
import Derived.Test.YtoddklfblcfoiaaDoorRound
namespace Go.Proofs.YtoddklfblcfoiaaDoor
open Go Go.RowKit Go.Maps
set_option linter.unusedVariables false
set_option linter.unusedSimpArgs false
set_option maxRecDepth 100000

def StepR (w0 : World) (ob bm base top f : Nat) (l : List Ins) (g : Ins) (aC : Option Addr) (nC cC : Nat) (w : World) (vL : Value) (r : Option (Lab × List Nat)) (e : Ending) (w' : World) : Prop :=
  (∃ K' left' vL' top', Hid (r = some (K', left')) ∧ e = .returned (.tuple #[]) ∧ WkS w0 ob bm base top' f l g aC nC cC w' vL' K' left' ∧ Mods (WkP ob bm vL) w w' ∧ ∀ g, vL'.ownBlock = some g → vL.ownBlock = some g ∨ w.heap.size ≤ g) ∨ (r = none ∧ e = .panicked wrongE ∧ Mods (WkP ob bm vL) w w')
section
variable {w0 : World} {ob bm base top f : Nat} {l : List Ins} {g : Ins} {aC : Option Addr} {nC cC : Nat} {w w1 w' : World} {vL vL' : Value} {K K' : Lab} {left left' : List Nat} {r : Option (Lab × List Nat)} {e : Ending}
theorem ToR.step (h : ToR w0 ob bm base top f l g aC nC cC w1 vL r e w') (hb : Below w.heap.size w w1) : StepR w0 ob bm base top f l g aC nC cC w vL r e w' := by
  rcases h with ⟨K', left', vL', h1, h2, h3, h4, h5⟩ | ⟨h1, h2, h3⟩
  · exact .inl ⟨K', left', vL', top, h1, h2, h3, (Mods.fresh hb _).trans h4, fun g hg => (h5 g hg).imp id (fun h => Nat.le_trans hb.size h)⟩
  · exact .inr ⟨h1, h2, (Mods.fresh hb _).trans h3⟩
theorem WkS.low (h : WkS w0 ob bm base top f l g aC nC cC w vL K left) : ∀ g, WkP ob bm vL g → g < w.heap.size := fun g hg => by
  have h1 := h.obk
  have h2 := h.bmk
  have h3 := h.up
  rcases hg with e | e | e
  · omega
  · omega
  · exact h.lft.lives g e
theorem TrV.past {v : Value} {T : List Nat} (hv : TrV w base top vL.ownBlock v T) (h : WkS w0 ob bm base top f l g aC nC cC w vL K left) (hm : Mods (WkP ob bm vL) w w') (hl : ∀ g, vL'.ownBlock = some g → vL.ownBlock = some g ∨ w.heap.size ≤ g) : TrV w' base top vL'.ownBlock v T :=
  hv.mods h.up.2 hm (fun g g1 g2 g3 e => by
    have h1 := h.obk
    have h2 := h.bmk
    rcases e with e | e | e
    · omega
    · omega
    · exact g3 e.symm) hl
theorem toAll_two (n : Nat) (y z : Int × Lb) (K : Lab) (left : List Nat) {K' : Lab} {left' : List Nat} (h : toS n y K left = some (K', left')) : toAll n [y, z] K left = toS n z K' left' := by
  unfold toAll
  rw [h]
  exact toAll_one n z K' left'
theorem toS_len {n : Nat} {z : Int × Lb} {K K' : Lab} {left left' : List Nat} (h : toS n z K left = some (K', left')) : left'.length ≤ left.length + 1 := by
  unfold toS at h
  split at h
  · split at h
    · split at h
      · cases h; omega
      · cases h
    · cases h; simp
  · cases h
theorem toAll_no (n : Nat) (y : Int × Lb) (ts : List (Int × Lb)) (K : Lab) (left : List Nat) (h : toS n y K left = none) : toAll n (y :: ts) K left = none := by
  unfold toAll
  rw [h]
theorem WkP.past (hl : ∀ g, vL'.ownBlock = some g → vL.ownBlock = some g ∨ w.heap.size ≤ g) : ∀ g, WkP ob bm vL' g → WkP ob bm vL g ∨ w.heap.size ≤ g := fun g hg => by
  rcases hg with e | e | e
  · exact .inl (.inl e)
  · exact .inl (.inr (.inl e))
  · exact (hl g e).imp (fun h => .inr (.inr h)) id
/-- behind a first call a second one -/
theorem ToR.after (hm : Mods (WkP ob bm vL) w w1) (hl : ∀ g, vL'.ownBlock = some g → vL.ownBlock = some g ∨ w.heap.size ≤ g) (h : ToR w0 ob bm base top f l g aC nC cC w1 vL' r e w') : StepR w0 ob bm base top f l g aC nC cC w vL r e w' := by
  rcases h with ⟨K2, left2, vL2, h1, h2, h3, h4, h5⟩ | ⟨h1, h2, h3⟩
  · refine .inl ⟨K2, left2, vL2, top, h1, h2, h3, hm.after h4 (WkP.past hl), fun g hg => ?_⟩
    rcases h5 g hg with h | h
    · exact hl g h
    · exact .inr (Nat.le_trans hm.size h)
  · exact .inr ⟨h1, h2, hm.after h3 (WkP.past hl)⟩
end
def RkW (ob bm : Nat) (vL : Value) (x y : World) : Prop := Mods (WkP ob bm vL) x y
theorem RkW_refl (ob bm : Nat) (vL : Value) (w : World) : RkW ob bm vL w w := Mods.refl _ _
theorem RkW_trans (ob bm : Nat) (vL : Value) (x y z : World) (h : RkW ob bm vL x y) (k : RkW ob bm vL y z) : RkW ob bm vL x z := Mods.trans h k
instance laterRkW (ob bm : Nat) (vL : Value) (w : World) : Nonempty (Later (RkW ob bm vL) w) := nonemptyLater (RkW_refl ob bm vL) w
theorem laterW_cell {ob bm : Nat} {vL : Value} {w : World} {b o : Nat} {v : Value} (h : w.cell? ⟨b, o, none⟩ = some v) (hn : ¬ WkP ob bm vL b) : ∀ x : Later (RkW ob bm vL) w.drew, x.w.cell? ⟨b, o, none⟩ = some v :=
  fun x => (Mods.trans ((Mods.refl (WkP ob bm vL) w).drew) x.later).cell h hn
section
variable {K : Lab} {f : Nat} {g : Ins} {at_ : Nat} {x : Ins} {s : Lb}
theorem outs4 (h : 4 = x.op.toNat) : outs K f g at_ x s = if x.a < g.c then onV K f at_ s 0 1 else none := by rw [outs, ← h]; rfl
theorem outs5 (h : 5 = x.op.toNat) : outs K f g at_ x s = if x.a < g.b then onV K f at_ s 0 1 else none := by rw [outs, ← h]; rfl
theorem outs8 (h : 8 = x.op.toNat) : outs K f g at_ x s = if 0 < f ∧ s.1 = 2 ∧ s.2 = [] then some [] else none := by rw [outs, ← h]; rfl
theorem outs25 (h : 25 = x.op.toNat) : outs K f g at_ x s = if f = 0 ∧ s.2 = [] then some [] else none := by rw [outs, ← h]; rfl
theorem outs17 (h : 17 = x.op.toNat) : outs K f g at_ x s = if floorV K f s ≤ s.1 - 1 then some [] else none := by rw [outs, ← h]; rfl
theorem outs10 (h : 10 = x.op.toNat) : outs K f g at_ x s = if floorV K f s ≤ s.1 - 1 then some [((at_ : Int) + 1, (s.1 - 1, s.2)), (x.a, (s.1 - 1, s.2))] else none := by rw [outs, ← h]; rfl
theorem outs18 (h : 18 = x.op.toNat) : outs K f g at_ x s = some [((at_ : Int) + 1, (s.1, s.2 ++ [at_])), (x.a, (s.1 + 1, s.2))] := by rw [outs, ← h]; rfl
theorem outs19 (h : 19 = x.op.toNat) : outs K f g at_ x s = (match s.2.getLast? with | none => none | some p => if s.1 = hOf K p + 1 then some [((at_ : Int) + 1, (s.1, s.2.dropLast))] else none) := by rw [outs, ← h]; rfl
theorem outs23 (h : 23 = x.op.toNat) : outs K f g at_ x s = if f = 0 then some [((at_ : Int) + 1, s), (x.b, (s.1 + 1, s.2))] else none := by rw [outs, ← h]; rfl
theorem outs24 (h : 24 = x.op.toNat) : outs K f g at_ x s = if f = 0 then onV K f at_ s 1 1 else none := by rw [outs, ← h]; rfl
end
/-- what a step is walked from -/
structure StpH (w0 : World) (ob bm base top f : Nat) (l : List Ins) (g : Ins) (aC : Option Addr) (nC cC : Nat) (w : World) (vL : Value) (K : Lab) (left : List Nat) (at_ : Nat) (x : Ins) (s : Lb) (aT : Option (Nat × Nat)) (nT cT : Nat) : Prop where
  wk : WkS w0 ob bm base top f l g aC nC cC w vL K left
  tr : TrV w base top vL.ownBlock (.slice (adrOf aT) nT cT) s.2
  ok : TriOk K s.2
  len : nC ≤ 1000000
  lft : left.length ≤ 9000000
  at_ : at_ < nC
  h0 : 0 ≤ s.1
  h1 : s.1 ≤ 1000000000000
  kb : ∀ p t, K p = some t → 0 ≤ t.1 ∧ t.1 ≤ 1000000000000
  tl : s.2.length ≤ 1000000
theorem tryS {w0 : World} {ob bm base top f : Nat} {l : List Ins} {g : Ins} {aC : Option Addr} {nC cC : Nat} {w w' : World} {vL : Value} {K : Lab} {left : List Nat} (h : WkS w0 ob bm base top f l g aC nC cC w vL K left) (hb : Below w.heap.size w w') {a : Option (Nat × Nat)} {n c : Nat} {T : List Nat} (ht : TrV w base top vL.ownBlock (.slice (adrOf a) n c) T) {v6 : Value} {U : List Nat} (ho : Own w' w.heap.size 1 v6 (n + 1) (nats U)) :
    ∃ a6 c6, v6 = .slice (adrOf a6) (n + 1) c6 ∧ WkS w0 ob bm base w'.heap.size f l g aC nC cC w' vL K left ∧ TrV w' base w'.heap.size vL.ownBlock (.slice (adrOf a6) (n + 1) c6) U ∧ TrV w' base w'.heap.size vL.ownBlock (.slice (adrOf a) n c) T := by
  obtain ⟨g6, off, cap, rfl, e1, e2, e3, e4, e5⟩ := ho.open (by omega) (by decide)
  have hu := h.up
  have hs := hb.size
  have hl : U.length = n + 1 := by rw [nats_length] at e5; omega
  refine ⟨some (g6, off), cap, rfl, (h.fresh hb).raise (by omega) (Nat.le_refl _), ⟨?_, ?_, some (g6, off), cap, by rw [hl]⟩, (ht.fresh hb).raise (by omega)⟩
  · rw [hl]; exact ho.sl
  · intro g hg
    obtain rfl : g6 = g := by injection hg
    have hb0 : base ≤ g6 := by omega
    refine ⟨hb0, e2, fun e => ?_⟩
    have := h.lft.lives g6 e.symm
    omega
theorem TrV.drop {w : World} {base top : Nat} {B : Option Nat} {a : Option (Nat × Nat)} {n c : Nat} {T : List Nat} (h : TrV w base top B (.slice (adrOf a) n c) T) : TrV w base top B (.slice (adrOf a) (n - 1) c) T.dropLast := by
  obtain ⟨h1, h2, _⟩ := h
  have hn := h1.cap.2.2.1
  have e1 : T.dropLast.length = n - 1 := by rw [List.length_dropLast]; omega
  refine ⟨?_, by intro g hg; cases a with | none => cases hg | some p => exact h2 g hg, a, c, by rw [e1]⟩
  rw [← hn] at h1
  have h3 := h1.front (m := n - 1) (by omega)
  have e2 : nats T.dropLast = (nats T).take ((n - 1) * 1) := by
    rw [nats, nats, List.dropLast_eq_take, List.map_take, Nat.mul_one, hn]
  rw [e1, e2]
  exact h3
set_option maxHeartbeats 8000000 in
theorem step_p (W0 : World) (pb fuel pn : Nat) (HP0 : Hid (PrimsR W0 pb fuel pn)) (nF nR : Nat) (w0 : World) (ob bm base top f : Nat) (l : List Ins) (g : Ins) (aC : Option Addr) (nC cC : Nat) (w : World) (vL : Value) (K : Lab) (left : List Nat) (at_ : Nat) (x : Ins) (s : Lb) (aT : Option (Nat × Nat)) (nT cT : Nat) (hW0 : Hid (Below W0.heap.size W0 w)) (H : Hid (StpH w0 ob bm base top f l g aC nC cC w vL K left at_ x s aT nT cT)) (hop : Hid (opB nF nR nC x = true)) (hF : nF ≤ 65536) (hm : Hid (Moves1 x)) :
    Calls Tryd.prog 66 #[.pointer (some ⟨ob, 0, none⟩), .int .i64 (at_ : Nat), .agg #[.int .u8 (x.op.toNat : Int), .int .i64 x.a, .int .i64 x.b, .int .i64 x.c, .string (str x.t)], .agg #[.int .i64 s.1, .slice (adrOf aT) nT cT]] w fun e w' => StepR w0 ob bm base top f l g aC nC cC w vL (goTo nC (outs K f g at_ x s) K left) e w' := by
  have hr := op_range hop.out
  obtain ⟨w1, hw1⟩ : ∃ y, y = (w.alloc (.cells #[.int .u8 (x.op.toNat : Int), .int .i64 x.a, .int .i64 x.b, .int .i64 x.c, .string (str x.t)] 46)).alloc (.cells #[.int .i64 s.1, .slice (adrOf aT) nT cT] 124) := ⟨_, rfl⟩
  have hall : Row w1 w.heap.size 46 (insC x) ∧ Row w1 (w.heap.size + 1) 124 [.int .i64 s.1, .slice (adrOf aT) nT cT] ∧ Below w.heap.size w w1 ∧ w1.heap.size = w.heap.size + 1 + 1 := by
    rw [hw1]
    obtain ⟨wa, hwa⟩ : ∃ y, y = w.alloc (.cells #[.int .u8 (x.op.toNat : Int), .int .i64 x.a, .int .i64 x.b, .int .i64 x.c, .string (str x.t)] 46) := ⟨_, rfl⟩
    have ra : Row wa w.heap.size 46 (insC x) := by rw [hwa]; exact Row.new w _ _
    have sa : wa.heap.size = w.heap.size + 1 := by rw [hwa]; simp
    have ba : Below w.heap.size w wa := by rw [hwa]; exact (Below.refl _ _).alloc (Nat.le_refl _) _
    rw [← hwa]
    clear hwa
    have rb := Row.new wa [.int .i64 s.1, .slice (adrOf aT) nT cT] 124
    rw [sa] at rb
    have bb := (Below.refl wa.heap.size wa).alloc (Nat.le_refl _) (.cells [Value.int .i64 s.1, .slice (adrOf aT) nT cT].toArray 124)
    exact ⟨ra.after bb, rb, ba.trans (bb.mono ba.size), by simp [sa]⟩
  obtain ⟨r1, r2, hb1, hs2⟩ := hall
  have HRX := Lib.hid r1
  have HRS := Lib.hid r2
  have HB1 := Lib.hid hb1
  have HS1 := Lib.hid hs2
  have H1 := Lib.hid (H.out.wk.fresh hb1)
  have HT1 := Lib.hid (H.out.tr.fresh hb1)
  have x0 : w1.cell? ⟨w.heap.size, 0, none⟩ = some (.int .u8 (x.op.toNat : Int)) := r1.cell 0
  have x1 : w1.cell? ⟨w.heap.size, 1, none⟩ = some (.int .i64 x.a) := r1.cell 1
  have s0 : w1.cell? ⟨w.heap.size + 1, 0, none⟩ = some (.int .i64 s.1) := r2.cell 0
  have s1 : w1.cell? ⟨w.heap.size + 1, 1, none⟩ = some (.slice (adrOf aT) nT cT) := r2.cell 1
  have f0 : w1.cell? ⟨ob, 0, none⟩ = some (.int .i64 (f : Nat)) := H1.out.row.cell 0
  have hlen := H.out.len
  have hatl := H.out.at_
  have hh0 := H.out.h0
  have hh1 := H.out.h1
  clear r1 r2 hb1 hs2
  obtain ⟨o, ho⟩ : ∃ o, o = x.op.toNat := ⟨_, rfl⟩
  have HO := Lib.hid ho
  rw [← ho] at hr x0 hw1 ⊢
  clear ho
  go_enter Tryd.func66, Tryd.ntmps66
  go_upto_block 0 with fail
  rw [← hw1]
  clear hw1
  have hcs : o = 1 ∨ o = 2 ∨ o = 3 ∨ o = 4 ∨ o = 5 ∨ o = 6 ∨ o = 7 ∨ o = 8 ∨ o = 9 ∨ o = 10 ∨ o = 11 ∨ o = 12 ∨ o = 13 ∨ o = 14 ∨ o = 15 ∨ o = 16 ∨ o = 17 ∨ o = 18 ∨ o = 19 ∨ o = 20 ∨ o = 21 ∨ o = 22 ∨ o = 23 ∨ o = 24 ∨ o = 25 := by omega
  clear hr
  rcases hcs with rfl | rfl | rfl | rfl | rfl | rfl | rfl | rfl | rfl | rfl | rfl | rfl | rfl | rfl | rfl | rfl | rfl | rfl | rfl | rfl | rfl | rfl | rfl | rfl | rfl
  · as_aux_lemma =>
      have HOU : Hid (outs K f g at_ x s = onV K f at_ s (movesV x).1 (movesV x).2) := Lib.hid (by rw [outs, ← HO.out]; rfl)
      have x2 : w1.cell? ⟨w.heap.size, 2, none⟩ = some (.int .i64 x.b) := HRX.out.cell 2
      have x3 : w1.cell? ⟨w.heap.size, 3, none⟩ = some (.int .i64 x.c) := HRX.out.cell 3
      have x4 : w1.cell? ⟨w.heap.size, 4, none⟩ = some (.string (str x.t)) := HRX.out.cell 4
      have hmv := moves_p W0 pb fuel pn HP0 nF nR nC x w1 (Lib.hid (hW0.out.trans (HB1.out.mono hW0.out.size))) hop hF (by rw [← HO.out]; decide)
      rw [← HO.out] at hmv
      have HMV := Lib.hid hmv
      clear hmv
      go_wp2_with fail
      refine (HMV.out).mono ?_
      rintro e w2 ⟨rfl, hb2⟩
      clear HMV
      have hb3 := HB1.out.trans (hb2.mono HB1.out.size)
      have hr2 := HRS.out.after hb2
      have h2 := H1.out.fresh hb2
      have ht2 := HT1.out.fresh hb2
      clear x0 x1 x2 x3 x4 s0 s1 f0 H1 HT1 HB1 HS1 HRX HRS
      have s0 : w2.cell? ⟨w.heap.size + 1, 0, none⟩ = some (.int .i64 s.1) := hr2.cell 0
      have s1 : w2.cell? ⟨w.heap.size + 1, 1, none⟩ = some (.slice (adrOf aT) nT cT) := hr2.cell 1
      have H1 := Lib.hid h2
      have HT1 := Lib.hid ht2
      have HB1 := Lib.hid hb3
      clear h2 ht2 hb3 hr2 hb2
      go_wp2_with fail
      refine (on_p w0 ob bm base top f l g aC nC cC w2 vL K left H1.out hlen (Nat.le_trans H.out.lft (by decide)) at_ (by omega) s aT nT cT HT1.out H.out.ok hh0 hh1 ((movesV x).1) ((movesV x).2) (hm.out.1) (hm.out.2.1) (hm.out.2.2.1) (hm.out.2.2.2)).mono ?_
      rintro e w5 (⟨K', left', vL', HR, rfl, h5, hm5, hv5⟩ | ⟨hno, rfl, hm5⟩)
      · have H5 := Lib.hid h5
        have HM5 := Lib.hid hm5
        have HV5 := Lib.hid hv5
        clear h5 hm5 hv5
        go_wp2_with fail
        first
          | go_end0
          | refine bodyPost_ret (results_none rfl _ _ _) rfl ?_
        exact .inl ⟨K', left', vL', top, Lib.hid (by rw [HOU.out]; exact HR.out), rfl, H5.out, (Mods.fresh HB1.out _).trans HM5.out, fun g hg => (HV5.out g hg).imp id (fun h => Nat.le_trans HB1.out.size h)⟩
      · go_wp2_with fail
        exact ⟨rfl, .inr ⟨by rw [HOU.out]; exact hno, rfl, (Mods.fresh HB1.out _).trans hm5⟩⟩
  · as_aux_lemma =>
      have HOU : Hid (outs K f g at_ x s = onV K f at_ s (movesV x).1 (movesV x).2) := Lib.hid (by rw [outs, ← HO.out]; rfl)
      have x2 : w1.cell? ⟨w.heap.size, 2, none⟩ = some (.int .i64 x.b) := HRX.out.cell 2
      have x3 : w1.cell? ⟨w.heap.size, 3, none⟩ = some (.int .i64 x.c) := HRX.out.cell 3
      have x4 : w1.cell? ⟨w.heap.size, 4, none⟩ = some (.string (str x.t)) := HRX.out.cell 4
      have hmv := moves_p W0 pb fuel pn HP0 nF nR nC x w1 (Lib.hid (hW0.out.trans (HB1.out.mono hW0.out.size))) hop hF (by rw [← HO.out]; decide)
      rw [← HO.out] at hmv
      have HMV := Lib.hid hmv
      clear hmv
      go_wp2_with fail
      refine (HMV.out).mono ?_
      rintro e w2 ⟨rfl, hb2⟩
      clear HMV
      have hb3 := HB1.out.trans (hb2.mono HB1.out.size)
      have hr2 := HRS.out.after hb2
      have h2 := H1.out.fresh hb2
      have ht2 := HT1.out.fresh hb2
      clear x0 x1 x2 x3 x4 s0 s1 f0 H1 HT1 HB1 HS1 HRX HRS
      have s0 : w2.cell? ⟨w.heap.size + 1, 0, none⟩ = some (.int .i64 s.1) := hr2.cell 0
      have s1 : w2.cell? ⟨w.heap.size + 1, 1, none⟩ = some (.slice (adrOf aT) nT cT) := hr2.cell 1
      have H1 := Lib.hid h2
      have HT1 := Lib.hid ht2
      have HB1 := Lib.hid hb3
      clear h2 ht2 hb3 hr2 hb2
      go_wp2_with fail
      refine (on_p w0 ob bm base top f l g aC nC cC w2 vL K left H1.out hlen (Nat.le_trans H.out.lft (by decide)) at_ (by omega) s aT nT cT HT1.out H.out.ok hh0 hh1 ((movesV x).1) ((movesV x).2) (hm.out.1) (hm.out.2.1) (hm.out.2.2.1) (hm.out.2.2.2)).mono ?_
      rintro e w5 (⟨K', left', vL', HR, rfl, h5, hm5, hv5⟩ | ⟨hno, rfl, hm5⟩)
      · have H5 := Lib.hid h5
        have HM5 := Lib.hid hm5
        have HV5 := Lib.hid hv5
        clear h5 hm5 hv5
        go_wp2_with fail
        first
          | go_end0
          | refine bodyPost_ret (results_none rfl _ _ _) rfl ?_
        exact .inl ⟨K', left', vL', top, Lib.hid (by rw [HOU.out]; exact HR.out), rfl, H5.out, (Mods.fresh HB1.out _).trans HM5.out, fun g hg => (HV5.out g hg).imp id (fun h => Nat.le_trans HB1.out.size h)⟩
      · go_wp2_with fail
        exact ⟨rfl, .inr ⟨by rw [HOU.out]; exact hno, rfl, (Mods.fresh HB1.out _).trans hm5⟩⟩
  · as_aux_lemma =>
      by_cases hlt : x.a < s.1
      · have HOU : Hid (outs K f g at_ x s = onV K f at_ s 0 1) := Lib.hid (by rw [outs, if_pos HO.out.symm, if_pos hlt])
        go_wp2_with fail
        refine (ask_yes w1).mono ?_
        rintro e w2 ⟨rfl, rfl⟩
        go_wp2_with fail
        refine (on_p w0 ob bm base top f l g aC nC cC w2 vL K left H1.out hlen (Nat.le_trans H.out.lft (by decide)) at_ (by omega) s aT nT cT HT1.out H.out.ok hh0 hh1 0 1 (by decide) (by decide) (by decide) (by decide)).mono ?_
        rintro e w5 (⟨K', left', vL', HR, rfl, h5, hm5, hv5⟩ | ⟨hno, rfl, hm5⟩)
        · have H5 := Lib.hid h5
          have HM5 := Lib.hid hm5
          have HV5 := Lib.hid hv5
          clear h5 hm5 hv5
          go_wp2_with fail
          first
            | go_end0
            | refine bodyPost_ret (results_none rfl _ _ _) rfl ?_
          exact .inl ⟨K', left', vL', top, Lib.hid (by rw [HOU.out]; exact HR.out), rfl, H5.out, (Mods.fresh HB1.out _).trans HM5.out, fun g hg => (HV5.out g hg).imp id (fun h => Nat.le_trans HB1.out.size h)⟩
        · go_wp2_with fail
          exact ⟨rfl, .inr ⟨by rw [HOU.out]; exact hno, rfl, (Mods.fresh HB1.out _).trans hm5⟩⟩
      · have HOU : Hid (outs K f g at_ x s = none) := Lib.hid (by rw [outs, if_pos HO.out.symm, if_neg hlt])
        go_wp2_with fail
        refine (ask_no w1).mono ?_
        rintro e w2 ⟨rfl, rfl⟩
        go_wp2_with fail
        exact ⟨rfl, .inr ⟨by rw [HOU.out]; rfl, rfl, Mods.fresh HB1.out _⟩⟩
  · as_aux_lemma =>
      have q1 := later_cell x1
      have q5 := later_cell (show w1.cell? ⟨ob, 5, none⟩ = some (.int .i64 (g.c)) from H1.out.row.cell 5)
      by_cases hlt : x.a < (g.c)
      · have HOU : Hid (outs K f g at_ x s = onV K f at_ s 0 1) := Lib.hid ((outs4 HO.out).trans (if_pos hlt))
        go_wp2_with fail
        refine wp_region_idxP Rb Rb_refl Rb_trans (fun c w' => c = wrongE ∧ Mods (WkP ob bm vL) w w' ∧ goTo nC (outs K f g at_ x s) K left = none) [(0,0),(0,1),(0,2),(0,3),(0,4),(0,5),(0,6),(0,7),(1,8)] (by kernel_rfl) [] (by kernel_rfl) (by kernel_rfl) (by kernel_rfl) ?_ ?_
        · rintro c a' w' hh ⟨rfl, hmm, hno⟩
          exact ⟨hh.1, .inr ⟨hno, rfl, hmm⟩⟩
        simp only [pickO, List.getD_cons_succ, List.getD_cons_zero]
        refine wpCanP_seg 8 (by kernel_rfl) ?_
        simp only [List.take_succ_cons, List.take_zero, List.drop_succ_cons, List.drop_zero, List.map_cons, List.map_nil]
        iterate 8 (go_big_quiet_step (fail))
        refine wpQuiet_nil ?_
        clear q1 q5
        refine wpCanP_list (k := 0) (fun KK hK hP => ?_) rfl
        go_wp2_with fail
        refine (ask_yes (w1.drew)).mono ?_
        rintro e w9 ⟨rfl, rfl⟩
        go_wp2_with fail
        refine hK _ _ ⟨rfl, fun j hj => by cases hj⟩ (fun _ => Below.refl _ _) ?_
        clear hK hP KK
        unfold wpCanP
        obtain ⟨w2, hwd⟩ : ∃ y, y = w1.drew := ⟨_, rfl⟩
        rw [← hwd]
        have hbd : Below w1.heap.size w1 w2 := by rw [hwd]; exact (Below.refl _ _).drew
        clear hwd
        have hbu := HB1.out.trans ((hbd).mono HB1.out.size)
        have hru := HRS.out.after hbd
        have hrx := HRX.out.after hbd
        have hu := H1.out.fresh hbd
        have htu := HT1.out.fresh hbd
        clear x0 x1 s0 s1 f0 H1 HT1 HB1 HS1 HRX HRS
        have x1 : (w2).cell? ⟨w.heap.size, 1, none⟩ = some (.int .i64 x.a) := hrx.cell 1
        have s0 : (w2).cell? ⟨w.heap.size + 1, 0, none⟩ = some (.int .i64 s.1) := hru.cell 0
        have s1 : (w2).cell? ⟨w.heap.size + 1, 1, none⟩ = some (.slice (adrOf aT) nT cT) := hru.cell 1
        have f0 : (w2).cell? ⟨ob, 0, none⟩ = some (.int .i64 (f : Nat)) := hu.row.cell 0
        have H1 := Lib.hid hu
        have HT1 := Lib.hid htu
        have HB1 := Lib.hid hbu
        have HRX := Lib.hid hrx
        have HRS := Lib.hid hru
        clear hu htu hbu hru hrx
        clear hbd
        go_wp2_with fail
        refine (on_p w0 ob bm base top f l g aC nC cC w2 vL K left H1.out hlen (Nat.le_trans H.out.lft (by decide)) at_ (by omega) s aT nT cT HT1.out H.out.ok hh0 hh1 0 1 (by decide) (by decide) (by decide) (by decide)).mono ?_
        rintro e w5 (⟨K', left', vL', HR, rfl, h5, hm5, hv5⟩ | ⟨hno, rfl, hm5⟩)
        · have H5 := Lib.hid h5
          have HM5 := Lib.hid hm5
          have HV5 := Lib.hid hv5
          clear h5 hm5 hv5
          go_wp2_with fail
          first
            | go_end0
            | refine bodyPost_ret (results_none rfl _ _ _) rfl ?_
          exact .inl ⟨K', left', vL', top, Lib.hid (by rw [HOU.out]; exact HR.out), rfl, H5.out, (Mods.fresh HB1.out _).trans HM5.out, fun g hg => (HV5.out g hg).imp id (fun h => Nat.le_trans HB1.out.size h)⟩
        · go_wp2_with fail
          exact ⟨rfl, .inr ⟨by rw [HOU.out]; exact hno, rfl, (Mods.fresh HB1.out _).trans hm5⟩⟩
      · have HOU : Hid (outs K f g at_ x s = none) := Lib.hid ((outs4 HO.out).trans (if_neg hlt))
        have HDF : Hid (decide (x.a < (g.c)) = false) := Lib.hid (decide_eq_false hlt)
        go_wp2_with fail
        refine wp_region_idxP Rb Rb_refl Rb_trans (fun c w' => c = wrongE ∧ Mods (WkP ob bm vL) w w' ∧ goTo nC (outs K f g at_ x s) K left = none) [(0,0),(0,1),(0,2),(0,3),(0,4),(0,5),(0,6),(0,7),(1,8)] (by kernel_rfl) [] (by kernel_rfl) (by kernel_rfl) (by kernel_rfl) ?_ ?_
        · rintro c a' w' hh ⟨rfl, hmm, hno⟩
          exact ⟨hh.1, .inr ⟨hno, rfl, hmm⟩⟩
        simp only [pickO, List.getD_cons_succ, List.getD_cons_zero]
        refine wpCanP_seg 8 (by kernel_rfl) ?_
        simp only [List.take_succ_cons, List.take_zero, List.drop_succ_cons, List.drop_zero, List.map_cons, List.map_nil]
        iterate 8 (go_big_quiet_step (fail))
        refine wpQuiet_nil ?_
        clear q1 q5
        refine wpCanP_list (k := 0) (fun KK hK hP => ?_) rfl
        go_wp2_with fail
        try rw [HDF.out]
        refine (ask_no (w1.drew)).mono ?_
        rintro e w9 ⟨rfl, rfl⟩
        go_wp2_with fail
        exact hP _ _ _ ⟨rfl, Mods.fresh (HB1.out.trans ((Below.refl _ _).drew.mono HB1.out.size)) _, by rw [HOU.out]; rfl⟩
  · as_aux_lemma =>
      have q1 := later_cell x1
      have q5 := later_cell (show w1.cell? ⟨ob, 4, none⟩ = some (.int .i64 (g.b)) from H1.out.row.cell 4)
      by_cases hlt : x.a < (g.b)
      · have HOU : Hid (outs K f g at_ x s = onV K f at_ s 0 1) := Lib.hid ((outs5 HO.out).trans (if_pos hlt))
        go_wp2_with fail
        refine wp_region_idxP Rb Rb_refl Rb_trans (fun c w' => c = wrongE ∧ Mods (WkP ob bm vL) w w' ∧ goTo nC (outs K f g at_ x s) K left = none) [(0,0),(0,1),(0,2),(0,3),(0,4),(0,5),(0,6),(0,7),(1,8)] (by kernel_rfl) [] (by kernel_rfl) (by kernel_rfl) (by kernel_rfl) ?_ ?_
        · rintro c a' w' hh ⟨rfl, hmm, hno⟩
          exact ⟨hh.1, .inr ⟨hno, rfl, hmm⟩⟩
        simp only [pickO, List.getD_cons_succ, List.getD_cons_zero]
        refine wpCanP_seg 8 (by kernel_rfl) ?_
        simp only [List.take_succ_cons, List.take_zero, List.drop_succ_cons, List.drop_zero, List.map_cons, List.map_nil]
        iterate 8 (go_big_quiet_step (fail))
        refine wpQuiet_nil ?_
        clear q1 q5
        refine wpCanP_list (k := 0) (fun KK hK hP => ?_) rfl
        go_wp2_with fail
        refine (ask_yes (w1.drew)).mono ?_
        rintro e w9 ⟨rfl, rfl⟩
        go_wp2_with fail
        refine hK _ _ ⟨rfl, fun j hj => by cases hj⟩ (fun _ => Below.refl _ _) ?_
        clear hK hP KK
        unfold wpCanP
        obtain ⟨w2, hwd⟩ : ∃ y, y = w1.drew := ⟨_, rfl⟩
        rw [← hwd]
        have hbd : Below w1.heap.size w1 w2 := by rw [hwd]; exact (Below.refl _ _).drew
        clear hwd
        have hbu := HB1.out.trans ((hbd).mono HB1.out.size)
        have hru := HRS.out.after hbd
        have hrx := HRX.out.after hbd
        have hu := H1.out.fresh hbd
        have htu := HT1.out.fresh hbd
        clear x0 x1 s0 s1 f0 H1 HT1 HB1 HS1 HRX HRS
        have x1 : (w2).cell? ⟨w.heap.size, 1, none⟩ = some (.int .i64 x.a) := hrx.cell 1
        have s0 : (w2).cell? ⟨w.heap.size + 1, 0, none⟩ = some (.int .i64 s.1) := hru.cell 0
        have s1 : (w2).cell? ⟨w.heap.size + 1, 1, none⟩ = some (.slice (adrOf aT) nT cT) := hru.cell 1
        have f0 : (w2).cell? ⟨ob, 0, none⟩ = some (.int .i64 (f : Nat)) := hu.row.cell 0
        have H1 := Lib.hid hu
        have HT1 := Lib.hid htu
        have HB1 := Lib.hid hbu
        have HRX := Lib.hid hrx
        have HRS := Lib.hid hru
        clear hu htu hbu hru hrx
        clear hbd
        go_wp2_with fail
        refine (on_p w0 ob bm base top f l g aC nC cC w2 vL K left H1.out hlen (Nat.le_trans H.out.lft (by decide)) at_ (by omega) s aT nT cT HT1.out H.out.ok hh0 hh1 0 1 (by decide) (by decide) (by decide) (by decide)).mono ?_
        rintro e w5 (⟨K', left', vL', HR, rfl, h5, hm5, hv5⟩ | ⟨hno, rfl, hm5⟩)
        · have H5 := Lib.hid h5
          have HM5 := Lib.hid hm5
          have HV5 := Lib.hid hv5
          clear h5 hm5 hv5
          go_wp2_with fail
          first
            | go_end0
            | refine bodyPost_ret (results_none rfl _ _ _) rfl ?_
          exact .inl ⟨K', left', vL', top, Lib.hid (by rw [HOU.out]; exact HR.out), rfl, H5.out, (Mods.fresh HB1.out _).trans HM5.out, fun g hg => (HV5.out g hg).imp id (fun h => Nat.le_trans HB1.out.size h)⟩
        · go_wp2_with fail
          exact ⟨rfl, .inr ⟨by rw [HOU.out]; exact hno, rfl, (Mods.fresh HB1.out _).trans hm5⟩⟩
      · have HOU : Hid (outs K f g at_ x s = none) := Lib.hid ((outs5 HO.out).trans (if_neg hlt))
        have HDF : Hid (decide (x.a < (g.b)) = false) := Lib.hid (decide_eq_false hlt)
        go_wp2_with fail
        refine wp_region_idxP Rb Rb_refl Rb_trans (fun c w' => c = wrongE ∧ Mods (WkP ob bm vL) w w' ∧ goTo nC (outs K f g at_ x s) K left = none) [(0,0),(0,1),(0,2),(0,3),(0,4),(0,5),(0,6),(0,7),(1,8)] (by kernel_rfl) [] (by kernel_rfl) (by kernel_rfl) (by kernel_rfl) ?_ ?_
        · rintro c a' w' hh ⟨rfl, hmm, hno⟩
          exact ⟨hh.1, .inr ⟨hno, rfl, hmm⟩⟩
        simp only [pickO, List.getD_cons_succ, List.getD_cons_zero]
        refine wpCanP_seg 8 (by kernel_rfl) ?_
        simp only [List.take_succ_cons, List.take_zero, List.drop_succ_cons, List.drop_zero, List.map_cons, List.map_nil]
        iterate 8 (go_big_quiet_step (fail))
        refine wpQuiet_nil ?_
        clear q1 q5
        refine wpCanP_list (k := 0) (fun KK hK hP => ?_) rfl
        go_wp2_with fail
        try rw [HDF.out]
        refine (ask_no (w1.drew)).mono ?_
        rintro e w9 ⟨rfl, rfl⟩
        go_wp2_with fail
        exact hP _ _ _ ⟨rfl, Mods.fresh (HB1.out.trans ((Below.refl _ _).drew.mono HB1.out.size)) _, by rw [HOU.out]; rfl⟩
  · as_aux_lemma =>
      have HOU : Hid (outs K f g at_ x s = onV K f at_ s (movesV x).1 (movesV x).2) := Lib.hid (by rw [outs, ← HO.out]; rfl)
      have x2 : w1.cell? ⟨w.heap.size, 2, none⟩ = some (.int .i64 x.b) := HRX.out.cell 2
      have x3 : w1.cell? ⟨w.heap.size, 3, none⟩ = some (.int .i64 x.c) := HRX.out.cell 3
      have x4 : w1.cell? ⟨w.heap.size, 4, none⟩ = some (.string (str x.t)) := HRX.out.cell 4
      have hmv := moves_p W0 pb fuel pn HP0 nF nR nC x w1 (Lib.hid (hW0.out.trans (HB1.out.mono hW0.out.size))) hop hF (by rw [← HO.out]; decide)
      rw [← HO.out] at hmv
      have HMV := Lib.hid hmv
      clear hmv
      go_wp2_with fail
      refine (HMV.out).mono ?_
      rintro e w2 ⟨rfl, hb2⟩
      clear HMV
      have hb3 := HB1.out.trans (hb2.mono HB1.out.size)
      have hr2 := HRS.out.after hb2
      have h2 := H1.out.fresh hb2
      have ht2 := HT1.out.fresh hb2
      clear x0 x1 x2 x3 x4 s0 s1 f0 H1 HT1 HB1 HS1 HRX HRS
      have s0 : w2.cell? ⟨w.heap.size + 1, 0, none⟩ = some (.int .i64 s.1) := hr2.cell 0
      have s1 : w2.cell? ⟨w.heap.size + 1, 1, none⟩ = some (.slice (adrOf aT) nT cT) := hr2.cell 1
      have H1 := Lib.hid h2
      have HT1 := Lib.hid ht2
      have HB1 := Lib.hid hb3
      clear h2 ht2 hb3 hr2 hb2
      go_wp2_with fail
      refine (on_p w0 ob bm base top f l g aC nC cC w2 vL K left H1.out hlen (Nat.le_trans H.out.lft (by decide)) at_ (by omega) s aT nT cT HT1.out H.out.ok hh0 hh1 ((movesV x).1) ((movesV x).2) (hm.out.1) (hm.out.2.1) (hm.out.2.2.1) (hm.out.2.2.2)).mono ?_
      rintro e w5 (⟨K', left', vL', HR, rfl, h5, hm5, hv5⟩ | ⟨hno, rfl, hm5⟩)
      · have H5 := Lib.hid h5
        have HM5 := Lib.hid hm5
        have HV5 := Lib.hid hv5
        clear h5 hm5 hv5
        go_wp2_with fail
        first
          | go_end0
          | refine bodyPost_ret (results_none rfl _ _ _) rfl ?_
        exact .inl ⟨K', left', vL', top, Lib.hid (by rw [HOU.out]; exact HR.out), rfl, H5.out, (Mods.fresh HB1.out _).trans HM5.out, fun g hg => (HV5.out g hg).imp id (fun h => Nat.le_trans HB1.out.size h)⟩
      · go_wp2_with fail
        exact ⟨rfl, .inr ⟨by rw [HOU.out]; exact hno, rfl, (Mods.fresh HB1.out _).trans hm5⟩⟩
  · as_aux_lemma =>
      have HOU : Hid (outs K f g at_ x s = onV K f at_ s (movesV x).1 (movesV x).2) := Lib.hid (by rw [outs, ← HO.out]; rfl)
      have x2 : w1.cell? ⟨w.heap.size, 2, none⟩ = some (.int .i64 x.b) := HRX.out.cell 2
      have x3 : w1.cell? ⟨w.heap.size, 3, none⟩ = some (.int .i64 x.c) := HRX.out.cell 3
      have x4 : w1.cell? ⟨w.heap.size, 4, none⟩ = some (.string (str x.t)) := HRX.out.cell 4
      have hmv := moves_p W0 pb fuel pn HP0 nF nR nC x w1 (Lib.hid (hW0.out.trans (HB1.out.mono hW0.out.size))) hop hF (by rw [← HO.out]; decide)
      rw [← HO.out] at hmv
      have HMV := Lib.hid hmv
      clear hmv
      go_wp2_with fail
      refine (HMV.out).mono ?_
      rintro e w2 ⟨rfl, hb2⟩
      clear HMV
      have hb3 := HB1.out.trans (hb2.mono HB1.out.size)
      have hr2 := HRS.out.after hb2
      have h2 := H1.out.fresh hb2
      have ht2 := HT1.out.fresh hb2
      clear x0 x1 x2 x3 x4 s0 s1 f0 H1 HT1 HB1 HS1 HRX HRS
      have s0 : w2.cell? ⟨w.heap.size + 1, 0, none⟩ = some (.int .i64 s.1) := hr2.cell 0
      have s1 : w2.cell? ⟨w.heap.size + 1, 1, none⟩ = some (.slice (adrOf aT) nT cT) := hr2.cell 1
      have H1 := Lib.hid h2
      have HT1 := Lib.hid ht2
      have HB1 := Lib.hid hb3
      clear h2 ht2 hb3 hr2 hb2
      go_wp2_with fail
      refine (on_p w0 ob bm base top f l g aC nC cC w2 vL K left H1.out hlen (Nat.le_trans H.out.lft (by decide)) at_ (by omega) s aT nT cT HT1.out H.out.ok hh0 hh1 ((movesV x).1) ((movesV x).2) (hm.out.1) (hm.out.2.1) (hm.out.2.2.1) (hm.out.2.2.2)).mono ?_
      rintro e w5 (⟨K', left', vL', HR, rfl, h5, hm5, hv5⟩ | ⟨hno, rfl, hm5⟩)
      · have H5 := Lib.hid h5
        have HM5 := Lib.hid hm5
        have HV5 := Lib.hid hv5
        clear h5 hm5 hv5
        go_wp2_with fail
        first
          | go_end0
          | refine bodyPost_ret (results_none rfl _ _ _) rfl ?_
        exact .inl ⟨K', left', vL', top, Lib.hid (by rw [HOU.out]; exact HR.out), rfl, H5.out, (Mods.fresh HB1.out _).trans HM5.out, fun g hg => (HV5.out g hg).imp id (fun h => Nat.le_trans HB1.out.size h)⟩
      · go_wp2_with fail
        exact ⟨rfl, .inr ⟨by rw [HOU.out]; exact hno, rfl, (Mods.fresh HB1.out _).trans hm5⟩⟩
  · as_aux_lemma =>
      by_cases hf : 0 < f
      · by_cases h2 : s.1 = 2
        · by_cases hT0 : s.2 = []
          · have HOU : Hid (outs K f g at_ x s = some []) := Lib.hid ((outs8 HO.out).trans (if_pos ⟨hf, h2, hT0⟩))
            have hn0 : nT = 0 := by rw [HT1.out.len, hT0]; rfl
            have hb : (s.1 == 2) = true := by rw [h2]; rfl
            clear hT0 h2
            subst hn0
            go_wp2_with fail
            refine (ask_yes w1).mono ?_
            rintro e w2 ⟨rfl, rfl⟩
            go_wp2_with fail
            first
              | go_end0
              | refine bodyPost_ret (results_none rfl _ _ _) rfl ?_
            exact .inl ⟨K, left, vL, top, Lib.hid (by rw [HOU.out]; rfl), rfl, H1.out, Mods.fresh HB1.out _, fun g hg => .inl hg⟩
          · have HOU : Hid (outs K f g at_ x s = none) := Lib.hid ((outs8 HO.out).trans (if_neg (fun h => hT0 h.2.2)))
            have hn0 : ¬ nT = 0 := fun e => hT0 (List.eq_nil_of_length_eq_zero (HT1.out.len.symm.trans e))
            have hb : (s.1 == 2) = true := by rw [h2]; rfl
            have hb2 : ((nT : Int) == 0) = false := by rw [beq_eq_false_iff_ne]; omega
            clear hT0 h2
            go_wp2_with fail
            refine (ask_no w1).mono ?_
            rintro e w2 ⟨rfl, rfl⟩
            go_wp2_with fail
            exact ⟨rfl, .inr ⟨by rw [HOU.out]; rfl, rfl, Mods.fresh HB1.out _⟩⟩
        · have HOU : Hid (outs K f g at_ x s = none) := Lib.hid ((outs8 HO.out).trans (if_neg (fun h => h2 h.2.1)))
          have hb : (s.1 == 2) = false := by rw [beq_eq_false_iff_ne]; exact h2
          clear h2
          go_wp2_with fail
          refine (ask_no w1).mono ?_
          rintro e w2 ⟨rfl, rfl⟩
          go_wp2_with fail
          exact ⟨rfl, .inr ⟨by rw [HOU.out]; rfl, rfl, Mods.fresh HB1.out _⟩⟩
      · have HOU : Hid (outs K f g at_ x s = none) := Lib.hid ((outs8 HO.out).trans (if_neg (fun h => hf h.1)))
        go_wp2_with fail
        refine (ask_no w1).mono ?_
        rintro e w2 ⟨rfl, rfl⟩
        go_wp2_with fail
        exact ⟨rfl, .inr ⟨by rw [HOU.out]; rfl, rfl, Mods.fresh HB1.out _⟩⟩
  · as_aux_lemma =>
      have HOU : Hid (goTo nC (outs K f g at_ x s) K left = toS nC (x.a, s) K left) := Lib.hid (by rw [outs, ← HO.out]; exact toAll_one ..)
      go_wp2_with fail
      refine (to_p w0 ob bm base top f l g aC nC cC w1 vL K left H1.out hlen (Nat.le_trans H.out.lft (by decide)) (x.a) s aT nT cT HT1.out).mono ?_
      rintro e w5 hR
      have HR := Lib.hid (hR.step HB1.out)
      clear hR
      rcases HR.out with ⟨K', left', vL', top', h1, rfl, h3⟩ | ⟨h1, rfl, h3⟩
      · go_wp2_with fail
        first
          | go_end0
          | refine bodyPost_ret (results_none rfl _ _ _) rfl ?_
        rw [HOU.out]
        exact HR.out
      · go_wp2_with fail
        refine ⟨rfl, ?_⟩
        rw [HOU.out]
        exact HR.out
  · as_aux_lemma =>
      have HLO := Lib.hid H.out.wk.low
      have n0 : ¬ WkP ob bm vL w.heap.size := fun h => by have := HLO.out _ h; omega
      have n1 : ¬ WkP ob bm vL (w.heap.size + 1) := fun h => by have := HLO.out _ h; omega
      have q1 := laterW_cell x1 n0
      have q2 := laterW_cell s0 n1
      have q3 := laterW_cell s1 n1
      go_upto_region 22 with fail
      refine wp_region_idxP (RkW ob bm vL) (RkW_refl ob bm vL) (RkW_trans ob bm vL) (fun c w' => c = wrongE ∧ Mods (WkP ob bm vL) w w' ∧ goTo nC (outs K f g at_ x s) K left = none) [(0,0),(0,1),(0,2),(0,3),(0,4),(0,5),(1,6),(2,7)] (by kernel_rfl) [] (by kernel_rfl) (by kernel_rfl) (by kernel_rfl) ?_ ?_
      · rintro c a' w' hh ⟨rfl, hmm, hno⟩
        exact ⟨hh.1, .inr ⟨hno, rfl, hmm⟩⟩
      simp only [pickO, List.getD_cons_succ, List.getD_cons_zero]
      refine wpCanP_seg 6 (by kernel_rfl) ?_
      simp only [List.take_succ_cons, List.take_zero, List.drop_succ_cons, List.drop_zero, List.map_cons, List.map_nil]
      iterate 6 (go_big_quiet_step (fail))
      refine wpQuiet_nil ?_
      clear q1 q2 q3 n0 n1
      refine wpCanP_list (k := 0) (fun KK hK hP => ?_) rfl
      go_wp2_with fail
      refine (on_p w0 ob bm base top f l g aC nC cC w1.drew vL K left (H1.out.fresh (Below.refl _ _).drew) hlen (Nat.le_trans H.out.lft (by decide)) at_ (by omega) s aT nT cT (HT1.out.fresh (Below.refl _ _).drew) H.out.ok hh0 hh1 1 0 (by decide) (by decide) (by decide) (by decide)).mono ?_
      rintro e w5 (⟨K', left', vL', HR, rfl, h5, hm5, hv5⟩ | ⟨hno, rfl, hm5⟩)
      · have H5 := Lib.hid h5
        have HM5 := Lib.hid hm5
        have HV5 := Lib.hid hv5
        have HT5 := Lib.hid (TrV.past (HT1.out.fresh (Below.refl w1.heap.size w1).drew) (H1.out.fresh (Below.refl w1.heap.size w1).drew) hm5 hv5)
        go_wp2_with fail
        refine hK _ _ ⟨rfl, fun j hj => by cases hj⟩ (fun _ => hm5) ?_
        clear hK hP KK h5 hm5 hv5
        have hle : floorV K f s ≤ s.1 - 1 := by
          have h1 := HR.out
          unfold goTo onV at h1
          by_cases hle : floorV K f s ≤ s.1 - 1
          · exact hle
          · rw [if_neg hle] at h1; cases h1
        have HRT : Hid (toS nC ((at_ : Int) + 1, (s.1 - 1, s.2)) K left = some (K', left')) := Lib.hid (by
          have h1 := HR.out
          unfold goTo onV at h1
          rw [if_pos hle] at h1
          simp only at h1
          rw [toAll_one] at h1
          rw [← h1]
          congr 2)
        have HOU : Hid (goTo nC (outs K f g at_ x s) K left = toS nC (x.a, (s.1 - 1, s.2)) K' left') := Lib.hid (by
          rw [outs10 HO.out, if_pos hle]
          exact toAll_two _ _ _ _ _ HRT.out)
        clear hle
        rw [show s.1 + -1 = s.1 - 1 by omega]
        refine wpCanP_list (k := 1) (fun KK hK hP => ?_) rfl
        go_wp2_with fail
        refine (to_p w0 ob bm base top f l g aC nC cC w5 vL' K' left' H5.out hlen (by have := toS_len HRT.out; have := H.out.lft; omega) x.a (s.1 - 1, s.2) aT nT cT HT5.out).mono ?_
        rintro e w6 hR
        have HRR := Lib.hid (hR.after (w := w1.drew) HM5.out HV5.out)
        clear hR
        rcases HRR.out with ⟨K2, left2, vL2, top2, h1, rfl, h3⟩ | ⟨h1, rfl, h3⟩
        · go_wp2_with fail
          refine hK _ _ ⟨rfl, fun j hj => by cases hj⟩ (fun h => by cases h) ?_
          clear hK hP KK
          unfold wpCanP
          go_wp2_with fail
          first
            | go_end0
            | refine bodyPost_ret (results_none rfl _ _ _) rfl ?_
          rw [HOU.out]
          rcases HRR.out with ⟨K3, left3, vL3, top3, g1, g2, g3, g4, g5⟩ | ⟨_, g2, _⟩
          · exact .inl ⟨K3, left3, vL3, top3, g1, rfl, g3, (Mods.fresh HB1.out _).trans ((Mods.fresh (Below.refl w1.heap.size w1).drew _).trans g4), fun g hg => (g5 g hg).imp id (fun h => Nat.le_trans HB1.out.size h)⟩
          · cases g2
        · go_wp2_with fail
          exact ⟨(Mods.fresh HB1.out _).trans ((Mods.fresh (Below.refl w1.heap.size w1).drew _).trans h3), by rw [HOU.out]; exact h1⟩
      · go_wp2_with fail
        refine hP _ _ _ ⟨rfl, (Mods.fresh HB1.out _).trans ((Mods.fresh (Below.refl w1.heap.size w1).drew _).trans hm5), ?_⟩
        by_cases hle : floorV K f s ≤ s.1 - 1
        · rw [outs10 HO.out, if_pos hle]
          unfold goTo onV at hno
          rw [if_pos hle] at hno
          simp only at hno
          rw [toAll_one] at hno
          have e1 : s.1 + (0 - 1) = s.1 - 1 := by omega
          rw [e1] at hno
          exact toAll_no _ _ _ _ _ hno
        · rw [outs10 HO.out, if_neg hle]; rfl
  · as_aux_lemma =>
      have HOU : Hid (outs K f g at_ x s = onV K f at_ s (movesV x).1 (movesV x).2) := Lib.hid (by rw [outs, ← HO.out]; rfl)
      have x2 : w1.cell? ⟨w.heap.size, 2, none⟩ = some (.int .i64 x.b) := HRX.out.cell 2
      have x3 : w1.cell? ⟨w.heap.size, 3, none⟩ = some (.int .i64 x.c) := HRX.out.cell 3
      have x4 : w1.cell? ⟨w.heap.size, 4, none⟩ = some (.string (str x.t)) := HRX.out.cell 4
      have hmv := moves_p W0 pb fuel pn HP0 nF nR nC x w1 (Lib.hid (hW0.out.trans (HB1.out.mono hW0.out.size))) hop hF (by rw [← HO.out]; decide)
      rw [← HO.out] at hmv
      have HMV := Lib.hid hmv
      clear hmv
      go_wp2_with fail
      refine (HMV.out).mono ?_
      rintro e w2 ⟨rfl, hb2⟩
      clear HMV
      have hb3 := HB1.out.trans (hb2.mono HB1.out.size)
      have hr2 := HRS.out.after hb2
      have h2 := H1.out.fresh hb2
      have ht2 := HT1.out.fresh hb2
      clear x0 x1 x2 x3 x4 s0 s1 f0 H1 HT1 HB1 HS1 HRX HRS
      have s0 : w2.cell? ⟨w.heap.size + 1, 0, none⟩ = some (.int .i64 s.1) := hr2.cell 0
      have s1 : w2.cell? ⟨w.heap.size + 1, 1, none⟩ = some (.slice (adrOf aT) nT cT) := hr2.cell 1
      have H1 := Lib.hid h2
      have HT1 := Lib.hid ht2
      have HB1 := Lib.hid hb3
      clear h2 ht2 hb3 hr2 hb2
      go_wp2_with fail
      refine (on_p w0 ob bm base top f l g aC nC cC w2 vL K left H1.out hlen (Nat.le_trans H.out.lft (by decide)) at_ (by omega) s aT nT cT HT1.out H.out.ok hh0 hh1 ((movesV x).1) ((movesV x).2) (hm.out.1) (hm.out.2.1) (hm.out.2.2.1) (hm.out.2.2.2)).mono ?_
      rintro e w5 (⟨K', left', vL', HR, rfl, h5, hm5, hv5⟩ | ⟨hno, rfl, hm5⟩)
      · have H5 := Lib.hid h5
        have HM5 := Lib.hid hm5
        have HV5 := Lib.hid hv5
        clear h5 hm5 hv5
        go_wp2_with fail
        first
          | go_end0
          | refine bodyPost_ret (results_none rfl _ _ _) rfl ?_
        exact .inl ⟨K', left', vL', top, Lib.hid (by rw [HOU.out]; exact HR.out), rfl, H5.out, (Mods.fresh HB1.out _).trans HM5.out, fun g hg => (HV5.out g hg).imp id (fun h => Nat.le_trans HB1.out.size h)⟩
      · go_wp2_with fail
        exact ⟨rfl, .inr ⟨by rw [HOU.out]; exact hno, rfl, (Mods.fresh HB1.out _).trans hm5⟩⟩
  · as_aux_lemma =>
      have HOU : Hid (outs K f g at_ x s = onV K f at_ s (movesV x).1 (movesV x).2) := Lib.hid (by rw [outs, ← HO.out]; rfl)
      have x2 : w1.cell? ⟨w.heap.size, 2, none⟩ = some (.int .i64 x.b) := HRX.out.cell 2
      have x3 : w1.cell? ⟨w.heap.size, 3, none⟩ = some (.int .i64 x.c) := HRX.out.cell 3
      have x4 : w1.cell? ⟨w.heap.size, 4, none⟩ = some (.string (str x.t)) := HRX.out.cell 4
      have hmv := moves_p W0 pb fuel pn HP0 nF nR nC x w1 (Lib.hid (hW0.out.trans (HB1.out.mono hW0.out.size))) hop hF (by rw [← HO.out]; decide)
      rw [← HO.out] at hmv
      have HMV := Lib.hid hmv
      clear hmv
      go_wp2_with fail
      refine (HMV.out).mono ?_
      rintro e w2 ⟨rfl, hb2⟩
      clear HMV
      have hb3 := HB1.out.trans (hb2.mono HB1.out.size)
      have hr2 := HRS.out.after hb2
      have h2 := H1.out.fresh hb2
      have ht2 := HT1.out.fresh hb2
      clear x0 x1 x2 x3 x4 s0 s1 f0 H1 HT1 HB1 HS1 HRX HRS
      have s0 : w2.cell? ⟨w.heap.size + 1, 0, none⟩ = some (.int .i64 s.1) := hr2.cell 0
      have s1 : w2.cell? ⟨w.heap.size + 1, 1, none⟩ = some (.slice (adrOf aT) nT cT) := hr2.cell 1
      have H1 := Lib.hid h2
      have HT1 := Lib.hid ht2
      have HB1 := Lib.hid hb3
      clear h2 ht2 hb3 hr2 hb2
      go_wp2_with fail
      refine (on_p w0 ob bm base top f l g aC nC cC w2 vL K left H1.out hlen (Nat.le_trans H.out.lft (by decide)) at_ (by omega) s aT nT cT HT1.out H.out.ok hh0 hh1 ((movesV x).1) ((movesV x).2) (hm.out.1) (hm.out.2.1) (hm.out.2.2.1) (hm.out.2.2.2)).mono ?_
      rintro e w5 (⟨K', left', vL', HR, rfl, h5, hm5, hv5⟩ | ⟨hno, rfl, hm5⟩)
      · have H5 := Lib.hid h5
        have HM5 := Lib.hid hm5
        have HV5 := Lib.hid hv5
        clear h5 hm5 hv5
        go_wp2_with fail
        first
          | go_end0
          | refine bodyPost_ret (results_none rfl _ _ _) rfl ?_
        exact .inl ⟨K', left', vL', top, Lib.hid (by rw [HOU.out]; exact HR.out), rfl, H5.out, (Mods.fresh HB1.out _).trans HM5.out, fun g hg => (HV5.out g hg).imp id (fun h => Nat.le_trans HB1.out.size h)⟩
      · go_wp2_with fail
        exact ⟨rfl, .inr ⟨by rw [HOU.out]; exact hno, rfl, (Mods.fresh HB1.out _).trans hm5⟩⟩
  · as_aux_lemma =>
      have HOU : Hid (outs K f g at_ x s = onV K f at_ s (movesV x).1 (movesV x).2) := Lib.hid (by rw [outs, ← HO.out]; rfl)
      have x2 : w1.cell? ⟨w.heap.size, 2, none⟩ = some (.int .i64 x.b) := HRX.out.cell 2
      have x3 : w1.cell? ⟨w.heap.size, 3, none⟩ = some (.int .i64 x.c) := HRX.out.cell 3
      have x4 : w1.cell? ⟨w.heap.size, 4, none⟩ = some (.string (str x.t)) := HRX.out.cell 4
      have hmv := moves_p W0 pb fuel pn HP0 nF nR nC x w1 (Lib.hid (hW0.out.trans (HB1.out.mono hW0.out.size))) hop hF (by rw [← HO.out]; decide)
      rw [← HO.out] at hmv
      have HMV := Lib.hid hmv
      clear hmv
      go_wp2_with fail
      refine (HMV.out).mono ?_
      rintro e w2 ⟨rfl, hb2⟩
      clear HMV
      have hb3 := HB1.out.trans (hb2.mono HB1.out.size)
      have hr2 := HRS.out.after hb2
      have h2 := H1.out.fresh hb2
      have ht2 := HT1.out.fresh hb2
      clear x0 x1 x2 x3 x4 s0 s1 f0 H1 HT1 HB1 HS1 HRX HRS
      have s0 : w2.cell? ⟨w.heap.size + 1, 0, none⟩ = some (.int .i64 s.1) := hr2.cell 0
      have s1 : w2.cell? ⟨w.heap.size + 1, 1, none⟩ = some (.slice (adrOf aT) nT cT) := hr2.cell 1
      have H1 := Lib.hid h2
      have HT1 := Lib.hid ht2
      have HB1 := Lib.hid hb3
      clear h2 ht2 hb3 hr2 hb2
      go_wp2_with fail
      refine (on_p w0 ob bm base top f l g aC nC cC w2 vL K left H1.out hlen (Nat.le_trans H.out.lft (by decide)) at_ (by omega) s aT nT cT HT1.out H.out.ok hh0 hh1 ((movesV x).1) ((movesV x).2) (hm.out.1) (hm.out.2.1) (hm.out.2.2.1) (hm.out.2.2.2)).mono ?_
      rintro e w5 (⟨K', left', vL', HR, rfl, h5, hm5, hv5⟩ | ⟨hno, rfl, hm5⟩)
      · have H5 := Lib.hid h5
        have HM5 := Lib.hid hm5
        have HV5 := Lib.hid hv5
        clear h5 hm5 hv5
        go_wp2_with fail
        first
          | go_end0
          | refine bodyPost_ret (results_none rfl _ _ _) rfl ?_
        exact .inl ⟨K', left', vL', top, Lib.hid (by rw [HOU.out]; exact HR.out), rfl, H5.out, (Mods.fresh HB1.out _).trans HM5.out, fun g hg => (HV5.out g hg).imp id (fun h => Nat.le_trans HB1.out.size h)⟩
      · go_wp2_with fail
        exact ⟨rfl, .inr ⟨by rw [HOU.out]; exact hno, rfl, (Mods.fresh HB1.out _).trans hm5⟩⟩
  · as_aux_lemma =>
      have HOU : Hid (outs K f g at_ x s = onV K f at_ s (movesV x).1 (movesV x).2) := Lib.hid (by rw [outs, ← HO.out]; rfl)
      have x2 : w1.cell? ⟨w.heap.size, 2, none⟩ = some (.int .i64 x.b) := HRX.out.cell 2
      have x3 : w1.cell? ⟨w.heap.size, 3, none⟩ = some (.int .i64 x.c) := HRX.out.cell 3
      have x4 : w1.cell? ⟨w.heap.size, 4, none⟩ = some (.string (str x.t)) := HRX.out.cell 4
      have hmv := moves_p W0 pb fuel pn HP0 nF nR nC x w1 (Lib.hid (hW0.out.trans (HB1.out.mono hW0.out.size))) hop hF (by rw [← HO.out]; decide)
      rw [← HO.out] at hmv
      have HMV := Lib.hid hmv
      clear hmv
      go_wp2_with fail
      refine (HMV.out).mono ?_
      rintro e w2 ⟨rfl, hb2⟩
      clear HMV
      have hb3 := HB1.out.trans (hb2.mono HB1.out.size)
      have hr2 := HRS.out.after hb2
      have h2 := H1.out.fresh hb2
      have ht2 := HT1.out.fresh hb2
      clear x0 x1 x2 x3 x4 s0 s1 f0 H1 HT1 HB1 HS1 HRX HRS
      have s0 : w2.cell? ⟨w.heap.size + 1, 0, none⟩ = some (.int .i64 s.1) := hr2.cell 0
      have s1 : w2.cell? ⟨w.heap.size + 1, 1, none⟩ = some (.slice (adrOf aT) nT cT) := hr2.cell 1
      have H1 := Lib.hid h2
      have HT1 := Lib.hid ht2
      have HB1 := Lib.hid hb3
      clear h2 ht2 hb3 hr2 hb2
      go_wp2_with fail
      refine (on_p w0 ob bm base top f l g aC nC cC w2 vL K left H1.out hlen (Nat.le_trans H.out.lft (by decide)) at_ (by omega) s aT nT cT HT1.out H.out.ok hh0 hh1 ((movesV x).1) ((movesV x).2) (hm.out.1) (hm.out.2.1) (hm.out.2.2.1) (hm.out.2.2.2)).mono ?_
      rintro e w5 (⟨K', left', vL', HR, rfl, h5, hm5, hv5⟩ | ⟨hno, rfl, hm5⟩)
      · have H5 := Lib.hid h5
        have HM5 := Lib.hid hm5
        have HV5 := Lib.hid hv5
        clear h5 hm5 hv5
        go_wp2_with fail
        first
          | go_end0
          | refine bodyPost_ret (results_none rfl _ _ _) rfl ?_
        exact .inl ⟨K', left', vL', top, Lib.hid (by rw [HOU.out]; exact HR.out), rfl, H5.out, (Mods.fresh HB1.out _).trans HM5.out, fun g hg => (HV5.out g hg).imp id (fun h => Nat.le_trans HB1.out.size h)⟩
      · go_wp2_with fail
        exact ⟨rfl, .inr ⟨by rw [HOU.out]; exact hno, rfl, (Mods.fresh HB1.out _).trans hm5⟩⟩
  · as_aux_lemma =>
      have HOU : Hid (outs K f g at_ x s = onV K f at_ s (movesV x).1 (movesV x).2) := Lib.hid (by rw [outs, ← HO.out]; rfl)
      have x2 : w1.cell? ⟨w.heap.size, 2, none⟩ = some (.int .i64 x.b) := HRX.out.cell 2
      have x3 : w1.cell? ⟨w.heap.size, 3, none⟩ = some (.int .i64 x.c) := HRX.out.cell 3
      have x4 : w1.cell? ⟨w.heap.size, 4, none⟩ = some (.string (str x.t)) := HRX.out.cell 4
      have hmv := moves_p W0 pb fuel pn HP0 nF nR nC x w1 (Lib.hid (hW0.out.trans (HB1.out.mono hW0.out.size))) hop hF (by rw [← HO.out]; decide)
      rw [← HO.out] at hmv
      have HMV := Lib.hid hmv
      clear hmv
      go_wp2_with fail
      refine (HMV.out).mono ?_
      rintro e w2 ⟨rfl, hb2⟩
      clear HMV
      have hb3 := HB1.out.trans (hb2.mono HB1.out.size)
      have hr2 := HRS.out.after hb2
      have h2 := H1.out.fresh hb2
      have ht2 := HT1.out.fresh hb2
      clear x0 x1 x2 x3 x4 s0 s1 f0 H1 HT1 HB1 HS1 HRX HRS
      have s0 : w2.cell? ⟨w.heap.size + 1, 0, none⟩ = some (.int .i64 s.1) := hr2.cell 0
      have s1 : w2.cell? ⟨w.heap.size + 1, 1, none⟩ = some (.slice (adrOf aT) nT cT) := hr2.cell 1
      have H1 := Lib.hid h2
      have HT1 := Lib.hid ht2
      have HB1 := Lib.hid hb3
      clear h2 ht2 hb3 hr2 hb2
      go_wp2_with fail
      refine (on_p w0 ob bm base top f l g aC nC cC w2 vL K left H1.out hlen (Nat.le_trans H.out.lft (by decide)) at_ (by omega) s aT nT cT HT1.out H.out.ok hh0 hh1 ((movesV x).1) ((movesV x).2) (hm.out.1) (hm.out.2.1) (hm.out.2.2.1) (hm.out.2.2.2)).mono ?_
      rintro e w5 (⟨K', left', vL', HR, rfl, h5, hm5, hv5⟩ | ⟨hno, rfl, hm5⟩)
      · have H5 := Lib.hid h5
        have HM5 := Lib.hid hm5
        have HV5 := Lib.hid hv5
        clear h5 hm5 hv5
        go_wp2_with fail
        first
          | go_end0
          | refine bodyPost_ret (results_none rfl _ _ _) rfl ?_
        exact .inl ⟨K', left', vL', top, Lib.hid (by rw [HOU.out]; exact HR.out), rfl, H5.out, (Mods.fresh HB1.out _).trans HM5.out, fun g hg => (HV5.out g hg).imp id (fun h => Nat.le_trans HB1.out.size h)⟩
      · go_wp2_with fail
        exact ⟨rfl, .inr ⟨by rw [HOU.out]; exact hno, rfl, (Mods.fresh HB1.out _).trans hm5⟩⟩
  · as_aux_lemma =>
      have HOU : Hid (outs K f g at_ x s = onV K f at_ s (movesV x).1 (movesV x).2) := Lib.hid (by rw [outs, ← HO.out]; rfl)
      have x2 : w1.cell? ⟨w.heap.size, 2, none⟩ = some (.int .i64 x.b) := HRX.out.cell 2
      have x3 : w1.cell? ⟨w.heap.size, 3, none⟩ = some (.int .i64 x.c) := HRX.out.cell 3
      have x4 : w1.cell? ⟨w.heap.size, 4, none⟩ = some (.string (str x.t)) := HRX.out.cell 4
      have hmv := moves_p W0 pb fuel pn HP0 nF nR nC x w1 (Lib.hid (hW0.out.trans (HB1.out.mono hW0.out.size))) hop hF (by rw [← HO.out]; decide)
      rw [← HO.out] at hmv
      have HMV := Lib.hid hmv
      clear hmv
      go_wp2_with fail
      refine (HMV.out).mono ?_
      rintro e w2 ⟨rfl, hb2⟩
      clear HMV
      have hb3 := HB1.out.trans (hb2.mono HB1.out.size)
      have hr2 := HRS.out.after hb2
      have h2 := H1.out.fresh hb2
      have ht2 := HT1.out.fresh hb2
      clear x0 x1 x2 x3 x4 s0 s1 f0 H1 HT1 HB1 HS1 HRX HRS
      have s0 : w2.cell? ⟨w.heap.size + 1, 0, none⟩ = some (.int .i64 s.1) := hr2.cell 0
      have s1 : w2.cell? ⟨w.heap.size + 1, 1, none⟩ = some (.slice (adrOf aT) nT cT) := hr2.cell 1
      have H1 := Lib.hid h2
      have HT1 := Lib.hid ht2
      have HB1 := Lib.hid hb3
      clear h2 ht2 hb3 hr2 hb2
      go_wp2_with fail
      refine (on_p w0 ob bm base top f l g aC nC cC w2 vL K left H1.out hlen (Nat.le_trans H.out.lft (by decide)) at_ (by omega) s aT nT cT HT1.out H.out.ok hh0 hh1 ((movesV x).1) ((movesV x).2) (hm.out.1) (hm.out.2.1) (hm.out.2.2.1) (hm.out.2.2.2)).mono ?_
      rintro e w5 (⟨K', left', vL', HR, rfl, h5, hm5, hv5⟩ | ⟨hno, rfl, hm5⟩)
      · have H5 := Lib.hid h5
        have HM5 := Lib.hid hm5
        have HV5 := Lib.hid hv5
        clear h5 hm5 hv5
        go_wp2_with fail
        first
          | go_end0
          | refine bodyPost_ret (results_none rfl _ _ _) rfl ?_
        exact .inl ⟨K', left', vL', top, Lib.hid (by rw [HOU.out]; exact HR.out), rfl, H5.out, (Mods.fresh HB1.out _).trans HM5.out, fun g hg => (HV5.out g hg).imp id (fun h => Nat.le_trans HB1.out.size h)⟩
      · go_wp2_with fail
        exact ⟨rfl, .inr ⟨by rw [HOU.out]; exact hno, rfl, (Mods.fresh HB1.out _).trans hm5⟩⟩
  · as_aux_lemma =>
      have q0 := later_cell s0
      have q1 := later_cell s1
      go_upto_region 18 with fail
      refine wp_region_idxP Rb Rb_refl Rb_trans (fun c w' => c = wrongE ∧ Mods (WkP ob bm vL) w w' ∧ goTo nC (outs K f g at_ x s) K left = none) [(0,0),(0,1),(0,2),(0,3),(0,4),(1,5),(0,6),(1,7)] (by kernel_rfl) [] (by kernel_rfl) (by kernel_rfl) (by kernel_rfl) ?_ ?_
      · rintro c a' w' hh ⟨rfl, hmm, hno⟩
        exact ⟨hh.1, .inr ⟨hno, rfl, hmm⟩⟩
      simp only [pickO, List.getD_cons_succ, List.getD_cons_zero]
      refine wpCanP_seg 5 (by kernel_rfl) ?_
      simp only [List.take_succ_cons, List.take_zero, List.drop_succ_cons, List.drop_zero, List.map_cons, List.map_nil]
      iterate 5 (go_big_quiet_step (fail))
      refine wpQuiet_nil ?_
      clear q0 q1
      refine wpCanP_list (k := 0) (fun KK hK hP => ?_) rfl
      go_wp2_with fail
      refine (floor_p w0 ob bm base top f l g aC nC cC w1.drew vL K left (H1.out.fresh (Below.refl _ _).drew) hlen s (adrOf aT) nT cT (HT1.out.fresh (Below.refl _ _).drew) H.out.ok).mono ?_
      rintro e w2 ⟨rfl, hb2⟩
      have HB2 := Lib.hid ((Below.refl w1.heap.size w1).drew.trans hb2)
      go_wp2_with fail
      refine hK _ _ ⟨rfl, fun j hj => by cases hj⟩ (fun _ => hb2) ?_
      clear hK hP KK hb2
      obtain ⟨fl, hfl⟩ : ∃ z, z = floorV K f s := ⟨_, rfl⟩
      have HFL := Lib.hid hfl
      rw [← hfl]
      clear hfl
      by_cases hle : fl ≤ s.1 - 1
      · have HOU : Hid (outs K f g at_ x s = some []) := Lib.hid ((outs17 HO.out).trans (if_pos (by rw [← HFL.out]; exact hle)))
        refine wpCanP_seg 1 (by kernel_rfl) ?_
        simp only [List.take_succ_cons, List.take_zero, List.drop_succ_cons, List.drop_zero, List.map_cons, List.map_nil]
        iterate 1 (go_big_quiet_step (fail))
        refine wpQuiet_nil ?_
        refine wpCanP_list (k := 0) (fun KK hK hP => ?_) rfl
        go_wp2_with fail
        refine (ask_yes w2).mono ?_
        rintro e w9 ⟨rfl, rfl⟩
        go_wp2_with fail
        refine hK _ _ ⟨rfl, fun j hj => by cases hj⟩ (fun _ => Below.refl _ _) ?_
        clear hK hP KK
        unfold wpCanP
        go_wp2_with fail
        first
          | go_end0
          | refine bodyPost_ret (results_none rfl _ _ _) rfl ?_
        exact .inl ⟨K, left, vL, top, Lib.hid (by rw [HOU.out]; rfl), rfl, H1.out.fresh HB2.out, (Mods.fresh HB1.out _).trans (Mods.fresh HB2.out _), fun g hg => .inl hg⟩
      · have HOU : Hid (outs K f g at_ x s = none) := Lib.hid ((outs17 HO.out).trans (if_neg (by rw [← HFL.out]; exact hle)))
        refine wpCanP_seg 1 (by kernel_rfl) ?_
        simp only [List.take_succ_cons, List.take_zero, List.drop_succ_cons, List.drop_zero, List.map_cons, List.map_nil]
        iterate 1 (go_big_quiet_step (fail))
        refine wpQuiet_nil ?_
        refine wpCanP_list (k := 0) (fun KK hK hP => ?_) rfl
        go_wp2_with fail
        try rw [HDF.out]
        refine (ask_no w2).mono ?_
        rintro e w9 ⟨rfl, rfl⟩
        go_wp2_with fail
        exact hP _ _ _ ⟨rfl, Mods.fresh (HB1.out.trans (HB2.out.mono HB1.out.size)) _, by rw [HOU.out]; rfl⟩
  · as_aux_lemma =>
      have HLE := Lib.hid HT1.out.len
      have hnb : nT ≤ 1000000 := by have := H.out.tl; have := HLE.out; omega
      have HOU := Lib.hid (outs18 (K := K) (f := f) (g := g) (at_ := at_) (s := s) HO.out)
      have q0 := laterL_cell (B := w1.heap.size) s0 (by rw [HS1.out]; omega)
      have q1 := laterL_cell (B := w1.heap.size) s1 (by rw [HS1.out]; omega)
      have HSD : Hid (Sl w1.drew 1 (.slice (adrOf aT) nT cT) nT (nats s.2)) := Lib.hid (by have h1 := HT1.out.1; rw [← HLE.out] at h1; exact h1.below (Below.refl _ _).drew)
      go_upto_region 24 with fail
      clear x0 f0 x1 s0 s1
      refine wp_region_two (RbL w1.heap.size) (RbL_refl _) (RbL_trans _) (fun c w' => c = wrongE ∧ Mods (WkP ob bm vL) w w' ∧ goTo nC (outs K f g at_ x s) K left = none) [0,1,2,3,4,5,6,8] 7 9 [(1,9),(1,10),(0,11),(2,12)] [(1,7),(1,10),(0,11),(2,12)] #[true,true,true,true,true,true,true,false,true,false,false,false,false] [] (by kernel_rfl) (by kernel_rfl) (by kernel_rfl) (by kernel_rfl) (by kernel_rfl) (by kernel_rfl) (by kernel_rfl) (by kernel_rfl) (by kernel_rfl) (by kernel_rfl) (by kernel_rfl) (by kernel_rfl) (by kernel_rfl) (by kernel_rfl) (by kernel_rfl) (by kernel_rfl) (by kernel_rfl) ?_ ?_
      · rintro c a' w' hh ⟨rfl, hmm, hno⟩
        exact ⟨hh.1, .inr ⟨hno, rfl, hmm⟩⟩
      simp only [pickO, List.getD_cons_succ, List.getD_cons_zero, List.map_cons, List.map_nil]
      refine wpCanP_seg 8 (by kernel_rfl) ?_
      simp only [List.take_succ_cons, List.take_zero, List.drop_succ_cons, List.drop_zero, List.map_cons, List.map_nil]
      iterate 8 (go_big_quiet_step (fail))
      refine wpQuiet_nil ?_
      clear q0 q1
      unfold wpCanP
      refine ⟨⟨rfl, rfl⟩, ?_, ?_⟩
      · refine wp_of_list (ops := #[]) (fun KK hK hP => ?_) rfl
        go_wp2_with fail
        refine (clone_p (adrOf aT) nT cT s.2 w1.drew HSD.out (by omega)).mono ?_
        rintro e w2 ⟨vc, rfl, ho2, hb2⟩
        have HO2 := Lib.hid (ho2.mono (base' := w1.heap.size) (Nat.le_refl _))
        have HB2 := Lib.hid ((Below.refl w1.heap.size w1).drew.trans hb2)
        have HRL : Hid (RbL w1.heap.size w1.drew w2) := Lib.hid hb2
        clear ho2 hb2
        go_wp2_with fail
        refine hK _ _ ⟨rfl, fun j hj => by cases hj⟩ HRL.out ?_
        clear hK hP KK HRL
        refine wpCanP_list (k := 0) (fun KK hK hP => ?_) rfl
        go_wp2_with fail
        have hal : Below w1.heap.size w2 (w2.alloc (.cells #[.int .i64 (at_ : Nat)] 3)) := (Below.refl _ _).alloc HB2.out.size _
        refine hK _ _ ⟨rfl, fun j hj => by cases hj⟩ (fun _ => hal) ?_
        clear hK hP KK
        have HOC := Lib.hid (HO2.out.alloc (.cells #[.int .i64 (at_ : Nat)] 3))
        have HS9 := Lib.hid (Sl.one w2 (.int .i64 (at_ : Nat)) 3)
        have HB3 := Lib.hid (HB2.out.trans hal)
        obtain ⟨w3, hw3⟩ : ∃ y, y = w2.alloc (.cells #[.int .i64 (at_ : Nat)] 3) := ⟨_, rfl⟩
        rw [← hw3] at HOC HS9 HB3 ⊢
        clear hw3 hal HO2 HB2
        have HBS : Hid (w1.heap.size ≤ (w3).heap.size) := Lib.hid HB3.out.size
        refine wpCanP_list (k := 0) (fun KK hK hP => ?_) rfl
        go_wp2_with (at_builtin; refine wpL_append etI rfl _ _ rfl HOC.out rfl HS9.out rfl (by simp [Value.oneCell']) (by omega) (by simp [maxLen]; omega) HBS.out ?_; intro v6 w6 ho6 hg6)
        have hb6 : Below w1.heap.size w3 w6 := (Below.refl w1.heap.size w3).grown hg6 HBS.out (fun k e => HOC.out.lt k e)
        obtain ⟨a6, c6, rfl, h6, ht6, hto6⟩ := tryS H1.out (HB3.out.trans hb6) HT1.out (U := s.2 ++ [at_]) (by rw [nats_append]; exact ho6)
        have HB6 := Lib.hid (HB3.out.trans hb6)
        have H6 := Lib.hid h6
        have HT6 := Lib.hid ht6
        have HTO := Lib.hid hto6
        refine hK _ _ ⟨rfl, fun j hj => by cases hj⟩ (fun _ => hb6) ?_
        clear hK hP KK h6 ht6 hto6 ho6 hg6 hb6 HOC HS9 HB3 HBS
        refine wpCanP_seg 1 (by kernel_rfl) ?_
        simp only [List.take_succ_cons, List.take_zero, List.drop_succ_cons, List.drop_zero, List.map_cons, List.map_nil]
        iterate 1 (go_big_quiet_step (fail))
        refine wpQuiet_nil ?_
        refine wpCanP_list (k := 1) (fun KK hK hP => ?_) rfl
        go_wp2_with fail
        refine (to_p w0 ob bm base w6.heap.size f l g aC nC cC w6 vL K left H6.out hlen (Nat.le_trans H.out.lft (by decide)) ((at_ : Int) + 1) (s.1, s.2 ++ [at_]) a6 (nT + 1) c6 HT6.out).mono ?_
        rintro e w5 (⟨K', left', vL', HR, rfl, h5, hm5, hv5⟩ | ⟨hno, rfl, hm5⟩)
        · have HLO := Lib.hid H.out.wk.low
          have hrs := (HRS.out.after HB6.out).mods hm5 (fun e => by have := HLO.out _ e; omega)
          have hrx := (HRX.out.after HB6.out).mods hm5 (fun e => by have := HLO.out _ e; omega)
          have x1 : w5.cell? ⟨w.heap.size, 1, none⟩ = some (.int .i64 x.a) := hrx.cell 1
          have s0 : w5.cell? ⟨w.heap.size + 1, 0, none⟩ = some (.int .i64 s.1) := hrs.cell 0
          have s1 : w5.cell? ⟨w.heap.size + 1, 1, none⟩ = some (.slice (adrOf aT) nT cT) := hrs.cell 1
          have H5 := Lib.hid h5
          have HM5 := Lib.hid hm5
          have HV5 := Lib.hid hv5
          have HT5 := Lib.hid (TrV.past HTO.out H6.out hm5 hv5)
          clear h5 hm5 hv5 hrs hrx HLO
          go_wp2_with fail
          refine hK _ _ ⟨rfl, fun j hj => by cases hj⟩ (fun h => by cases h) ?_
          clear hK hP KK
          unfold wpCanP
          go_wp2_with fail
          refine (to_p w0 ob bm base w6.heap.size f l g aC nC cC w5 vL' K' left' H5.out hlen (by have := toS_len HR.out; have := H.out.lft; omega) x.a (s.1 + 1, s.2) aT nT cT HT5.out).mono ?_
          rintro e w7 hR
          have HOR : Hid (goTo nC (outs K f g at_ x s) K left = toS nC (x.a, (s.1 + 1, s.2)) K' left') := Lib.hid (by rw [HOU.out]; exact toAll_two _ _ _ _ _ HR.out)
          have HRR := Lib.hid (hR.after (w := w) ((Mods.fresh (HB1.out.trans (HB6.out.mono HB1.out.size)) _).trans HM5.out) (fun g hg => (HV5.out g hg).imp id (fun h => Nat.le_trans HB1.out.size (Nat.le_trans HB6.out.size h))))
          clear hR
          rcases HRR.out with ⟨K2, left2, vL2, top2, h1, rfl, h3⟩ | ⟨h1, rfl, h3⟩
          · go_wp2_with fail
            first
              | go_end0
              | refine bodyPost_ret (results_none rfl _ _ _) rfl ?_
            rw [HOR.out]
            exact HRR.out
          · go_wp2_with fail
            refine ⟨rfl, ?_⟩
            rw [HOR.out]
            exact HRR.out
        · have HNO : Hid (goTo nC (outs K f g at_ x s) K left = none) := Lib.hid (by rw [HOU.out]; exact toAll_no _ _ _ _ _ hno)
          have HMM : Hid (Mods (WkP ob bm vL) w w5) := Lib.hid ((Mods.fresh (HB1.out.trans (HB6.out.mono HB1.out.size)) _).trans hm5)
          clear hno hm5
          go_wp2_with fail
          first
            | exact HNO.out
            | exact ⟨HMM.out, HNO.out⟩
            | exact ⟨rfl, HMM.out, HNO.out⟩
            | exact hP _ _ _ ⟨rfl, HMM.out, HNO.out⟩
      · refine wp_of_list (ops := #[]) (fun KK hK hP => ?_) rfl
        go_wp2_with fail
        have hal0 : Below w1.drew.heap.size w1.drew (w1.drew.alloc (.cells #[.int .i64 (at_ : Nat)] 3)) := (Below.refl _ _).alloc (Nat.le_refl _) _
        have hal : Below w1.heap.size w1.drew (w1.drew.alloc (.cells #[.int .i64 (at_ : Nat)] 3)) := hal0
        clear hal0
        refine hK _ _ ⟨rfl, fun j hj => by cases hj⟩ hal ?_
        clear hK hP KK
        have HS8 := Lib.hid (Sl.one w1.drew (.int .i64 (at_ : Nat)) 3)
        have HB2 := Lib.hid ((Below.refl w1.heap.size w1).drew.trans hal)
        have HSE := Lib.hid (HSD.out.below (w' := w1.drew.alloc (.cells #[.int .i64 (at_ : Nat)] 3)) hal)
        have hcm : w1.drew.alloc (.cells #[.int .i64 (at_ : Nat)] 3) = (w1.alloc (.cells #[.int .i64 (at_ : Nat)] 3)).drew := rfl
        rw [hcm] at HS8 HB2 HSE
        obtain ⟨w2, hw2⟩ : ∃ y, y = (w1.alloc (.cells #[.int .i64 (at_ : Nat)] 3)).drew := ⟨_, rfl⟩
        rw [← hw2] at HS8 HB2 HSE ⊢
        clear hcm
        clear hw2 hal
        refine wpCanP_list (k := 0) (fun KK hK hP => ?_) rfl
        go_wp2_with fail
        refine (clone_p (adrOf aT) nT cT s.2 w2 HSE.out (by omega)).mono ?_
        rintro e w3 ⟨vc, rfl, ho2, hb2⟩
        have HOC := Lib.hid (ho2.mono (base' := w1.heap.size) HB2.out.size)
        have HB3 := Lib.hid (HB2.out.trans (hb2.mono HB2.out.size))
        have HS9 := Lib.hid (HS8.out.below hb2)
        have HRL : Hid (RbL w1.heap.size w2 w3) := Lib.hid (hb2.mono HB2.out.size)
        clear ho2 hb2
        go_wp2_with fail
        refine hK _ _ ⟨rfl, fun j hj => by cases hj⟩ (fun _ => HRL.out) ?_
        clear hK hP KK HRL HS8 HSE HB2
        have HBS : Hid (w1.heap.size ≤ (w3).heap.size) := Lib.hid HB3.out.size
        refine wpCanP_list (k := 0) (fun KK hK hP => ?_) rfl
        go_wp2_with (at_builtin; refine wpL_append etI rfl _ _ rfl HOC.out rfl HS9.out rfl (by simp [Value.oneCell']) (by omega) (by simp [maxLen]; omega) HBS.out ?_; intro v6 w6 ho6 hg6)
        have hb6 : Below w1.heap.size w3 w6 := (Below.refl w1.heap.size w3).grown hg6 HBS.out (fun k e => HOC.out.lt k e)
        obtain ⟨a6, c6, rfl, h6, ht6, hto6⟩ := tryS H1.out (HB3.out.trans hb6) HT1.out (U := s.2 ++ [at_]) (by rw [nats_append]; exact ho6)
        have HB6 := Lib.hid (HB3.out.trans hb6)
        have H6 := Lib.hid h6
        have HT6 := Lib.hid ht6
        have HTO := Lib.hid hto6
        refine hK _ _ ⟨rfl, fun j hj => by cases hj⟩ (fun _ => hb6) ?_
        clear hK hP KK h6 ht6 hto6 ho6 hg6 hb6 HOC HS9 HB3 HBS
        refine wpCanP_seg 1 (by kernel_rfl) ?_
        simp only [List.take_succ_cons, List.take_zero, List.drop_succ_cons, List.drop_zero, List.map_cons, List.map_nil]
        iterate 1 (go_big_quiet_step (fail))
        refine wpQuiet_nil ?_
        refine wpCanP_list (k := 1) (fun KK hK hP => ?_) rfl
        go_wp2_with fail
        refine (to_p w0 ob bm base w6.heap.size f l g aC nC cC w6 vL K left H6.out hlen (Nat.le_trans H.out.lft (by decide)) ((at_ : Int) + 1) (s.1, s.2 ++ [at_]) a6 (nT + 1) c6 HT6.out).mono ?_
        rintro e w5 (⟨K', left', vL', HR, rfl, h5, hm5, hv5⟩ | ⟨hno, rfl, hm5⟩)
        · have HLO := Lib.hid H.out.wk.low
          have hrs := (HRS.out.after HB6.out).mods hm5 (fun e => by have := HLO.out _ e; omega)
          have hrx := (HRX.out.after HB6.out).mods hm5 (fun e => by have := HLO.out _ e; omega)
          have x1 : w5.cell? ⟨w.heap.size, 1, none⟩ = some (.int .i64 x.a) := hrx.cell 1
          have s0 : w5.cell? ⟨w.heap.size + 1, 0, none⟩ = some (.int .i64 s.1) := hrs.cell 0
          have s1 : w5.cell? ⟨w.heap.size + 1, 1, none⟩ = some (.slice (adrOf aT) nT cT) := hrs.cell 1
          have H5 := Lib.hid h5
          have HM5 := Lib.hid hm5
          have HV5 := Lib.hid hv5
          have HT5 := Lib.hid (TrV.past HTO.out H6.out hm5 hv5)
          clear h5 hm5 hv5 hrs hrx HLO
          go_wp2_with fail
          refine hK _ _ ⟨rfl, fun j hj => by cases hj⟩ (fun h => by cases h) ?_
          clear hK hP KK
          unfold wpCanP
          go_wp2_with fail
          refine (to_p w0 ob bm base w6.heap.size f l g aC nC cC w5 vL' K' left' H5.out hlen (by have := toS_len HR.out; have := H.out.lft; omega) x.a (s.1 + 1, s.2) aT nT cT HT5.out).mono ?_
          rintro e w7 hR
          have HOR : Hid (goTo nC (outs K f g at_ x s) K left = toS nC (x.a, (s.1 + 1, s.2)) K' left') := Lib.hid (by rw [HOU.out]; exact toAll_two _ _ _ _ _ HR.out)
          have HRR := Lib.hid (hR.after (w := w) ((Mods.fresh (HB1.out.trans (HB6.out.mono HB1.out.size)) _).trans HM5.out) (fun g hg => (HV5.out g hg).imp id (fun h => Nat.le_trans HB1.out.size (Nat.le_trans HB6.out.size h))))
          clear hR
          rcases HRR.out with ⟨K2, left2, vL2, top2, h1, rfl, h3⟩ | ⟨h1, rfl, h3⟩
          · go_wp2_with fail
            first
              | go_end0
              | refine bodyPost_ret (results_none rfl _ _ _) rfl ?_
            rw [HOR.out]
            exact HRR.out
          · go_wp2_with fail
            refine ⟨rfl, ?_⟩
            rw [HOR.out]
            exact HRR.out
        · have HNO : Hid (goTo nC (outs K f g at_ x s) K left = none) := Lib.hid (by rw [HOU.out]; exact toAll_no _ _ _ _ _ hno)
          have HMM : Hid (Mods (WkP ob bm vL) w w5) := Lib.hid ((Mods.fresh (HB1.out.trans (HB6.out.mono HB1.out.size)) _).trans hm5)
          clear hno hm5
          go_wp2_with fail
          first
            | exact HNO.out
            | exact ⟨HMM.out, HNO.out⟩
            | exact ⟨rfl, HMM.out, HNO.out⟩
            | exact hP _ _ _ ⟨rfl, HMM.out, HNO.out⟩
  · as_aux_lemma =>
      cases hl : s.2.getLast? with
      | none =>
        have hn0 : nT = 0 := by rw [HT1.out.len, List.getLast?_eq_none_iff.1 hl]; rfl
        have HOU : Hid (outs K f g at_ x s = none) := Lib.hid (by rw [outs19 HO.out, hl])
        clear hl
        subst hn0
        go_upto_region 28 with fail
        refine wp_region_idxP Rb Rb_refl Rb_trans (fun c w' => c = wrongE ∧ Mods (WkP ob bm vL) w w' ∧ goTo nC (outs K f g at_ x s) K left = none) [(0,0),(0,1),(0,2),(0,3),(0,4),(0,5),(0,6),(0,7),(0,8),(0,9),(0,10),(0,11),(0,12),(0,13),(0,14),(0,15),(0,16),(0,17),(0,18),(1,19)] (by kernel_rfl) [] (by kernel_rfl) (by kernel_rfl) (by kernel_rfl) ?_ ?_
        · rintro c a' w' hh ⟨rfl, hmm, hno⟩
          exact ⟨hh.1, .inr ⟨hno, rfl, hmm⟩⟩
        simp only [pickO, List.getD_cons_succ, List.getD_cons_zero]
        refine wpCanP_seg 19 (by kernel_rfl) ?_
        simp only [List.take_succ_cons, List.take_zero, List.drop_succ_cons, List.drop_zero, List.map_cons, List.map_nil]
        iterate 19 (go_big_quiet_step (fail))
        refine wpQuiet_nil ?_
        refine wpCanP_list (k := 0) (fun KK hK hP => ?_) rfl
        go_wp2_with fail
        try rw [HDF.out]
        refine (ask_no (w1.drew)).mono ?_
        rintro e w9 ⟨rfl, rfl⟩
        go_wp2_with fail
        exact hP _ _ _ ⟨rfl, Mods.fresh (HB1.out.trans ((Below.refl _ _).drew.mono HB1.out.size)) _, by rw [HOU.out]; rfl⟩
      | some p =>
        have hpos : 0 < nT := by
          rw [HT1.out.len]
          cases he : s.2 with
          | nil => rw [he] at hl; cases hl
          | cons a b => simp
        have hpT : p ∈ s.2 := List.mem_of_getLast? hl
        obtain ⟨s', hs'⟩ : ∃ s', K p = some s' := Option.ne_none_iff_exists'.1 (H.out.ok p hpT)
        have hOU : outs K f g at_ x s = if s.1 = s'.1 + 1 then some [((at_ : Int) + 1, (s.1, s.2.dropLast))] else none := by rw [outs19 HO.out, hl]; simp only [hOf, hs']
        obtain ⟨a', c', hlook, _⟩ := H1.out.map.looks hlen hs'
        have hT1 : Sl w1 1 (.slice (adrOf aT) nT cT) nT (nats s.2) := by have := HT1.out.1; rw [← HT1.out.len] at this; exact this
        have hcap := hT1.cap
        obtain ⟨b, off, u, ha, hu, hc⟩ := hT1.at (k := nT - 1) (by omega)
        obtain ⟨z, rfl, hz⟩ := nats_at hu
        have hla := last_at hl
        rw [← HT1.out.len] at hla
        rw [hla] at hz
        cases hz
        have hb' := H.out.kb p s' hs'
        have hb0 := hb'.1
        have hb1' := hb'.2
        have q0 := later_cell s0
        have q1 := later_cell s1
        have q2 := later_cell hc
        have q7 := later_cell H1.out.row8.2.1
        have hcap1 := hcap.1
        have hcap2 := hcap.2.1
        have HHL := Lib.hid hl
        rw [ha] at q1 s1 ⊢
        clear hl hT1 hcap hu hla hc hpT hs' hb'
        have hfld := fieldS
        by_cases he : s.1 = s'.1 + 1
        · have HOU := Lib.hid (hOU.trans (if_pos he))
          have hbe : (s.1 == s'.1 + 1) = true := by rw [he]; simp
          clear he hOU
          go_upto_region 28 with fail
          refine wp_region_idxP Rb Rb_refl Rb_trans (fun c w' => c = wrongE ∧ Mods (WkP ob bm vL) w w' ∧ goTo nC (outs K f g at_ x s) K left = none) [(0,0),(0,1),(0,2),(0,3),(0,4),(0,5),(0,6),(0,7),(0,8),(0,9),(0,10),(0,11),(0,12),(0,13),(0,14),(0,15),(0,16),(0,17),(0,18),(1,19)] (by kernel_rfl) [] (by kernel_rfl) (by kernel_rfl) (by kernel_rfl) ?_ ?_
          · rintro c a' w' hh ⟨rfl, hmm, hno⟩
            exact ⟨hh.1, .inr ⟨hno, rfl, hmm⟩⟩
          simp only [pickO, List.getD_cons_succ, List.getD_cons_zero]
          refine wpCanP_seg 2 (by kernel_rfl) ?_
          simp only [List.take_succ_cons, List.take_zero, List.drop_succ_cons, List.drop_zero, List.map_cons, List.map_nil]
          iterate 2 (go_big_quiet_step (fail))
          refine wpQuiet_nil ?_
          rw [decide_eq_true (show (1:Int) ≤ nT by omega)]
          refine wpCanP_seg 17 (by kernel_rfl) ?_
          simp only [List.take_succ_cons, List.take_zero, List.drop_succ_cons, List.drop_zero, List.map_cons, List.map_nil]
          iterate 17 (go_big_quiet_step (fail))
          refine wpQuiet_nil ?_
          clear q0 q1 q2 q7
          refine wpCanP_list (k := 0) (fun KK hK hP => ?_) rfl
          go_wp2_with fail
          refine (ask_yes (w1.drew)).mono ?_
          rintro e w9 ⟨rfl, rfl⟩
          go_wp2_with fail
          refine hK _ _ ⟨rfl, fun j hj => by cases hj⟩ (fun _ => Below.refl _ _) ?_
          clear hK hP KK
          unfold wpCanP
          obtain ⟨w2, hwd⟩ : ∃ y, y = w1.drew := ⟨_, rfl⟩
          rw [← hwd]
          have hbd : Below w1.heap.size w1 w2 := by rw [hwd]; exact (Below.refl _ _).drew
          clear hwd
          have hbu := HB1.out.trans ((hbd).mono HB1.out.size)
          have hru := HRS.out.after hbd
          have hrx := HRX.out.after hbd
          have hu := H1.out.fresh hbd
          have htu := HT1.out.fresh hbd
          clear x0 x1 s0 s1 f0 H1 HT1 HB1 HS1 HRX HRS
          have x1 : (w2).cell? ⟨w.heap.size, 1, none⟩ = some (.int .i64 x.a) := hrx.cell 1
          have s0 : (w2).cell? ⟨w.heap.size + 1, 0, none⟩ = some (.int .i64 s.1) := hru.cell 0
          have s1 : (w2).cell? ⟨w.heap.size + 1, 1, none⟩ = some (.slice (adrOf aT) nT cT) := hru.cell 1
          have f0 : (w2).cell? ⟨ob, 0, none⟩ = some (.int .i64 (f : Nat)) := hu.row.cell 0
          have H1 := Lib.hid hu
          have HT1 := Lib.hid htu
          have HB1 := Lib.hid hbu
          have HRX := Lib.hid hrx
          have HRS := Lib.hid hru
          clear hu htu hbu hru hrx
          clear hbd
          have hsl : ∀ x : Later Rb w2.drew, (Instr.slice 118 (.slice (adrOf aT) nT cT) none (some (.int .i64 ((nT : Int) - 1))) none).run Tryd.prog x.w = .ok (.slice (adrOf aT) (nT - 1) cT) x.w := fun x => by
            have h1 := run_cut (P := Tryd.prog) x.w Tryd.underlying118 (by kernel_rfl) (adrOf aT) nT cT 0 (nT - 1) cT none (some (.int .i64 ((nT - 1 : Nat) : Int))) none (bounds_h _ _ _ _ _ (by omega))
            have h2 : cutAddr (adrOf aT) cT 0 = adrOf aT := by
              unfold cutAddr
              split
              · rfl
              · cases aT <;> simp [adrOf, add_eq]
            rw [show ((nT - 1 : Nat) : Int) = (nT : Int) - 1 by omega, h2] at h1
            simpa using h1
          have q0 := later_cell s0
          have q1 := later_cell s1
          have HTd := Lib.hid (HT1.out.drop.fresh (Below.refl w2.heap.size w2).drew)
          go_upto_region 29 with fail
          refine wp_region_idxP Rb Rb_refl Rb_trans (fun c w' => c = wrongE ∧ Mods (WkP ob bm vL) w w' ∧ goTo nC (outs K f g at_ x s) K left = none) [(0,0),(0,1),(0,2),(0,3),(0,4),(0,5),(0,6),(0,7),(0,8),(0,9),(2,10)] (by kernel_rfl) [] (by kernel_rfl) (by kernel_rfl) (by kernel_rfl) ?_ ?_
          · rintro c a' w' hh ⟨rfl, hmm, hno⟩
            exact ⟨hh.1, .inr ⟨hno, rfl, hmm⟩⟩
          simp only [pickO, List.getD_cons_succ, List.getD_cons_zero]
          refine wpCanP_seg 10 (by kernel_rfl) ?_
          simp only [List.take_succ_cons, List.take_zero, List.drop_succ_cons, List.drop_zero, List.map_cons, List.map_nil]
          iterate 10 (go_big_quiet_step (fail))
          refine wpQuiet_nil ?_
          clear q0 q1 hsl
          refine wpCanP_list (k := 1) (fun KK hK hP => ?_) rfl
          go_wp2_with fail
          have hto := to_p w0 ob bm base top f l g aC nC cC w2.drew vL K left (H1.out.fresh (Below.refl _ _).drew) hlen (Nat.le_trans H.out.lft (by decide)) ((at_ : Int) + 1) (s.1, s.2.dropLast) aT (nT - 1) cT HTd.out
          rw [ha] at hto
          refine hto.mono ?_
          clear hto
          rintro e w6 hR
          have HRR := Lib.hid (hR.step (HB1.out.trans ((Below.refl _ _).drew.mono HB1.out.size)))
          clear hR
          have HOR : Hid (goTo nC (outs K f g at_ x s) K left = toS nC ((at_ : Int) + 1, (s.1, s.2.dropLast)) K left) := Lib.hid (by rw [HOU.out]; exact toAll_one _ _ _ _)
          rcases HRR.out with ⟨K2, left2, vL2, top2, h1, rfl, h3⟩ | ⟨h1, rfl, h3⟩
          · go_wp2_with fail
            refine hK _ _ ⟨rfl, fun j hj => by cases hj⟩ (fun h => by cases h) ?_
            clear hK hP KK
            unfold wpCanP
            go_wp2_with fail
            first
              | go_end0
              | refine bodyPost_ret (results_none rfl _ _ _) rfl ?_
            rw [HOR.out]
            exact HRR.out
          · go_wp2_with fail
            rw [HOR.out]; exact h1
        · have HOU := Lib.hid (hOU.trans (if_neg he))
          have hbe : (s.1 == s'.1 + 1) = false := by rw [beq_eq_false_iff_ne]; exact he
          clear he hOU
          go_upto_region 28 with fail
          refine wp_region_idxP Rb Rb_refl Rb_trans (fun c w' => c = wrongE ∧ Mods (WkP ob bm vL) w w' ∧ goTo nC (outs K f g at_ x s) K left = none) [(0,0),(0,1),(0,2),(0,3),(0,4),(0,5),(0,6),(0,7),(0,8),(0,9),(0,10),(0,11),(0,12),(0,13),(0,14),(0,15),(0,16),(0,17),(0,18),(1,19)] (by kernel_rfl) [] (by kernel_rfl) (by kernel_rfl) (by kernel_rfl) ?_ ?_
          · rintro c a' w' hh ⟨rfl, hmm, hno⟩
            exact ⟨hh.1, .inr ⟨hno, rfl, hmm⟩⟩
          simp only [pickO, List.getD_cons_succ, List.getD_cons_zero]
          refine wpCanP_seg 2 (by kernel_rfl) ?_
          simp only [List.take_succ_cons, List.take_zero, List.drop_succ_cons, List.drop_zero, List.map_cons, List.map_nil]
          iterate 2 (go_big_quiet_step (fail))
          refine wpQuiet_nil ?_
          rw [decide_eq_true (show (1:Int) ≤ nT by omega)]
          refine wpCanP_seg 17 (by kernel_rfl) ?_
          simp only [List.take_succ_cons, List.take_zero, List.drop_succ_cons, List.drop_zero, List.map_cons, List.map_nil]
          iterate 17 (go_big_quiet_step (fail))
          refine wpQuiet_nil ?_
          clear q0 q1 q2 q7
          refine wpCanP_list (k := 0) (fun KK hK hP => ?_) rfl
          go_wp2_with fail
          try rw [HDF.out]
          refine (ask_no (w1.drew)).mono ?_
          rintro e w9 ⟨rfl, rfl⟩
          go_wp2_with fail
          exact hP _ _ _ ⟨rfl, Mods.fresh (HB1.out.trans ((Below.refl _ _).drew.mono HB1.out.size)) _, by rw [HOU.out]; rfl⟩
  · as_aux_lemma =>
      have HOU : Hid (outs K f g at_ x s = onV K f at_ s (movesV x).1 (movesV x).2) := Lib.hid (by rw [outs, ← HO.out]; rfl)
      have x2 : w1.cell? ⟨w.heap.size, 2, none⟩ = some (.int .i64 x.b) := HRX.out.cell 2
      have x3 : w1.cell? ⟨w.heap.size, 3, none⟩ = some (.int .i64 x.c) := HRX.out.cell 3
      have x4 : w1.cell? ⟨w.heap.size, 4, none⟩ = some (.string (str x.t)) := HRX.out.cell 4
      have hmv := moves_p W0 pb fuel pn HP0 nF nR nC x w1 (Lib.hid (hW0.out.trans (HB1.out.mono hW0.out.size))) hop hF (by rw [← HO.out]; decide)
      rw [← HO.out] at hmv
      have HMV := Lib.hid hmv
      clear hmv
      go_wp2_with fail
      refine (HMV.out).mono ?_
      rintro e w2 ⟨rfl, hb2⟩
      clear HMV
      have hb3 := HB1.out.trans (hb2.mono HB1.out.size)
      have hr2 := HRS.out.after hb2
      have h2 := H1.out.fresh hb2
      have ht2 := HT1.out.fresh hb2
      clear x0 x1 x2 x3 x4 s0 s1 f0 H1 HT1 HB1 HS1 HRX HRS
      have s0 : w2.cell? ⟨w.heap.size + 1, 0, none⟩ = some (.int .i64 s.1) := hr2.cell 0
      have s1 : w2.cell? ⟨w.heap.size + 1, 1, none⟩ = some (.slice (adrOf aT) nT cT) := hr2.cell 1
      have H1 := Lib.hid h2
      have HT1 := Lib.hid ht2
      have HB1 := Lib.hid hb3
      clear h2 ht2 hb3 hr2 hb2
      go_wp2_with fail
      refine (on_p w0 ob bm base top f l g aC nC cC w2 vL K left H1.out hlen (Nat.le_trans H.out.lft (by decide)) at_ (by omega) s aT nT cT HT1.out H.out.ok hh0 hh1 ((movesV x).1) ((movesV x).2) (hm.out.1) (hm.out.2.1) (hm.out.2.2.1) (hm.out.2.2.2)).mono ?_
      rintro e w5 (⟨K', left', vL', HR, rfl, h5, hm5, hv5⟩ | ⟨hno, rfl, hm5⟩)
      · have H5 := Lib.hid h5
        have HM5 := Lib.hid hm5
        have HV5 := Lib.hid hv5
        clear h5 hm5 hv5
        go_wp2_with fail
        first
          | go_end0
          | refine bodyPost_ret (results_none rfl _ _ _) rfl ?_
        exact .inl ⟨K', left', vL', top, Lib.hid (by rw [HOU.out]; exact HR.out), rfl, H5.out, (Mods.fresh HB1.out _).trans HM5.out, fun g hg => (HV5.out g hg).imp id (fun h => Nat.le_trans HB1.out.size h)⟩
      · go_wp2_with fail
        exact ⟨rfl, .inr ⟨by rw [HOU.out]; exact hno, rfl, (Mods.fresh HB1.out _).trans hm5⟩⟩
  · as_aux_lemma =>
      have HOU : Hid (outs K f g at_ x s = onV K f at_ s (movesV x).1 (movesV x).2) := Lib.hid (by rw [outs, ← HO.out]; rfl)
      have x2 : w1.cell? ⟨w.heap.size, 2, none⟩ = some (.int .i64 x.b) := HRX.out.cell 2
      have x3 : w1.cell? ⟨w.heap.size, 3, none⟩ = some (.int .i64 x.c) := HRX.out.cell 3
      have x4 : w1.cell? ⟨w.heap.size, 4, none⟩ = some (.string (str x.t)) := HRX.out.cell 4
      have hmv := moves_p W0 pb fuel pn HP0 nF nR nC x w1 (Lib.hid (hW0.out.trans (HB1.out.mono hW0.out.size))) hop hF (by rw [← HO.out]; decide)
      rw [← HO.out] at hmv
      have HMV := Lib.hid hmv
      clear hmv
      go_wp2_with fail
      refine (HMV.out).mono ?_
      rintro e w2 ⟨rfl, hb2⟩
      clear HMV
      have hb3 := HB1.out.trans (hb2.mono HB1.out.size)
      have hr2 := HRS.out.after hb2
      have h2 := H1.out.fresh hb2
      have ht2 := HT1.out.fresh hb2
      clear x0 x1 x2 x3 x4 s0 s1 f0 H1 HT1 HB1 HS1 HRX HRS
      have s0 : w2.cell? ⟨w.heap.size + 1, 0, none⟩ = some (.int .i64 s.1) := hr2.cell 0
      have s1 : w2.cell? ⟨w.heap.size + 1, 1, none⟩ = some (.slice (adrOf aT) nT cT) := hr2.cell 1
      have H1 := Lib.hid h2
      have HT1 := Lib.hid ht2
      have HB1 := Lib.hid hb3
      clear h2 ht2 hb3 hr2 hb2
      go_wp2_with fail
      refine (on_p w0 ob bm base top f l g aC nC cC w2 vL K left H1.out hlen (Nat.le_trans H.out.lft (by decide)) at_ (by omega) s aT nT cT HT1.out H.out.ok hh0 hh1 ((movesV x).1) ((movesV x).2) (hm.out.1) (hm.out.2.1) (hm.out.2.2.1) (hm.out.2.2.2)).mono ?_
      rintro e w5 (⟨K', left', vL', HR, rfl, h5, hm5, hv5⟩ | ⟨hno, rfl, hm5⟩)
      · have H5 := Lib.hid h5
        have HM5 := Lib.hid hm5
        have HV5 := Lib.hid hv5
        clear h5 hm5 hv5
        go_wp2_with fail
        first
          | go_end0
          | refine bodyPost_ret (results_none rfl _ _ _) rfl ?_
        exact .inl ⟨K', left', vL', top, Lib.hid (by rw [HOU.out]; exact HR.out), rfl, H5.out, (Mods.fresh HB1.out _).trans HM5.out, fun g hg => (HV5.out g hg).imp id (fun h => Nat.le_trans HB1.out.size h)⟩
      · go_wp2_with fail
        exact ⟨rfl, .inr ⟨by rw [HOU.out]; exact hno, rfl, (Mods.fresh HB1.out _).trans hm5⟩⟩
  · as_aux_lemma =>
      have HOU : Hid (outs K f g at_ x s = onV K f at_ s (movesV x).1 (movesV x).2) := Lib.hid (by rw [outs, ← HO.out]; rfl)
      have x2 : w1.cell? ⟨w.heap.size, 2, none⟩ = some (.int .i64 x.b) := HRX.out.cell 2
      have x3 : w1.cell? ⟨w.heap.size, 3, none⟩ = some (.int .i64 x.c) := HRX.out.cell 3
      have x4 : w1.cell? ⟨w.heap.size, 4, none⟩ = some (.string (str x.t)) := HRX.out.cell 4
      have hmv := moves_p W0 pb fuel pn HP0 nF nR nC x w1 (Lib.hid (hW0.out.trans (HB1.out.mono hW0.out.size))) hop hF (by rw [← HO.out]; decide)
      rw [← HO.out] at hmv
      have HMV := Lib.hid hmv
      clear hmv
      go_wp2_with fail
      refine (HMV.out).mono ?_
      rintro e w2 ⟨rfl, hb2⟩
      clear HMV
      have hb3 := HB1.out.trans (hb2.mono HB1.out.size)
      have hr2 := HRS.out.after hb2
      have h2 := H1.out.fresh hb2
      have ht2 := HT1.out.fresh hb2
      clear x0 x1 x2 x3 x4 s0 s1 f0 H1 HT1 HB1 HS1 HRX HRS
      have s0 : w2.cell? ⟨w.heap.size + 1, 0, none⟩ = some (.int .i64 s.1) := hr2.cell 0
      have s1 : w2.cell? ⟨w.heap.size + 1, 1, none⟩ = some (.slice (adrOf aT) nT cT) := hr2.cell 1
      have H1 := Lib.hid h2
      have HT1 := Lib.hid ht2
      have HB1 := Lib.hid hb3
      clear h2 ht2 hb3 hr2 hb2
      go_wp2_with fail
      refine (on_p w0 ob bm base top f l g aC nC cC w2 vL K left H1.out hlen (Nat.le_trans H.out.lft (by decide)) at_ (by omega) s aT nT cT HT1.out H.out.ok hh0 hh1 ((movesV x).1) ((movesV x).2) (hm.out.1) (hm.out.2.1) (hm.out.2.2.1) (hm.out.2.2.2)).mono ?_
      rintro e w5 (⟨K', left', vL', HR, rfl, h5, hm5, hv5⟩ | ⟨hno, rfl, hm5⟩)
      · have H5 := Lib.hid h5
        have HM5 := Lib.hid hm5
        have HV5 := Lib.hid hv5
        clear h5 hm5 hv5
        go_wp2_with fail
        first
          | go_end0
          | refine bodyPost_ret (results_none rfl _ _ _) rfl ?_
        exact .inl ⟨K', left', vL', top, Lib.hid (by rw [HOU.out]; exact HR.out), rfl, H5.out, (Mods.fresh HB1.out _).trans HM5.out, fun g hg => (HV5.out g hg).imp id (fun h => Nat.le_trans HB1.out.size h)⟩
      · go_wp2_with fail
        exact ⟨rfl, .inr ⟨by rw [HOU.out]; exact hno, rfl, (Mods.fresh HB1.out _).trans hm5⟩⟩
  · as_aux_lemma =>
      by_cases hf : f = 0
      · have hb0 : ((f : Int) == 0) = true := by rw [hf]; rfl
        have HOU : Hid (outs K f g at_ x s = some [((at_ : Int) + 1, s), (x.b, (s.1 + 1, s.2))]) := Lib.hid ((outs23 HO.out).trans (if_pos hf))
        clear hf
        go_wp2_with fail
        refine (ask_yes w1).mono ?_
        rintro e w2 ⟨rfl, rfl⟩
        go_wp2_with fail
        refine (to_p w0 ob bm base top f l g aC nC cC w2 vL K left H1.out hlen (Nat.le_trans H.out.lft (by decide)) ((at_ : Int) + 1) s aT nT cT HT1.out).mono ?_
        rintro e w5 (⟨K', left', vL', HR, rfl, h5, hm5, hv5⟩ | ⟨hno, rfl, hm5⟩)
        · have HLO := Lib.hid H.out.wk.low
          have hrs := HRS.out.mods hm5 (fun e => by have := HLO.out _ e; omega)
          have hrx := HRX.out.mods hm5 (fun e => by have := HLO.out _ e; omega)
          have t0 : w5.cell? ⟨w.heap.size + 1, 0, none⟩ = some (.int .i64 s.1) := hrs.cell 0
          have t1 : w5.cell? ⟨w.heap.size + 1, 1, none⟩ = some (.slice (adrOf aT) nT cT) := hrs.cell 1
          have t2 := hrs.free 0
          have x2 : w5.cell? ⟨w.heap.size, 2, none⟩ = some (.int .i64 x.b) := hrx.cell 2
          have H5 := Lib.hid h5
          have HM5 := Lib.hid hm5
          have HV5 := Lib.hid hv5
          have HT5 := Lib.hid (TrV.past HT1.out H1.out hm5 hv5)
          have HRS5 := Lib.hid (hrs.set 0 (.int .i64 (s.1 + 1)))
          clear h5 hm5 hv5 hrs hrx x0 x1 s0 s1 f0
          have hno : ∀ g, (fun b => b = w.heap.size + 1) g → top ≤ g ∧ vL'.ownBlock ≠ some g := fun g hg => by
            have h1 := H.out.wk.up
            refine ⟨by omega, fun e => ?_⟩
            rcases HV5.out g e with h | h
            · have := H.out.wk.lft.lives g h; omega
            · have := HS1.out; omega
          have h6 := H5.out.mods (Mods.set w5 (w.heap.size + 1) 0 (.int .i64 (s.1 + 1))) hno
          have ht6 := HT5.out.mods (B' := vL'.ownBlock) H5.out.up.2 (Mods.set w5 (w.heap.size + 1) 0 (.int .i64 (s.1 + 1))) (fun g g1 g2 _ e => by have := (hno g e).1; omega) (fun g hg => .inl hg)
          have hm6 : Mods (WkP ob bm vL) w2 (w5.setCell ⟨w.heap.size + 1, 0, none⟩ (.int .i64 (s.1 + 1))) → True := fun _ => trivial
          go_upto_region 34 with fail
          obtain ⟨w6, hw6⟩ : ∃ y, y = w5.setCell ⟨w.heap.size + 1, 0, none⟩ (.int .i64 (s.1 + 1)) := ⟨_, rfl⟩
          have hms : Mods (fun b => b = w.heap.size + 1) w5 w6 := by rw [hw6]; exact Mods.set _ _ _ _
          have hrx6 : w6.cell? ⟨w.heap.size, 2, none⟩ = some (.int .i64 x.b) := hms.cell x2 (by omega)
          rw [← hw6] at h6 ht6 HRS5 ⊢
          clear hw6 hm6 t0 t1 t2 x2
          have t0 : w6.cell? ⟨w.heap.size + 1, 0, none⟩ = some (.int .i64 (s.1 + 1)) := HRS5.out.cell 0
          have t1 : w6.cell? ⟨w.heap.size + 1, 1, none⟩ = some (.slice (adrOf aT) nT cT) := HRS5.out.cell 1
          have H6 := Lib.hid h6
          have HT6 := Lib.hid ht6
          have HMS := Lib.hid hms
          clear h6 ht6 hms hno
          go_wp2_with fail
          refine (to_p w0 ob bm base top f l g aC nC cC w6 vL' K' left' H6.out hlen (by have := toS_len HR.out; have := H.out.lft; omega) x.b (s.1 + 1, s.2) aT nT cT HT6.out).mono ?_
          rintro e w7 hR
          have HOR : Hid (goTo nC (outs K f g at_ x s) K left = toS nC (x.b, (s.1 + 1, s.2)) K' left') := Lib.hid (by rw [HOU.out]; exact toAll_two _ _ _ _ _ HR.out)
          have hmall : Mods (WkP ob bm vL) w w6 := ((Mods.fresh HB1.out _).trans HM5.out).after HMS.out (fun g hg => .inr (by omega))
          have HRR := Lib.hid (hR.after hmall (fun g hg => (HV5.out g hg).imp id (fun h => Nat.le_trans HB1.out.size h)))
          clear hR hmall
          rcases HRR.out with ⟨K2, left2, vL2, top2, h1, rfl, h3⟩ | ⟨h1, rfl, h3⟩
          · go_wp2_with fail
            first
              | go_end0
              | refine bodyPost_ret (results_none rfl _ _ _) rfl ?_
            rw [HOR.out]
            exact HRR.out
          · go_wp2_with fail
            refine ⟨rfl, ?_⟩
            rw [HOR.out]
            exact HRR.out
        · go_wp2_with fail
          refine ⟨rfl, .inr ⟨?_, rfl, (Mods.fresh HB1.out _).trans hm5⟩⟩
          rw [HOU.out]
          exact toAll_no _ _ _ _ _ hno
      · have HOU : Hid (outs K f g at_ x s = none) := Lib.hid ((outs23 HO.out).trans (if_neg hf))
        have hb0 : ((f : Int) == 0) = false := by rw [beq_eq_false_iff_ne]; omega
        clear hf
        go_wp2_with fail
        refine (ask_no w1).mono ?_
        rintro e w2 ⟨rfl, rfl⟩
        go_wp2_with fail
        exact ⟨rfl, .inr ⟨by rw [HOU.out]; rfl, rfl, Mods.fresh HB1.out _⟩⟩
  · as_aux_lemma =>
      by_cases hf : f = 0
      · have hb0 : ((f : Int) == 0) = true := by rw [hf]; rfl
        have HOU : Hid (outs K f g at_ x s = onV K f at_ s 1 1) := Lib.hid ((outs24 HO.out).trans (if_pos hf))
        clear hf
        go_wp2_with fail
        refine (ask_yes w1).mono ?_
        rintro e w2 ⟨rfl, rfl⟩
        go_wp2_with fail
        refine (on_p w0 ob bm base top f l g aC nC cC w2 vL K left H1.out hlen (Nat.le_trans H.out.lft (by decide)) at_ (by omega) s aT nT cT HT1.out H.out.ok hh0 hh1 1 1 (by decide) (by decide) (by decide) (by decide)).mono ?_
        rintro e w5 (⟨K', left', vL', HR, rfl, h5, hm5, hv5⟩ | ⟨hno, rfl, hm5⟩)
        · have H5 := Lib.hid h5
          have HM5 := Lib.hid hm5
          have HV5 := Lib.hid hv5
          clear h5 hm5 hv5
          go_wp2_with fail
          first
            | go_end0
            | refine bodyPost_ret (results_none rfl _ _ _) rfl ?_
          exact .inl ⟨K', left', vL', top, Lib.hid (by rw [HOU.out]; exact HR.out), rfl, H5.out, (Mods.fresh HB1.out _).trans HM5.out, fun g hg => (HV5.out g hg).imp id (fun h => Nat.le_trans HB1.out.size h)⟩
        · go_wp2_with fail
          exact ⟨rfl, .inr ⟨by rw [HOU.out]; exact hno, rfl, (Mods.fresh HB1.out _).trans hm5⟩⟩
      · have HOU : Hid (outs K f g at_ x s = none) := Lib.hid ((outs24 HO.out).trans (if_neg hf))
        have hb0 : ((f : Int) == 0) = false := by rw [beq_eq_false_iff_ne]; omega
        clear hf
        go_wp2_with fail
        refine (ask_no w1).mono ?_
        rintro e w2 ⟨rfl, rfl⟩
        go_wp2_with fail
        exact ⟨rfl, .inr ⟨by rw [HOU.out]; rfl, rfl, Mods.fresh HB1.out _⟩⟩
  · as_aux_lemma =>
      by_cases hf : f = 0
      · have hb0 : ((f : Int) == 0) = true := by rw [hf]; rfl
        by_cases hT0 : s.2 = []
        · have HOU : Hid (outs K f g at_ x s = some []) := Lib.hid ((outs25 HO.out).trans (if_pos ⟨hf, hT0⟩))
          have hn0 : nT = 0 := by rw [HT1.out.len, hT0]; rfl
          clear hT0 hf
          subst hn0
          go_wp2_with fail
          refine (ask_yes w1).mono ?_
          rintro e w2 ⟨rfl, rfl⟩
          go_wp2_with fail
          first
            | go_end0
            | refine bodyPost_ret (results_none rfl _ _ _) rfl ?_
          exact .inl ⟨K, left, vL, top, Lib.hid (by rw [HOU.out]; rfl), rfl, H1.out, Mods.fresh HB1.out _, fun g hg => .inl hg⟩
        · have HOU : Hid (outs K f g at_ x s = none) := Lib.hid ((outs25 HO.out).trans (if_neg (fun h => hT0 h.2)))
          have hn0 : ¬ nT = 0 := fun e => hT0 (List.eq_nil_of_length_eq_zero (HT1.out.len.symm.trans e))
          have hb2 : ((nT : Int) == 0) = false := by rw [beq_eq_false_iff_ne]; omega
          clear hT0 hf
          go_wp2_with fail
          refine (ask_no w1).mono ?_
          rintro e w2 ⟨rfl, rfl⟩
          go_wp2_with fail
          exact ⟨rfl, .inr ⟨by rw [HOU.out]; rfl, rfl, Mods.fresh HB1.out _⟩⟩
      · have HOU : Hid (outs K f g at_ x s = none) := Lib.hid ((outs25 HO.out).trans (if_neg (fun h => hf h.1)))
        have hb0 : ((f : Int) == 0) = false := by rw [beq_eq_false_iff_ne]; omega
        clear hf
        go_wp2_with fail
        refine (ask_no w1).mono ?_
        rintro e w2 ⟨rfl, rfl⟩
        go_wp2_with fail
        exact ⟨rfl, .inr ⟨by rw [HOU.out]; rfl, rfl, Mods.fresh HB1.out _⟩⟩
end Go.Proofs.YtoddklfblcfoiaaDoor
