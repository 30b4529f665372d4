/-
  Groups, walked. Condition: operands that may be.
-/
import Derived.Test.YtoddklfblcfoiaaDoorCoS
import Derived.Test.YtoddklfblcfoiaaDoorGen
namespace Go.Proofs.YtoddklfblcfoiaaDoor
open Go Go.RowKit
set_option linter.unusedVariables false
set_option linter.unusedSimpArgs false
set_option maxRecDepth 100000

theorem run_storeAt_cells {P : Program} (w : World) (b o : Nat) (ty : TypeId) (cs : List Value) (h1 : ∀ u ∈ cs, u.oneCell' = true) (hi : (P.info? ty).map (·.size) = some cs.length)
    (hv : ∀ j, j < cs.length → (w.cell? ⟨b, o + j, none⟩).isSome = true) (hf : ∀ j, j < cs.length → w.frozen? ⟨b, o + j, none⟩ = false) :
    (Instr.storeAt ty (.pointer (some ⟨b, o, none⟩)) (.agg cs.toArray)).run P w = .ok () (w.setCells b o cs) := by
  have := run_storeCells_cells (P := P) b o cs 0 w (fun j hj => by simpa using hv j hj) (fun j hj => by simpa using hf j hj) h1
  cases hq : P.info? ty with
  | none => simp [hq] at hi
  | some i =>
    have hs : cs.length = i.size := by simp [hq] at hi; omega
    simp only [Nat.add_zero] at this
    simp only [Instr.storeAt, Instr.sureAddr, Sem.run_bind, Sem.run_pure, Result.andThen_ok]
    simp [storeVar, sizeOf, typeInfo, hq, Value.cells, hs, this]
/-- a struct into memory of one's own -/
theorem wpL_storeOwnS {P : Program} {w : World} {ops : Array Oper} {rest : List Oper} {o : Oper} {a : Act} {Q : Exit → Act → World → Prop}
    (hgd : o.guard = none) (ty : TypeId) (x y : Operand) (ho : o.op = .store ty x y) {b off p n cap base size : Nat} {xs cs : List Value} (hx : a.eval x = .pointer (some ⟨b, p, none⟩)) (hy : a.eval y = .agg cs.toArray)
    (h1 : ∀ u ∈ cs, u.oneCell' = true) (hi : (P.info? ty).map (·.size) = some cs.length) (hr : Own w base size (.slice (some ⟨b, off, none⟩) n cap) n xs) (j : Nat) (hp : p = off + j) (hlt : j + cs.length ≤ xs.length)
    (h : ∀ w', w.grownBy w' (some b) → Own w' base size (.slice (some ⟨b, off, none⟩) n cap) n (splice xs j cs) → wpList P ops Q rest (a.put o.dst undef) w') : wpList P ops Q (o :: rest) a w := by
  subst hp
  refine wpList_plain hgd fun _ hK => ?_
  have hB : OwnB w base size b off n cap xs := by
    rcases hr.2 with ⟨hc, _⟩ | ⟨g', off', cap', he, hb⟩
    · cases hc
    · cases he; exact hb
  have := run_storeAt_cells (P := P) w b (off + j) ty cs h1 hi (fun i hi => by rw [Nat.add_assoc, hr.get (j + i) (by omega), List.getElem?_eq_getElem (by omega)]; rfl) (fun i hi => by rw [Nat.add_assoc]; exact hr.free (j + i) (by omega))
  unfold Oper.wp execOp
  simp only [ho, hx, hy, Sem.run_bind, this, Result.andThen_ok, Sem.run_pure]
  obtain ⟨g1, g2⟩ := OwnB.setCells b off base size n cap cs j w xs hB hlt
  exact hK _ _ (h _ g2 ⟨by rw [length_splice _ _ _ hlt]; exact hr.1, .inr ⟨_, _, _, rfl, g1⟩⟩)
theorem ins_set : ∀ (l : List Ins) (k : Nat) (x : Ins), k < l.length → splice (inCells l) (k * 5) (insC x) = inCells (l.set k x)
  | y :: l, 0, x, _ => by simp [splice, inCells, insC]
  | y :: l, k + 1, x, h => by
    have ih := ins_set l k x (by simpa using h)
    rw [List.set_cons_succ]
    show splice ([_, _, _, _, _] ++ inCells l) ((k + 1) * 5) _ = [_, _, _, _, _] ++ inCells (l.set k x)
    rw [← ih]
    unfold splice
    have hl : (insC x).length = 5 := rfl
    rw [show (k + 1) * 5 = k * 5 + 5 by omega, hl, show k * 5 + 5 + 5 = (k * 5 + 5) + 5 from rfl]
    generalize k * 5 = q
    generalize inCells l = t
    rfl
/-- the groups that are known -/
def GrpM (gs : List Ins) (b : By) : Prop := (∀ j, j < gs.length → gs[j]? = some (insOr (b j))) ∧ ∀ j y, b j = some y → y.op.toNat = 6
theorem GrpM.none (n : Nat) : GrpM (List.replicate n ins0) (fun _ => .none) := ⟨fun j hj => by rw [List.length_replicate] at hj; rw [List.getElem?_replicate, if_pos hj]; rfl, fun j y h => by cases h⟩
def GrpR (bg og nB kB base : Nat) (b : By) (x : Ins) (w : World) (e : Ending) (w' : World) : Prop :=
  (∃ b' gs', Hid (grpS x b = some b' ∧ GrpM gs' b' ∧ gs'.length = nB) ∧ e = .returned (.bool true) ∧ Own w' base 5 (.slice (some ⟨bg, og, none⟩) nB kB) nB (inCells gs') ∧ Mods (fun g => g = bg) w w') ∨ (grpS x b = none ∧ e = .returned (.bool false) ∧ Mods (fun g => g = bg) w w')
def GrpW (w0 : World) (bg og nB kB base : Nat) (b : By) (x : Ins) (A f : Nat) (wr : World) : Prop :=
  ∃ gs', (∀ j, A ≤ j → j < f → b j = none) ∧ gs'.length = nB ∧ (∀ j, j < nB → gs'[j]? = some (if A ≤ j ∧ j < f then x else insOr (b j))) ∧ Own wr base 5 (.slice (some ⟨bg, og, none⟩) nB kB) nB (inCells gs') ∧ Mods (fun g => g = bg) w0 wr
set_option maxHeartbeats 2000000 in
theorem group_p (k : Nat) (vF vR : Value) (bg og nB kB base : Nat) (gs : List Ins) (b : By) (x : Ins) (w : World) (hk : Row w k 79 [vF, vR, .slice (some ⟨bg, og, none⟩) nB kB]) (ho : Own w base 5 (.slice (some ⟨bg, og, none⟩) nB kB) nB (inCells gs)) (hne : bg ≠ k) (hG : GrpM gs b) (hx : x.op.toNat = 6 → 1 ≤ x.a ∧ 1 ≤ x.b ∧ x.a + x.b ≤ nB) (hn : nB ≤ 65536) :
    Calls Tryd.prog 41 #[.pointer (some ⟨k, 0, none⟩), .agg #[.int .u8 (x.op.toNat : Int), .int .i64 x.a, .int .i64 x.b, .int .i64 x.c, .string (str x.t)]] w fun e w' => GrpR bg og nB kB base b x w e w' := by
  have hlen : gs.length = nB := by have := ho.1; rw [flat_len insC 5 insC_len] at this; omega
  obtain ⟨w1, hw1⟩ : ∃ y, y = w.alloc (.cells #[.int .u8 (x.op.toNat : Int), .int .i64 x.a, .int .i64 x.b, .int .i64 x.c, .string (str x.t)] 46) := ⟨_, rfl⟩
  have hr1 : Row w1 w.heap.size 46 (insC x) := by rw [hw1]; exact Row.new w _ _
  have hb1 : Below w.heap.size w w1 := by rw [hw1]; exact (Below.refl _ _).alloc (Nat.le_refl _) _
  have HR1 := Lib.hid hr1
  have HB1 := Lib.hid hb1
  have HO1 := Lib.hid (ho.below hb1)
  have HK1 := Lib.hid (hk.after hb1)
  have HG := Lib.hid hG
  have x0 : w1.cell? ⟨w.heap.size, 0, none⟩ = some (.int .u8 (x.op.toNat : Int)) := hr1.cell 0
  have x1 : w1.cell? ⟨w.heap.size, 1, none⟩ = some (.int .i64 x.a) := hr1.cell 1
  have hbg : bg < w.heap.size := by have := ho.lives bg rfl; exact this
  clear hr1 hb1 ho hk hG
  go_enter Tryd.func41, Tryd.ntmps41
  go_upto_region 1 with fail
  rw [← hw1]
  clear hw1
  by_cases h6 : x.op.toNat = 6
  · have hb : ((x.op.toNat : Int) == 6) = true := by rw [h6]; rfl
    obtain ⟨g1, g2, g3⟩ := hx h6
    obtain ⟨A, hA⟩ : ∃ A : Nat, x.a = A := ⟨x.a.toNat, by omega⟩
    obtain ⟨N, hN⟩ : ∃ N : Nat, x.b = N := ⟨x.b.toNat, by omega⟩
    have HA := Lib.hid hA
    have HN := Lib.hid hN
    have H6 := Lib.hid h6
    rw [hA] at x1
    rw [hA, hN] at g3
    rw [hN] at g2
    rw [hA] at g1
    clear hx h6 hA hN
    go_wp2_with fail
    have hb2 : ((x.op.toNat : Int) != 6) = false := by rw [bne, hb]; rfl
    rw [hb2]
    clear hb hb2
    go_loopw [5] (fun v5 wr => ∃ f : Nat, A ≤ f ∧ f ≤ A + N ∧ v5 = .int .i64 (f : Nat) ∧ Hid (GrpW w1 bg og nB kB base b x A f wr)) (fun v5 _ => A + N - (intOf v5).toNat)
    case atStart =>
      refine ⟨A, Nat.le_refl _, by omega, rfl, Lib.hid ⟨gs, fun j h1 h2 => by omega, hlen, fun j hj => ?_, HO1.out, Mods.refl _ _⟩⟩
      rw [if_neg (by omega)]
      exact HG.out.1 j (by omega)
    case round =>
      clear HO1 x0 x1
      obtain ⟨f, hf1, hf2, rfl, HW⟩ := hrel
      obtain ⟨gs', e1, e2, e3, e4, e5⟩ := HW.out
      have hrx := HR1.out.mods e5 (by omega)
      have hrk := HK1.out.mods e5 (fun e => hne e.symm)
      have x1 : wr.cell? ⟨w.heap.size, 1, none⟩ = some (.int .i64 (A : Nat)) := by rw [← HA.out]; exact hrx.cell 1
      have x2 : wr.cell? ⟨w.heap.size, 2, none⟩ = some (.int .i64 (N : Nat)) := by rw [← HN.out]; exact hrx.cell 2
      have k2 : wr.cell? ⟨k, 2, none⟩ = some (.slice (some ⟨bg, og, none⟩) nB kB) := hrk.cell 2
      have HRX := Lib.hid hrx
      have HE1 := Lib.hid e1
      have HE2 := Lib.hid e2
      have HE3 := Lib.hid e3
      have HE4 := Lib.hid e4
      have HE5 := Lib.hid e5
      by_cases hfe : f = A + N
      · subst hfe
        clear e1 e2 e3 e4 e5 HW hrx hrk k2
        go_wp2_with fail
        go_ret
        refine .inl ⟨grpAdd b x, gs', Lib.hid ⟨?_, ⟨fun j hj => ?_, fun j y hy => ?_⟩, HE2.out⟩, rfl, HE4.out, (Mods.fresh HB1.out _).trans HE5.out⟩
        · unfold grpS
          rw [if_pos H6.out, if_pos (show grpFree b x from fun j h1 h2 => HE1.out j (by have := HA.out; omega) (by have := HA.out; have := HN.out; omega))]
        · rw [HE3.out j (by have := HE2.out; omega)]
          unfold grpAdd
          have := HA.out
          have := HN.out
          by_cases hj : A ≤ j ∧ j < A + N
          · rw [if_pos hj, if_pos (by omega)]; rfl
          · rw [if_neg hj, if_neg (by omega)]
        · unfold grpAdd at hy
          split at hy
          · cases hy; exact H6.out
          · exact HG.out.2 j y hy
      · have hflt : (f : Int) < (A : Int) + N := by omega
        have hfB : f < nB := by omega
        have hcell : wr.cell? ⟨bg, og + f * 5, none⟩ = some (.int .u8 ((insOr (b f)).op.toNat : Int)) := by
          have h1 := e4.get (f * 5) (by rw [flat_len insC 5 insC_len, e2]; omega)
          have h2 := flat_get insC 5 insC_len gs' f 0 _ (e3 f hfB) (by decide)
          rw [if_neg (by omega)] at h2
          rw [h1]
          exact h2
        clear e1 e2 e3 e4 e5 HW hrx hrk
        cases hbf : b f with
        | some y =>
          have h6y := HG.out.2 f y hbf
          have HBF := Lib.hid hbf
          have hb0 : (((insOr (b f)).op.toNat : Int) == 0) = false := by rw [hbf]; show ((y.op.toNat : Int) == 0) = false; rw [h6y]; rfl
          rw [hbf] at hb0 hcell
          clear hbf h6y
          go_wp2_with fail
          go_ret
          refine .inr ⟨?_, rfl, (Mods.fresh HB1.out _).trans HE5.out⟩
          unfold grpS
          rw [if_pos H6.out, if_neg (fun hfree => by
            have := hfree f (by have := HA.out; omega) (by have := HA.out; have := HN.out; omega)
            rw [HBF.out] at this; cases this)]
        | none =>
          have HBF := Lib.hid hbf
          rw [hbf] at hcell
          have hb0 : (((insOr (none : Option Ins)).op.toNat : Int) == 0) = true := rfl
          clear hbf
          go_upto_region 8 with fail
          obtain ⟨w5, hw5⟩ : ∃ y, y = wr.drew := ⟨_, rfl⟩
          have hd : Below wr.heap.size wr wr.drew := (Below.refl _ _).drew
          have q0 := later_cell (show wr.cell? ⟨w.heap.size, 0, none⟩ = some (.int .u8 (x.op.toNat : Int)) from HRX.out.cell 0)
          have q1 := later_cell (show wr.cell? ⟨w.heap.size, 1, none⟩ = some (.int .i64 x.a) from HRX.out.cell 1)
          have q2 := later_cell (show wr.cell? ⟨w.heap.size, 2, none⟩ = some (.int .i64 x.b) from HRX.out.cell 2)
          have q3 := later_cell (show wr.cell? ⟨w.heap.size, 3, none⟩ = some (.int .i64 x.c) from HRX.out.cell 3)
          have q4 := later_cell (show wr.cell? ⟨w.heap.size, 4, none⟩ = some (.string (str x.t)) from HRX.out.cell 4)
          have q5 := later_cell k2
          have HOd := Lib.hid (HE4.out.drew)
          refine wp_region_idx Rb Rb_refl Rb_trans [(0,0),(0,1),(0,2),(0,3),(0,4),(0,5),(0,6),(2,7)] (by kernel_rfl) (by kernel_rfl) (by kernel_rfl) ?_
          simp only [pickO, List.getD_cons_succ, List.getD_cons_zero]
          refine wpCan_seg 7 (by kernel_rfl) ?_
          simp only [List.take_succ_cons, List.take_zero, List.drop_succ_cons, List.drop_zero, List.map_cons, List.map_nil]
          iterate 7 (go_big_quiet_step (fail))
          refine wpQuiet_nil ?_
          clear q0 q1 q2 q3 q4 q5 x1 x2 k2 hcell hd hw5 w5
          have hlt5 : f * 5 + (insC x).length ≤ (inCells gs').length := by
            rw [flat_len insC 5 insC_len, HE2.out]
            show f * 5 + 5 ≤ nB * 5
            omega
          have HL5 := Lib.hid hlt5
          clear hlt5
          refine wpCan_list (k := 1) (fun KK hK => ?_) (fun h => by cases h)
          refine wpL_storeOwnS rfl _ _ _ rfl (cs := insC x) rfl rfl (by simp [insC, Value.oneCell']) (by kernel_rfl) HOd.out (f * 5) rfl HL5.out ?_
          intro w8 hg8 ho8
          rw [ins_set gs' f x (by rw [HE2.out]; exact hfB)] at ho8
          have HW8 : Hid (GrpW w1 bg og nB kB base b x A (f + 1) w8) := Lib.hid (by
            refine ⟨gs'.set f x, fun j h1 h2 => ?_, by rw [List.length_set]; exact HE2.out, fun j hj => ?_, ho8, HE5.out.trans ((Mods.fresh (Below.refl wr.heap.size wr).drew _).trans ((Mods.grown hg8).mono fun g e => (Option.some.inj e).symm))⟩
            · by_cases hjf : j = f
              · rw [hjf]; exact HBF.out
              · exact HE1.out j h1 (by omega)
            · rw [List.getElem?_set]
              by_cases hjf : f = j
              · subst hjf
                rw [if_pos rfl, if_pos (by rw [HE2.out]; exact hfB), if_pos (by omega)]
              · rw [if_neg hjf, HE3.out j hj]
                by_cases hc : A ≤ j ∧ j < f
                · rw [if_pos hc, if_pos (by omega)]
                · rw [if_neg hc, if_neg (by omega)])
          clear hg8 ho8
          refine hK _ _ (fun h => by cases h) ?_
          clear hK KK
          unfold wpCan
          go_wp2_with fail
          exact ⟨⟨f + 1, by omega, by omega, by go_num, HW8⟩, by simp [intOf]; omega⟩
  · have hb : ((x.op.toNat : Int) == 6) = false := by rw [beq_eq_false_iff_ne]; omega
    have H6 := Lib.hid h6
    clear h6 hx
    go_wp2_with fail
    go_ret
    refine .inl ⟨b, gs, Lib.hid ⟨by unfold grpS; rw [if_neg H6.out], HG.out, hlen⟩, rfl, HO1.out, Mods.fresh HB1.out _⟩
end Go.Proofs.YtoddklfblcfoiaaDoor
