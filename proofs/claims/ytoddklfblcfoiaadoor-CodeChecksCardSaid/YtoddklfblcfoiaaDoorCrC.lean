/-
  The document's answer: which functions groups make. Condition: code within a machine's reach; operands that may be.
-/
import Derived.Test.YtoddklfblcfoiaaDoorCpC
namespace Go.Proofs.YtoddklfblcfoiaaDoor
open Go Go.RowKit
set_option linter.unusedVariables false
set_option linter.unusedSimpArgs false
set_option maxRecDepth 100000

def gC (x : Ins) : List Value := [.int .i64 x.a, .int .i64 x.b, .int .i64 x.c]
def gCells (l : List Ins) : List Value := l.flatMap gC
theorem gC_len (x : Ins) : (gC x).length = 3 := rfl
theorem g_set : ∀ (l : List Ins) (k : Nat) (x : Ins), k < l.length → splice (gCells l) (k * 3) (gC x) = gCells (l.set k x)
  | y :: l, 0, x, _ => by simp [splice, gCells, gC]
  | y :: l, k + 1, x, h => by
    have ih := g_set l k x (by simpa using h)
    rw [List.set_cons_succ]
    show splice ([_, _, _] ++ gCells l) ((k + 1) * 3) _ = [_, _, _] ++ gCells (l.set k x)
    rw [← ih]
    unfold splice
    have hl : (gC x).length = 3 := rfl
    rw [show (k + 1) * 3 = k * 3 + 3 by omega, hl, show k * 3 + 3 + 3 = (k * 3 + 3) + 3 from rfl]
    generalize k * 3 = q
    generalize gCells l = t
    rfl
theorem made_g (n : Nat) : (madeCells #[.int .i64 0, .int .i64 0, .int .i64 0] (n * 3)).toList = gCells (List.replicate n ins0) := by
  apply List.ext_getElem?
  intro j
  by_cases hj : j < n * 3
  · have h1 : j / 3 < n := by omega
    have h2 := flat_get gC 3 gC_len (List.replicate n ins0) (j / 3) (j % 3) ins0 (by rw [List.getElem?_replicate, if_pos h1]) (Nat.mod_lt _ (by decide))
    rw [show j / 3 * 3 + j % 3 = j by omega] at h2
    unfold gCells
    rw [h2]
    have h3 : (madeCells #[.int .i64 0, .int .i64 0, .int .i64 0] (n * 3)).toList[j]? = some ((#[Value.int .i64 0, .int .i64 0, .int .i64 0] : Array Value)[j % 3]!) := by
      simp [madeCells, hj]
    rw [h3]
    have h4 : j % 3 = 0 ∨ j % 3 = 1 ∨ j % 3 = 2 := by omega
    rcases h4 with e | e | e <;> rw [e] <;> rfl
  · have h1 : (gCells (List.replicate n ins0)).length = n * 3 := by unfold gCells; rw [flat_len gC 3 gC_len, List.length_replicate]
    have h2 : (gCells (List.replicate n ins0))[j]? = none := List.getElem?_eq_none (by rw [h1]; omega)
    have h3 : (madeCells #[.int .i64 0, .int .i64 0, .int .i64 0] (n * 3)).toList[j]? = none := List.getElem?_eq_none (by simp [size_madeCells]; omega)
    rw [h2, h3]
theorem wpL_makeG {P : Program} {w : World} {ops : Array Oper} {rest : List Oper} {o : Oper} {a : Act} {Q : Exit → Act → World → Prop} {t e : TypeId} {bytes : Nat} (hT : ET P t e (.agg #[.int .i64 0, .int .i64 0, .int .i64 0]) 3 bytes)
    (hgd : o.guard = none) (l c : Operand) (ho : o.op = .makeSlice t l c) (n : Nat) (base : Nat) {kl kc : IntKind} {L C : Int} (hl : a.eval l = .int kl L) (hc : a.eval c = .int kc C) (hL : L = (n : Int)) (hC : C = (n : Int))
    (b2 : bytes * n ≤ 281474976710656) (b3 : n ≤ maxLen) (b4 : base ≤ w.heap.size)
    (h : ∀ g off w', Own w' base 3 (.slice (some ⟨g, off, none⟩) n n) n (gCells (List.replicate n ins0)) → Below w.heap.size w w' → w.heap.size ≤ g → wpList P ops Q rest (a.put o.dst (.slice (some ⟨g, off, none⟩) n n)) w') : wpList P ops Q (o :: rest) a w := by
  obtain ⟨i, hi, hz0, hz1, hz2⟩ := info_parts hT.info
  refine wpList_make_full w hgd l c t ho base e i _ 3 hT.und hi hz0 hz1 kl kc L C n hl hc hL hC (by rw [hz2]; exact b2) b3 b4 ?_
  intro w' h1 h2
  have e1 : (Value.agg #[.int .i64 0, .int .i64 0, .int .i64 0]).cells = #[.int .i64 0, .int .i64 0, .int .i64 0] := by rfl
  rw [e1, made_g] at h1
  exact h _ _ w' (Own.ofRow h1) (below_of_grown0 h2) (Nat.le_refl _)
theorem etGrp : ET Tryd.prog 85 90 (.agg #[.int .i64 0, .int .i64 0, .int .i64 0]) 3 24 := ⟨Tryd.underlying85, by kernel_rfl, rfl, by decide⟩
/-- the groups so far, in memory of one's own -/
structure GvS (w0 : World) (aF : Option Addr) (nF kF : Nat) (aR : Option Addr) (nR kR : Nat) (bg og : Nat) (w : World) (gs : List Ins) : Prop where
  own : Own w (w0.heap.size + 1) 3 (.slice (some ⟨bg, og, none⟩) nF nF) nF (gCells gs)
  box : Row w w0.heap.size 25 [.slice aF nF kF, .slice aR nR kR]
  bel : Below w0.heap.size w0 w
  ne : w0.heap.size < bg
theorem GvS.fresh {w0 : World} {aF : Option Addr} {nF kF : Nat} {aR : Option Addr} {nR kR : Nat} {bg og : Nat} {w w' : World} {gs : List Ins} (h : GvS w0 aF nF kF aR nR kR bg og w gs) (hb : Below w.heap.size w w') : GvS w0 aF nF kF aR nR kR bg og w' gs :=
  ⟨h.own.below hb, h.box.after hb, h.bel.trans (hb.mono h.bel.size), h.ne⟩
theorem GvS.grp {w0 : World} {aF : Option Addr} {nF kF : Nat} {aR : Option Addr} {nR kR : Nat} {bg og : Nat} {w w' : World} {gs gs' : List Ins} (h : GvS w0 aF nF kF aR nR kR bg og w gs) (hm : Mods (fun g => g = bg) w w') (ho : Own w' (w0.heap.size + 1) 3 (.slice (some ⟨bg, og, none⟩) nF nF) nF (gCells gs')) : GvS w0 aF nF kF aR nR kR bg og w' gs' :=
  ⟨ho, h.box.mods hm (fun e => by have := h.ne; omega), below_mods h.bel hm (fun g hg => by have := h.ne; omega) h.bel.size, h.ne⟩
def GvW (w0 : World) (aF : Option Addr) (nF kF : Nat) (aR : Option Addr) (nR kR : Nat) (bg og : Nat) (c : Cod) (i : Nat) (l : List Ins) (j : Nat) (wr : World) : Prop :=
  ∃ gs b, GvS w0 aF nF kF aR nR kR bg og wr gs ∧ gs.length = nF ∧ GrpM gs b ∧ grpAll (preI c i l j) (fun _ => none) = some b
def GvA (w0 : World) (aF : Option Addr) (nF kF : Nat) (aR : Option Addr) (nR kR : Nat) (bg og : Nat) (b : By) (x : Ins) (A f : Nat) (w5 wr : World) : Prop :=
  ∃ gs', (∀ j, A ≤ j → j < f → b j = none) ∧ gs'.length = nF ∧ (∀ j, j < nF → gs'[j]? = some (if A ≤ j ∧ j < f then x else insOr (b j))) ∧ GvS w0 aF nF kF aR nR kR bg og wr gs' ∧ Mods (fun g => g = bg) w5 wr
/-- what groups answers -/
def GsR (c : Cod) (nF : Nat) (w : World) (e : Ending) (w' : World) : Prop :=
  (∃ gs b bg og, Hid (grpAll c.f.flatten (fun _ => none) = some b ∧ (∀ f, 0 < f → f < nF → b f ≠ none) ∧ GrpM gs b ∧ gs.length = nF) ∧ e = .returned (.tuple #[.slice (some ⟨bg, og, none⟩) nF nF, .bool true]) ∧ Own w' w.heap.size 3 (.slice (some ⟨bg, og, none⟩) nF nF) nF (gCells gs) ∧ Below w.heap.size w w') ∨
  ((∀ b, grpAll c.f.flatten (fun _ => none) = some b → ¬ ∀ f, 0 < f → f < nF → b f ≠ none) ∧ e = .returned (.tuple #[.slice none 0 0, .bool false]) ∧ Below w.heap.size w w')
set_option maxHeartbeats 4000000 in
theorem groups_p (aF : Option Addr) (nF kF : Nat) (aR : Option Addr) (nR kR : Nat) (c : Cod) (w : World) (hc : CodM w (.slice aF nF kF) (.slice aR nR kR) c) (hF : nF ≤ 65536) (hlen : ∀ l ∈ c.f, l.length ≤ 1000000) (hx6 : Hid (∀ l ∈ c.f, ∀ x ∈ l, x.op.toNat = 6 → 1 ≤ x.a ∧ 1 ≤ x.b ∧ x.a + x.b ≤ nF)) :
    Calls Tryd.prog 45 #[.agg #[.slice aF nF kF, .slice aR nR kR]] w fun e w' => GsR c nF w e w' := by
  have HNF : Hid (c.f.length = nF) := Lib.hid (by obtain ⟨⟨vs, h1, h2⟩, h3⟩ := hc; have := h1.cap; omega)
  have HC := Lib.hid hc
  have HL := Lib.hid hlen
  clear hc hlen
  obtain ⟨w1, hw1⟩ : ∃ y, y = w.alloc (.cells #[.slice aF nF kF, .slice aR nR kR] 25) := ⟨_, rfl⟩
  have r1 : Row w1 w.heap.size 25 [.slice aF nF kF, .slice aR nR kR] := by rw [hw1]; exact Row.new w _ _
  have hb1 : Below w.heap.size w w1 := by rw [hw1]; exact (Below.refl _ _).alloc (Nat.le_refl _) _
  have hs1 : w1.heap.size = w.heap.size + 1 := by rw [hw1]; simp
  have q0 : w1.cell? ⟨w.heap.size, 0, none⟩ = some (.slice aF nF kF) := r1.cell 0
  have HR1 := Lib.hid r1
  have HB1 := Lib.hid hb1
  have HS1 := Lib.hid hs1
  clear r1 hb1 hs1
  go_enter Tryd.func45, Tryd.ntmps45
  go_upto_region 1 with fail
  rw [← hw1]
  clear hw1
  go_upto_region 2 with (at_make; refine wpL_makeG etGrp rfl _ _ rfl nF w1.heap.size rfl rfl rfl rfl (by omega) (by simp [maxLen]; omega) (Nat.le_refl _) ?_; intro bg og w2 ho2 hb2 hg2)
  have HG2 : Hid (GvS w aF nF kF aR nR kR bg og w2 (List.replicate nF ins0)) := Lib.hid (by
    have h1 := HS1.out
    exact ⟨by rw [← h1]; exact ho2, HR1.out.after hb2, HB1.out.trans (hb2.mono (by omega)), by omega⟩)
  clear ho2 hb2 hg2 HR1 HB1 HS1 q0
  go_wp2_with fail
  go_loopw [5] (fun v5 wr => ∃ i : Nat, i ≤ nF ∧ v5 = .int .i64 (i : Nat) ∧ Hid (GvW w aF nF kF aR nR kR bg og c i [] 0 wr)) (fun v5 _ => nF - (RowKit.intOf v5).toNat)
  case atStart => exact ⟨0, Nat.zero_le _, rfl, Lib.hid ⟨List.replicate nF ins0, fun _ => none, HG2.out, List.length_replicate, GrpM.none nF, by rw [preI_start]; rfl⟩⟩
  case round =>
    clear HG2
    obtain ⟨i, hi, rfl, HW⟩ := hrel
    have b0 : wr.cell? ⟨w.heap.size, 0, none⟩ = some (.slice aF nF kF) := by obtain ⟨gs, b, hCk, _⟩ := HW.out; exact hCk.box.cell 0
    by_cases hin : i = nF
    · have hin' : nF = i := hin.symm
      subst hin'
      clear hin hi
      obtain ⟨gs, b, hCk, hgl, hG, hgr⟩ := HW.out
      have HCK := Lib.hid hCk
      have HGL := Lib.hid hgl
      have HG := Lib.hid hG
      have HGR : Hid (grpAll c.f.flatten (fun _ => none) = some b) := Lib.hid (by rw [← HNF.out, preI_all] at hgr; exact hgr)
      clear hCk hgl hG hgr HW
      go_wp2_with fail
      go_loopw [9] (fun v9 wr2 => ∃ q : Nat, q ≤ max 1 nF ∧ 1 ≤ q ∧ v9 = .int .i64 (q : Nat) ∧ Hid (GvS w aF nF kF aR nR kR bg og wr2 gs ∧ ∀ p, p < q → 0 < p → b p ≠ none)) (fun v9 _ => (nF + 1) - (RowKit.intOf v9).toNat)
      case atStart => exact ⟨1, by omega, Nat.le_refl _, rfl, Lib.hid ⟨HCK.out, fun p hp h0 => by omega⟩⟩
      case round =>
        obtain ⟨q, hq, hq1, rfl, HQ⟩ := hrel
        clear HCK b0
        have b0 : wr.cell? ⟨w.heap.size, 0, none⟩ = some (.slice aF nF kF) := HQ.out.1.box.cell 0
        by_cases hqn : nF ≤ q
        · have hqn' : ¬ (q : Int) < nF := by omega
          go_wp2_with fail
          go_ret2
          exact .inl ⟨gs, b, bg, og, Lib.hid ⟨HGR.out, fun f h1 h2 => HQ.out.2 f (by omega) h1, HG.out, HGL.out⟩, rfl, HQ.out.1.own.mono (by omega), HQ.out.1.bel⟩
        · have hqlt : q < nF := by omega
          have hqlt' : (q : Int) < nF := by omega
          have hgq := HG.out.1 q (by rw [HGL.out]; exact hqlt)
          have hcell : wr.cell? ⟨bg, og + q * 3 + 1, none⟩ = some (.int .i64 (insOr (b q)).b) := by
            have h1 := HQ.out.1.own.get (q * 3 + 1) (by unfold gCells; rw [flat_len gC 3 gC_len, HGL.out]; omega)
            have h2 := flat_get gC 3 gC_len gs q 1 _ hgq (by decide)
            rw [Nat.add_assoc, h1]
            exact h2
          cases hbq : b q with
          | none =>
            have hb0 : (insOr (b q)).b = 0 := by rw [hbq]; rfl
            rw [hb0] at hcell
            have HBQ := Lib.hid hbq
            clear hbq hb0 hgq
            go_wp2_with fail
            go_ret2
            exact .inr ⟨fun b' h1 h2 => by rw [HGR.out] at h1; cases h1; exact h2 q (by omega) hqlt HBQ.out, rfl, HQ.out.1.bel⟩
          | some y =>
            have hyb : 1 ≤ (insOr (b q)).b := by
              rw [hbq]
              rcases grp_of HGR.out q y hbq with h | ⟨h1, h2, _⟩
              · cases h
              · obtain ⟨l, hl1, hl2⟩ := List.mem_flatten.1 h1
                exact (hx6.out l hl1 y hl2 h2).2.1
            obtain ⟨z, hz⟩ : ∃ z, z = (insOr (b q)).b := ⟨_, rfl⟩
            rw [← hz] at hyb hcell
            have hb0 : (z == 0) = false := by rw [beq_eq_false_iff_ne]; omega
            have HBQ : Hid (b q ≠ none) := Lib.hid (by rw [hbq]; simp)
            clear hbq hz hyb hgq
            go_wp2_with fail
            refine ⟨⟨q + 1, by omega, by omega, by go_num, Lib.hid ⟨HQ.out.1, fun p hp h0 => ?_⟩⟩, by simp [RowKit.intOf]; omega⟩
            by_cases hpq : p = q
            · rw [hpq]; exact HBQ.out
            · exact HQ.out.2 p (by omega) h0
    · have hilt : i < nF := by omega
      have hilt' : (i : Int) < nF := by omega
      obtain ⟨l, hl⟩ : ∃ l, c.f[i]? = some l := ⟨_, List.getElem?_eq_getElem (by rw [HNF.out]; exact hilt)⟩
      have HLI := Lib.hid hl
      obtain ⟨gF, oF, aL, cL, rfl, hcell0, hsl⟩ := HC.out.fun_at i l hl
      have HSL := Lib.hid hsl
      have HCELL := Lib.hid hcell0
      obtain ⟨nL, hnL⟩ : ∃ y, y = l.length := ⟨_, rfl⟩
      have HNL := Lib.hid hnL
      have hlen9 := HL.out l (List.mem_of_getElem? hl)
      rw [← hnL] at hlen9
      have HW1 : Hid (GvW w (some ⟨gF, oF, none⟩) nF kF aR nR kR bg og c i l 0 wr) := Lib.hid (by
        obtain ⟨gs, b, h1, h2, h3, h5⟩ := HW.out
        exact ⟨gs, b, h1, h2, h3, by simpa [preI] using h5⟩)
      clear hl hsl hnL HW hcell0
      go_wp2_with fail
      clear b0
      go_loopw [6] (fun v6 wr2 => ∃ j : Nat, j ≤ nL ∧ v6 = .int .i64 (j : Nat) ∧ Hid (GvW w (some ⟨gF, oF, none⟩) nF kF aR nR kR bg og c i l j wr2)) (fun v6 _ => nL - (RowKit.intOf v6).toNat)
      case atStart => exact ⟨0, Nat.zero_le _, rfl, HW1⟩
      case round =>
        clear HW1
        obtain ⟨w4, rfl⟩ : ∃ x, x = wr := ⟨_, rfl⟩
        obtain ⟨j, hj, rfl, HJ⟩ := hrel
        obtain ⟨gs, b, hCk, hgl, hG, hgr⟩ := HJ.out
        have b0 : w4.cell? ⟨w.heap.size, 0, none⟩ = some (.slice (some ⟨gF, oF, none⟩) nF kF) := hCk.box.cell 0
        have hcell : w4.cell? ⟨gF, oF + i, none⟩ = some (.slice aL nL cL) := by
          have h1 := (hCk.bel.cell (lt_of_cell HCELL.out)).trans HCELL.out
          rw [HNL.out]; exact h1
        by_cases hjn : j = nL
        · subst hjn
          go_wp2_with fail
          refine ⟨⟨i + 1, by omega, by go_num, Lib.hid ?_⟩, by simp [RowKit.intOf]; omega⟩
          obtain ⟨gs, b, h1, h2, h3, h5⟩ := HJ.out
          rw [HNL.out] at h5
          exact ⟨gs, b, h1, h2, h3, by rw [preI_next HLI.out]; exact h5⟩
        · have hjlt : j < nL := by omega
          have hjlt' : (j : Int) < nL := by omega
          obtain ⟨b5, o5, x, e5, hx, hc5⟩ := (HSL.out.below hCk.bel).elem insC insC_len (by decide) j (by rw [← HNL.out]; exact hjlt)
          subst e5
          have d0 := hc5 0 _ rfl
          have d1 := hc5 1 _ rfl
          have d2 := hc5 2 _ rfl
          have d3 := hc5 3 _ rfl
          have d4 := hc5 4 _ rfl
          simp only [Nat.add_zero] at d0
          have HX := Lib.hid hx
          have HCK := Lib.hid hCk
          have HGL := Lib.hid hgl
          have HG := Lib.hid hG
          have HGR := Lib.hid hgr
          clear hCk hgl hG hgr hx hc5 HJ
          go_upto_region 9 with fail
          obtain ⟨w5, hw5⟩ : ∃ y, y = w4.alloc (.cells #[.int .u8 (x.op.toNat : Int), .int .i64 x.a, .int .i64 x.b, .int .i64 x.c, .string (str x.t)] 46) := ⟨_, rfl⟩
          have hb5 : Below w4.heap.size w4 w5 := by rw [hw5]; exact (Below.refl _ _).alloc (Nat.le_refl _) _
          have r5 : Row w5 w4.heap.size 46 (insC x) := by rw [hw5]; exact Row.new w4 _ _
          rw [← hw5]
          clear hw5 d0 d1 d2 d3 d4 b0 hcell
          have HCK5 := Lib.hid (HCK.out.fresh hb5)
          have z0 : w5.cell? ⟨w4.heap.size, 0, none⟩ = some (.int .u8 (x.op.toNat : Int)) := r5.cell 0
          have z1 : w5.cell? ⟨w4.heap.size, 1, none⟩ = some (.int .i64 x.a) := r5.cell 1
          have HR5 := Lib.hid r5
          have HBG : Hid (bg < w4.heap.size) := Lib.hid (HCK.out.own.lives bg rfl)
          clear hb5 r5 HCK
          by_cases h6 : x.op.toNat = 6
          · have hb : ((x.op.toNat : Int) == 6) = true := by rw [h6]; rfl
            have hb2 : ((x.op.toNat : Int) != 6) = false := by rw [bne, hb]; rfl
            obtain ⟨g1, g2, g3⟩ := hx6.out l (List.mem_of_getElem? HLI.out) x (List.mem_of_getElem? HX.out) h6
            obtain ⟨A, hA⟩ : ∃ A : Nat, x.a = A := ⟨x.a.toNat, by omega⟩
            obtain ⟨N, hN⟩ : ∃ N : Nat, x.b = N := ⟨x.b.toNat, by omega⟩
            have HA := Lib.hid hA
            have HN := Lib.hid hN
            have H6 := Lib.hid h6
            rw [hA] at z1
            rw [hA, hN] at g3
            rw [hN] at g2
            rw [hA] at g1
            clear h6 hA hN
            go_wp2_with fail
            clear z0 z1 hb hb2
            go_loopw [8] (fun v8 wr => ∃ f : Nat, A ≤ f ∧ f ≤ A + N ∧ v8 = .int .i64 (f : Nat) ∧ Hid (GvA w (some ⟨gF, oF, none⟩) nF kF aR nR kR bg og b x A f w5 wr)) (fun v8 _ => A + N - (RowKit.intOf v8).toNat)
            case atStart =>
              refine ⟨A, Nat.le_refl _, by omega, rfl, Lib.hid ⟨gs, fun j h1 h2 => by omega, HGL.out, fun j hj => ?_, HCK5.out, Mods.refl _ _⟩⟩
              rw [if_neg (by omega)]
              exact HG.out.1 j (by have := HGL.out; omega)
            case round =>
              obtain ⟨f, hf1, hf2, rfl, HV⟩ := hrel
              obtain ⟨gs', e1, e2, e3, e4, e5⟩ := HV.out
              have hrx := HR5.out.mods e5 (by have := HBG.out; omega)
              have z1 : wr.cell? ⟨w4.heap.size, 1, none⟩ = some (.int .i64 (A : Nat)) := by rw [← HA.out]; exact hrx.cell 1
              have z2 : wr.cell? ⟨w4.heap.size, 2, none⟩ = some (.int .i64 (N : Nat)) := by rw [← HN.out]; exact hrx.cell 2
              have z3 : wr.cell? ⟨w4.heap.size, 3, none⟩ = some (.int .i64 x.c) := hrx.cell 3
              have HE1 := Lib.hid e1
              have HE2 := Lib.hid e2
              have HE3 := Lib.hid e3
              have HE4 := Lib.hid e4
              have HE5 := Lib.hid e5
              by_cases hfe : f = A + N
              · subst hfe
                clear e1 e2 e3 e4 e5 HV hrx
                go_wp2_with fail
                refine ⟨⟨j + 1, by omega, by go_num, Lib.hid ⟨gs', grpAdd b x, HE4.out, HE2.out, ⟨fun j hj => ?_, fun j y hy => ?_⟩, ?_⟩⟩, by simp [RowKit.intOf]; omega⟩
                · rw [HE3.out j (by have := HE2.out; omega)]
                  unfold grpAdd
                  have := HA.out
                  have := HN.out
                  by_cases hj : A ≤ j ∧ j < A + N
                  · rw [if_pos hj, if_pos (by omega)]; rfl
                  · rw [if_neg hj, if_neg (by omega)]
                · unfold grpAdd at hy
                  split at hy
                  · cases hy; exact H6.out
                  · exact HG.out.2 j y hy
                · rw [preI_more HX.out, grpAll_snoc HGR.out]
                  unfold grpS
                  rw [if_pos H6.out, if_pos (show grpFree b x from fun j h1 h2 => HE1.out j (by have := HA.out; omega) (by have := HA.out; have := HN.out; omega))]
              · have hflt : (f : Int) < (A : Int) + N := by omega
                have hfB : f < nF := by omega
                have hfB' : (f : Int) < nF := by omega
                have hcell : wr.cell? ⟨bg, og + f * 3 + 1, none⟩ = some (.int .i64 (insOr (b f)).b) := by
                  have h1 := e4.own.get (f * 3 + 1) (by unfold gCells; rw [flat_len gC 3 gC_len, e2]; omega)
                  have h2 := flat_get gC 3 gC_len gs' f 1 _ (e3 f hfB) (by decide)
                  rw [if_neg (by omega)] at h2
                  rw [Nat.add_assoc, h1]
                  exact h2
                clear e1 e2 e3 e4 e5 HV hrx
                cases hbf : b f with
                | some y =>
                  have hyb : 1 ≤ (insOr (b f)).b := by
                    rw [hbf]
                    rcases grp_of HGR.out f y hbf with h | ⟨h1, h2, _⟩
                    · cases h
                    · obtain ⟨m, hm⟩ := preI_split HLI.out HX.out
                      have h1 : y ∈ c.f.flatten := by rw [hm]; exact List.mem_append.2 (.inl h1)
                      obtain ⟨l', hl1, hl2⟩ := List.mem_flatten.1 h1
                      exact (hx6.out l' hl1 y hl2 h2).2.1
                  obtain ⟨z, hz⟩ : ∃ z, z = (insOr (b f)).b := ⟨_, rfl⟩
                  rw [← hz] at hyb hcell
                  have hb0 : 0 < z := by omega
                  have HBF : Hid (b f ≠ none) := Lib.hid (by rw [hbf]; simp)
                  clear hbf hz hyb
                  go_wp2_with fail
                  go_ret2
                  refine .inr ⟨fun b' h1 h2 => ?_, rfl, HE4.out.bel⟩
                  obtain ⟨m, hm⟩ := preI_split HLI.out HX.out
                  rw [hm, grpAll_fail _ _ _ _ x HGR.out (by
                    unfold grpS
                    rw [if_pos H6.out, if_neg (fun hfree => HBF.out (hfree f (by have := HA.out; omega) (by have := HA.out; have := HN.out; omega)))])] at h1
                  cases h1
                | none =>
                  have HBF := Lib.hid hbf
                  have hb0 : (insOr (b f)).b = 0 := by rw [hbf]; rfl
                  rw [hb0] at hcell
                  have HL3 : Hid (f * 3 + (gC x).length ≤ (gCells gs').length) := Lib.hid (by
                    unfold gCells
                    rw [flat_len gC 3 gC_len, HE2.out]
                    show f * 3 + 3 ≤ nF * 3
                    omega)
                  have HGX : Hid ([Value.int .i64 (A : Nat), .int .i64 (N : Nat), .int .i64 x.c] = gC x) := Lib.hid (by rw [gC, HA.out, HN.out])
                  clear hbf hb0
                  go_upto_region 12 with (refine wpL_storeOwnS rfl _ _ _ rfl (cs := [Value.int .i64 (A : Nat), .int .i64 (N : Nat), .int .i64 x.c]) rfl rfl (by simp [Value.oneCell']) (by kernel_rfl) HE4.out.own (f * 3) rfl HL3.out ?_; intro w8 hg8 ho8)
                  rw [HGX.out, g_set gs' f x (by rw [HE2.out]; exact hfB)] at ho8
                  have hm8 : Mods (fun g => g = bg) wr w8 := (Mods.grown hg8).mono fun g e => (Option.some.inj e).symm
                  have HW8 : Hid (GvA w (some ⟨gF, oF, none⟩) nF kF aR nR kR bg og b x A (f + 1) w5 w8) := Lib.hid (by
                    refine ⟨gs'.set f x, fun j h1 h2 => ?_, by rw [List.length_set]; exact HE2.out, fun j hj => ?_, HE4.out.grp hm8 ho8, HE5.out.trans hm8⟩
                    · by_cases hjf : j = f
                      · rw [hjf]; exact HBF.out
                      · exact HE1.out j h1 (by omega)
                    · rw [List.getElem?_set]
                      by_cases hjf : f = j
                      · subst hjf
                        rw [if_pos rfl, if_pos (by rw [HE2.out]; exact hfB), if_pos (by omega)]
                      · rw [if_neg hjf, HE3.out j hj]
                        by_cases hc : A ≤ j ∧ j < f
                        · rw [if_pos hc, if_pos (by omega)]
                        · rw [if_neg hc, if_neg (by omega)])
                  clear hg8 ho8 hm8 z1 z2 z3 hcell
                  go_wp2_with fail
                  exact ⟨⟨f + 1, by omega, by omega, by go_num, HW8⟩, by simp [RowKit.intOf]; omega⟩
          · have hb : ((x.op.toNat : Int) == 6) = false := by rw [beq_eq_false_iff_ne]; omega
            have hb2 : ((x.op.toNat : Int) != 6) = true := by rw [bne, hb]; rfl
            have H6 := Lib.hid h6
            clear h6
            go_wp2_with fail
            refine ⟨⟨j + 1, by omega, by go_num, Lib.hid ⟨gs, b, HCK5.out, HGL.out, HG.out, ?_⟩⟩, by simp [RowKit.intOf]; omega⟩
            rw [preI_more HX.out, grpAll_snoc HGR.out]
            unfold grpS
            rw [if_neg H6.out]
end Go.Proofs.YtoddklfblcfoiaaDoor
