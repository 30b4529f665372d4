/-
  The law's machine, walked: of which group a function is. Condition: within a machine's reach.
-/
import Derived.Test.YtoddklfblcfoiaaDoorCqM
namespace Go.Proofs.YtoddklfblcfoiaaDoor
open Go Go.RowKit
set_option linter.unusedVariables false
set_option linter.unusedSimpArgs false
set_option maxRecDepth 100000

/-- none of those ahead makes it -/
structure GfS (w : World) (r0 : Nat) (c : Cod) (f : Nat) (i : Nat) (l : List Ins) (j : Nat) (wr : World) : Prop where
  bel : Below w.heap.size w wr
  row : Row wr r0 46 (insC ins0)
  no : ∀ x ∈ preI c i l j, grpB f x = false
theorem GfS.fresh {w : World} {r0 : Nat} {c : Cod} {f i : Nat} {l : List Ins} {j : Nat} {w1 w2 : World} (h : GfS w r0 c f i l j w1) (hb : Below w1.heap.size w1 w2) : GfS w r0 c f i l j w2 :=
  ⟨h.bel.trans (hb.mono h.bel.size), h.row.after hb, h.no⟩
theorem find_no {α : Type} {p : α → Bool} {l : List α} (h : ∀ x ∈ l, p x = false) : l.find? p = none := List.find?_eq_none.2 (fun x hx => by rw [h x hx]; decide)
theorem find_at {c : Cod} {f i : Nat} {l : List Ins} {j : Nat} {x : Ins} (hno : ∀ y ∈ preI c i l j, grpB f y = false) (hf : c.f[i]? = some l) (hx : l[j]? = some x) (hy : grpB f x = true) : grpOf c.f.flatten f = x := by
  obtain ⟨m, hm⟩ := preI_split hf hx
  unfold grpOf
  rw [hm, List.find?_append, find_no hno]
  simp [List.find?_cons, hy]
theorem find_end {c : Cod} {f : Nat} (hno : ∀ y ∈ preI c c.f.length [] 0, grpB f y = false) : grpOf c.f.flatten f = ins0 := by
  unfold grpOf
  rw [preI_all] at hno
  rw [find_no hno]
  rfl
theorem below_row {w : World} {b : Nat} {e : TypeId} {cs : List Value} (h : Row w b e cs) (n : Nat) : Row (w.drewN n) b e cs := h.after (below_drewN (Below.refl _ _) n)
set_option maxHeartbeats 4000000 in
theorem mgroup_p (W : World) (ob : Nat) (aF : Option Addr) (nF kF : Nat) (aR : Option Addr) (nR kR : Nat) (c : Cod) (f : Nat) (first : Int) (aw : Option Addr) (nw cw step : Nat) (m : Ms) (tv : Value) (w : World) (h : MS W ob (.slice aF nF kF) (.slice aR nR kR) f first aw nw cw step m tv w) (hc : CodM W (.slice aF nF kF) (.slice aR nR kR) c) (hF : nF ≤ 65536) (hlen : ∀ l ∈ c.f, l.length ≤ 1000000) (hop : Hid (OpsAll c)) (hf : f ≤ 65536) (G : Ins) (HG : Hid (G = grpOf c.f.flatten f)) :
    Calls Tryd.prog 48 #[.pointer (some ⟨ob, 0, none⟩)] w fun e w' => e = .returned (.agg #[.int .u8 (G.op.toNat : Int), .int .i64 G.a, .int .i64 G.b, .int .i64 G.c, .string (str G.t)]) ∧ Below w.heap.size w w' := by
  have HNF : Hid (c.f.length = nF) := Lib.hid (by obtain ⟨⟨vs, h1, h2⟩, h3⟩ := hc; have := h1.cap; omega)
  obtain ⟨w1, hw1⟩ : ∃ y, y = w.alloc (.cells #[.int .u8 0, .int .i64 0, .int .i64 0, .int .i64 0, .string ⟨#[]⟩] 46) := ⟨_, rfl⟩
  have hb1 : Below w.heap.size w w1 := by rw [hw1]; exact (Below.refl _ _).alloc (Nat.le_refl _) _
  have HG1 : Hid (GfS w w.heap.size c f 0 [] 0 w1) := Lib.hid ⟨hb1, by rw [hw1]; exact Row.new w _ _, fun x hx => by rw [preI_start] at hx; cases hx⟩
  have HC := Lib.hid (hc.below h.bel)
  have HH := Lib.hid h
  have HL := Lib.hid hlen
  clear hb1 hc h hlen
  obtain ⟨r0, hr0⟩ : ∃ y, y = w.heap.size := ⟨_, rfl⟩
  have HR0 := Lib.hid hr0
  go_enter Tryd.func48, Tryd.ntmps48
  go_upto_region 1 with fail
  rw [← hw1, ← hr0]
  rw [← hr0] at HG1
  clear hw1 hr0
  go_wp2_with fail
  go_loopw [3] (fun v3 wr => ∃ i : Nat, i ≤ nF ∧ v3 = .int .i64 (i : Nat) ∧ Hid (GfS w r0 c f i [] 0 wr)) (fun v3 _ => nF - (RowKit.intOf v3).toNat)
  case atStart => exact ⟨0, Nat.zero_le _, rfl, HG1⟩
  case round =>
    clear HG1
    obtain ⟨i, hi, rfl, HW⟩ := hrel
    have c0 : wr.cell? ⟨ob, 0, none⟩ = some (.slice aF nF kF) := (HH.out.fresh HW.out.bel).row.cell 0
    by_cases hin : i = nF
    · have hin' : nF = i := hin.symm
      subst hin'
      have HE : Hid (G = ins0) := Lib.hid (HG.out.trans (find_end (by rw [HNF.out]; exact HW.out.no)))
      have hrow := HW.out.row
      go_wp2_with (refine wpL_storeRow rfl _ _ _ rfl (cs := insC ins0) rfl rfl hrow (by kernel_rfl) rfl rfl ?_; intro w6 hg6 hr6)
      try simp only [Exit.inBlock, Exit.then]
      refine bodyPost_ret (results_cell_row Tryd.results48 _ _ r0 46 _ (0, 0) _ rfl hr6 Tryd.underlying46 rfl (by kernel_rfl)) rfl ?_
      rw [HE.out]
      exact ⟨rfl, below_mods HW.out.bel (Mods.grown hg6) (fun g e => by have := Option.some.inj e; have := HR0.out; omega) HW.out.bel.size⟩
    · have hilt : i < nF := by omega
      have hilt' : (i : Int) < nF := by omega
      obtain ⟨l, hl⟩ : ∃ l, c.f[i]? = some l := ⟨_, List.getElem?_eq_getElem (by rw [HNF.out]; exact hilt)⟩
      have HLI := Lib.hid hl
      obtain ⟨gF, oF, aL, cL, rfl, hcell0, hsl⟩ := HC.out.fun_at i l hl
      have HSL := Lib.hid hsl
      have HCE := Lib.hid hcell0
      obtain ⟨nL, hnL⟩ : ∃ y, y = l.length := ⟨_, rfl⟩
      have HNL := Lib.hid hnL
      have hL9 : nL ≤ 1000000 := by rw [hnL]; exact HL.out l (List.mem_of_getElem? hl)
      have HW1 : Hid (GfS w r0 c f i l 0 wr) := Lib.hid ⟨HW.out.bel, HW.out.row, by have := HW.out.no; simpa [preI] using this⟩
      clear hl hsl hnL hcell0 HW
      go_wp2_with fail
      clear c0
      go_loopw [4] (fun v4 wr2 => ∃ j : Nat, j ≤ nL ∧ v4 = .int .i64 (j : Nat) ∧ Hid (GfS w r0 c f i l j wr2)) (fun v4 _ => nL - (RowKit.intOf v4).toNat)
      case atStart => exact ⟨0, Nat.zero_le _, rfl, HW1⟩
      case round =>
        clear HW1
        obtain ⟨j, hj, rfl, HW⟩ := hrel
        have c0 : wr.cell? ⟨ob, 0, none⟩ = some (.slice (some ⟨gF, oF, none⟩) nF kF) := (HH.out.fresh HW.out.bel).row.cell 0
        have hcell : wr.cell? ⟨gF, oF + i, none⟩ = some (.slice aL nL cL) := by rw [HNL.out]; exact (HW.out.bel.cell (lt_of_cell HCE.out)).trans HCE.out
        by_cases hjn : j = nL
        · have hjn' : nL = j := hjn.symm
          subst hjn'
          go_wp2_with fail
          exact ⟨⟨i + 1, by omega, by go_num, Lib.hid ⟨HW.out.bel, HW.out.row, by have := HW.out.no; rw [HNL.out] at this; rw [preI_next HLI.out]; exact this⟩⟩, by simp [RowKit.intOf]; omega⟩
        · have hjlt : j < nL := by omega
          have hjlt' : (j : Int) < nL := by omega
          obtain ⟨b5, o5, x, rfl, hx, hc5⟩ := (HSL.out.below HW.out.bel).elem insC insC_len (by decide) j (by rw [← HNL.out]; exact hjlt)
          have d0 := hc5 0 _ rfl
          have d1 := hc5 1 _ rfl
          have d2 := hc5 2 _ rfl
          have d3 := hc5 3 _ rfl
          have d4 := hc5 4 _ rfl
          simp only [Nat.add_zero] at d0
          have HX := Lib.hid hx
          have hog : x.op.toNat = 6 → 1 ≤ x.a ∧ 1 ≤ x.b ∧ x.a + x.b ≤ 65536 := fun h6 => by
            have := op_group (hop.out l (List.mem_of_getElem? HLI.out) x (List.mem_of_getElem? hx)) h6
            rw [HNF.out] at this
            omega
          have HOG := Lib.hid hog
          clear hx hc5 hog
          go_upto_region 8 with fail
          obtain ⟨w5, hw5⟩ : ∃ y, y = wr.alloc (.cells #[.int .u8 (x.op.toNat : Int), .int .i64 x.a, .int .i64 x.b, .int .i64 x.c, .string (str x.t)] 46) := ⟨_, rfl⟩
          have hb5 : Below wr.heap.size wr w5 := by rw [hw5]; exact (Below.refl _ _).alloc (Nat.le_refl _) _
          obtain ⟨kx, hkx⟩ : ∃ y, y = wr.heap.size := ⟨_, rfl⟩
          have r5 : Row w5 kx 46 (insC x) := by rw [hw5, hkx]; exact Row.new wr _ _
          have HKX : Hid (r0 < kx) := Lib.hid (by rw [hkx]; exact HW.out.row.lt)
          rw [← hw5, ← hkx]
          have HW5 := Lib.hid (HW.out.fresh hb5)
          clear hw5 hkx hb5 HW c0 hcell d0 d1 d2 d3 d4
          have HX5 := Lib.hid r5
          have c2 : w5.cell? ⟨ob, 2, none⟩ = some (.int .i64 (f : Nat)) := (HH.out.fresh HW5.out.bel).row.cell 2
          have z0 : w5.cell? ⟨kx, 0, none⟩ = some (.int .u8 (x.op.toNat : Int)) := r5.cell 0
          have z1 : w5.cell? ⟨kx, 1, none⟩ = some (.int .i64 x.a) := r5.cell 1
          have z2 : w5.cell? ⟨kx, 2, none⟩ = some (.int .i64 x.b) := r5.cell 2
          clear r5
          have HNO : Hid (grpB f x = false → ∀ y ∈ preI c i l (j + 1), grpB f y = false) := Lib.hid (fun hg y hy => by
            rw [preI_more HX.out] at hy
            rcases List.mem_append.1 hy with hy | hy
            · exact HW5.out.no y hy
            · rw [List.mem_singleton.1 hy]; exact hg)
          by_cases h6 : x.op.toNat = 6
          · have hb6 : ((x.op.toNat : Int) == 6) = true := by rw [beq_iff_eq]; omega
            have hgb := HOG.out h6
            by_cases ha : x.a ≤ (f : Int)
            · have hda : decide (x.a ≤ (f : Int)) = true := decide_eq_true ha
              by_cases hb : (f : Int) < x.a + x.b
              · have hdb : decide ((f : Int) < x.a + x.b) = true := decide_eq_true hb
                have HGX : Hid (G = x) := Lib.hid (HG.out.trans (find_at HW5.out.no HLI.out HX.out (by unfold grpB; rw [decide_eq_true h6, decide_eq_true ha, decide_eq_true hb]; rfl)))
                go_wp2_with fail
                go_quiet (fail)
                have r6 := below_row HX5.out nq
                have hrow := below_row HW5.out.row nq
                have y0 : (w5.drewN nq).cell? ⟨kx, 0, none⟩ = some (.int .u8 (x.op.toNat : Int)) := r6.cell 0
                have y1 : (w5.drewN nq).cell? ⟨kx, 1, none⟩ = some (.int .i64 x.a) := r6.cell 1
                have y2 : (w5.drewN nq).cell? ⟨kx, 2, none⟩ = some (.int .i64 x.b) := r6.cell 2
                have y3 : (w5.drewN nq).cell? ⟨kx, 3, none⟩ = some (.int .i64 x.c) := r6.cell 3
                have y4 : (w5.drewN nq).cell? ⟨kx, 4, none⟩ = some (.string (str x.t)) := r6.cell 4
                go_wp2_with (refine wpL_storeRow rfl _ _ _ rfl (cs := [.int .u8 6, .int .i64 x.a, .int .i64 x.b, .int .i64 x.c, .string (str x.t)]) rfl rfl hrow (by kernel_rfl) rfl rfl ?_; intro w6 hg6 hr6)
                try simp only [Exit.inBlock, Exit.then]
                refine bodyPost_ret (results_cell_row Tryd.results48 _ _ r0 46 _ (0, 0) _ rfl hr6 Tryd.underlying46 rfl (by kernel_rfl)) rfl ?_
                rw [HGX.out, h6]
                exact ⟨rfl, below_mods (below_drewN HW5.out.bel nq) (Mods.grown hg6) (fun g e => by have := Option.some.inj e; have := HR0.out; omega) HW5.out.bel.size⟩
              · have hdb : decide ((f : Int) < x.a + x.b) = false := decide_eq_false hb
                have HGF : Hid (grpB f x = false) := Lib.hid (by unfold grpB; rw [decide_eq_false hb]; simp)
                go_wp2_with fail
                go_quiet (fail)
                go_wp2_with fail
                exact ⟨⟨j + 1, by omega, by go_num, Lib.hid ⟨below_drewN HW5.out.bel _, HW5.out.row.after (below_drewN (Below.refl _ _) _), HNO.out HGF.out⟩⟩, by simp [RowKit.intOf]; omega⟩
            · have hda : decide (x.a ≤ (f : Int)) = false := decide_eq_false ha
              have HGF : Hid (grpB f x = false) := Lib.hid (by unfold grpB; rw [decide_eq_false ha]; simp)
              go_wp2_with fail
              go_quiet (fail)
              go_wp2_with fail
              exact ⟨⟨j + 1, by omega, by go_num, Lib.hid ⟨below_drewN HW5.out.bel _, HW5.out.row.after (below_drewN (Below.refl _ _) _), HNO.out HGF.out⟩⟩, by simp [RowKit.intOf]; omega⟩
          · have hb6 : ((x.op.toNat : Int) == 6) = false := by rw [beq_eq_false_iff_ne]; omega
            have HGF : Hid (grpB f x = false) := Lib.hid (by unfold grpB; rw [decide_eq_false h6]; rfl)
            go_wp2_with fail
            go_quiet (fail)
            go_wp2_with fail
            exact ⟨⟨j + 1, by omega, by go_num, Lib.hid ⟨below_drewN HW5.out.bel _, HW5.out.row.after (below_drewN (Below.refl _ _) _), HNO.out HGF.out⟩⟩, by simp [RowKit.intOf]; omega⟩
end Go.Proofs.YtoddklfblcfoiaaDoor
