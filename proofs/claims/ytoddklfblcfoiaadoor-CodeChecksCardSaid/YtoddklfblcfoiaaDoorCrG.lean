/-
  The document's runs and Check, and the law of Check, walked. Condition: code within a machine's reach; the table as laid.
-/
import Derived.Test.YtoddklfblcfoiaaDoorCrF
import Derived.Test.YtoddklfblcfoiaaDoorCoY
import Derived.Test.YtoddklfblcfoiaaDoorCrB
import Derived.Test.YtoddklfblcfoiaaDoorCpF
import Derived.Test.YtoddklfblcfoiaaDoorCpI
namespace Go.Proofs.YtoddklfblcfoiaaDoor
open Go Go.RowKit Go.Maps
set_option linter.unusedVariables false
set_option linter.unusedSimpArgs false
set_option maxRecDepth 100000

theorem dropl : ∀ (left : List Nat) (p : Nat), left.getLast? = some p → left.dropLast ++ [p] = left
  | [], p, h => by cases h
  | [a], p, h => by simp at h; simp [h]
  | a :: b :: r, p, h => by
    have h1 : (b :: r).getLast? = some p := by simpa [List.getLast?_cons_cons] using h
    have := dropl (b :: r) p h1
    rw [List.dropLast_cons_cons, List.cons_append, this]
theorem etSD : ET Tryd.prog 128 132 (.agg #[.bool false, .int .i64 0, .slice none 0 0]) 3 40 := ⟨Tryd.underlying128, by kernel_rfl, rfl, by decide⟩
/-- the last place is taken from those that are left -/
theorem FlS.cut {w0 : World} {ob ba oa base top f : Nat} {vF vR : Value} {g : Ins} {nA : Nat} {w : World} {g6 off n cap : Nat} {K : Lab} {left : List Nat} {bad : Bool} (h : FlS w0 ob ba oa base top f vF vR g nA w (.slice (some ⟨g6, off, none⟩) n cap) K left bad) :
    FlS w0 ob ba oa base top f vF vR g nA (w.setCell ⟨ob, 7, none⟩ (.slice (some ⟨g6, off, none⟩) (n - 1) cap)) (.slice (some ⟨g6, off, none⟩) (n - 1) cap) K left.dropLast bad := by
  have hn : n = left.length := by have := h.lft.sl.cap.2.2.1; simpa using this
  have hl := h.lft
  rw [← hn] at hl
  have ho := hl.front (m := n - 1) (by omega)
  have hu := h.up
  have hob := h.obk
  have hbm := h.bak
  have hset := Mods.set w ob 7 (.slice (some ⟨g6, off, none⟩) (n - 1) cap)
  refine ⟨h.row.set 7 _, ?_, ?_, hob, hbm, h.ne, below_mods h.bel hset (fun g hg => by omega) h.bel.size, ⟨hu.1, Nat.le_trans hu.2 hset.size⟩⟩
  · exact h.kn.mods hu.2 hset (fun g h1 _ _ e => by omega) (fun g hg => .inl hg) (fun e => h.ne e.symm)
  · have e : left.dropLast.length = n - 1 := by rw [List.length_dropLast]; omega
    have e2 : nats left.dropLast = (nats left).take ((n - 1) * 1) := by
      rw [nats, nats, List.dropLast_eq_take, List.map_take, Nat.mul_one, hn]
    rw [e, e2]
    exact ho.far (b := ob) (o := 7) hob.2 _
/-- where the document's walk stands -/
structure RunD (w : World) (ob ba oa base f : Nat) (vF vR : Value) (l : List Ins) (g : Ins) (nA : Nat) (wr : World) (vL : Value) (top : Nat) (K : Lab) (left : List Nat) (bad : Bool) : Prop where
  fl : FlS w ob ba oa base top f vF vR g nA wr vL K left bad
  yes : bad = false → Inv l f g K left ∧ TlB l.length K ∧ 2 * unl l.length K + left.length ≤ 2 * l.length
  no : bad = true → ¬ RunsP l f g
def badN (bad : Bool) (m : Nat) : Nat := if bad then 0 else m + 1
def RunDM (w : World) (ob ba oa base f : Nat) (vF vR : Value) (l : List Ins) (g : Ins) (nA : Nat) (wr : World) (m : Nat) : Prop := ∃ vL top K left bad, RunD w ob ba oa base f vF vR l g nA wr vL top K left bad ∧ badN bad (2 * unl l.length K + left.length) = m
def RunDW (w : World) (ob ba oa base f : Nat) (vF vR : Value) (l : List Ins) (g : Ins) (nA : Nat) (wr : World) : Prop := ∃ m, RunDM w ob ba oa base f vF vR l g nA wr m
noncomputable def muD (w : World) (ob ba oa base f : Nat) (vF vR : Value) (l : List Ins) (g : Ins) (nA : Nat) (wr : World) : Nat := leastM (RunDM w ob ba oa base f vF vR l g nA wr)
theorem dr_start {w : World} {ob ba oa base top f : Nat} {vF vR : Value} {l : List Ins} {g : Ins} {nA : Nat} {w6 : World} {vL : Value} {K : Lab} {left : List Nat} {bad : Bool} (h : FlS w ob ba oa base top f vF vR g nA w6 vL K left bad) (hg : Hid (GoD (toS nA ((0 : Int), (leastV f, [])) (fun _ => none) []) (fun _ => none) [] false K left bad)) (hn : nA = l.length) : RunD w ob ba oa base f vF vR l g nA w6 vL top K left bad := by
  refine ⟨h, fun hb => ?_, fun hb => ?_⟩
  · have h1 := (hg.out.1 hb).2
    unfold toS at h1
    by_cases hp : 0 < l.length
    · rw [if_pos (by simp only; omega)] at h1
      cases h1
      refine ⟨Inv.begin hp, TlB.begin hp f, ?_⟩
      have := unl_set (n := l.length) (K := fun _ => none) (p := 0) (s := (leastV f, [])) hp rfl
      rw [unl_none] at this
      simp
      omega
    · rw [if_neg (by simp only; omega)] at h1
      cases h1
  · have h1 := (hg.out.2.1 hb).resolve_left (by simp)
    unfold toS at h1
    by_cases hp : 0 < l.length
    · rw [if_pos (by simp only; omega)] at h1
      cases h1
    · have : l = [] := List.eq_nil_of_length_eq_zero (by omega)
      rw [this]
      exact runs_none
set_option maxHeartbeats 4000000 in
theorem druns_p (aF : Option Addr) (nF kF : Nat) (aR : Option Addr) (nR kR : Nat) (c : Cod) (f : Nat) (l : List Ins) (g : Ins) (w : World) (hc : CodM w (.slice aF nF kF) (.slice aR nR kR) c) (hf : c.f[f]? = some l) (hF : nF ≤ 65536) (hlen : l.length ≤ 1000000) (hop : ∀ x ∈ l, opB nF nR l.length x = true) (B : Bool) (HBV : Hid (B = runsV l f g)) :
    Calls Tryd.prog 46 #[.agg #[.slice aF nF kF, .slice aR nR kR], .int .i64 (f : Nat), .agg #[.int .i64 g.a, .int .i64 g.b, .int .i64 g.c]] w fun e w' => e = .returned (.bool B) ∧ Below w.heap.size w w' := by
  have hfn : f < nF := by
    have h1 := (List.getElem?_eq_some_iff.1 hf).1
    obtain ⟨⟨vs, h2, h3⟩, h4⟩ := hc
    have := h2.cap
    omega
  have hfn' : (f : Int) < nF := by omega
  obtain ⟨gF, oF, aL, cL, rfl, hcell, hsl⟩ := hc.fun_at f l hf
  have HC := Lib.hid hc
  have HF := Lib.hid hf
  have HOP := Lib.hid hop
  obtain ⟨nA, hnA⟩ : ∃ n, n = l.length := ⟨_, rfl⟩
  have HNA := Lib.hid hnA
  rw [← hnA] at hcell hlen
  clear hc hf hop hsl hnA
  obtain ⟨w1, hw1⟩ : ∃ y, y = (w.alloc (.cells #[.slice (some ⟨gF, oF, none⟩) nF kF, .slice aR nR kR] 25)).alloc (.cells #[.int .i64 g.a, .int .i64 g.b, .int .i64 g.c] 90) := ⟨_, rfl⟩
  have hall : Row w1 w.heap.size 25 [.slice (some ⟨gF, oF, none⟩) nF kF, .slice aR nR kR] ∧ Row w1 (w.heap.size + 1) 90 [.int .i64 g.a, .int .i64 g.b, .int .i64 g.c] ∧ Below w.heap.size w w1 ∧ w1.heap.size = w.heap.size + 1 + 1 := by
    rw [hw1]
    obtain ⟨wa, hwa⟩ : ∃ y, y = w.alloc (.cells #[.slice (some ⟨gF, oF, none⟩) nF kF, .slice aR nR kR] 25) := ⟨_, rfl⟩
    have ra : Row wa w.heap.size 25 [.slice (some ⟨gF, oF, none⟩) nF kF, .slice aR nR kR] := by rw [hwa]; exact Row.new w _ _
    have sa : wa.heap.size = w.heap.size + 1 := by rw [hwa]; simp
    have ba : Below w.heap.size w wa := by rw [hwa]; exact (Below.refl _ _).alloc (Nat.le_refl _) _
    rw [← hwa]
    clear hwa
    have rb := Row.new wa [.int .i64 g.a, .int .i64 g.b, .int .i64 g.c] 90
    rw [sa] at rb
    have bb := (Below.refl wa.heap.size wa).alloc (Nat.le_refl _) (.cells [Value.int .i64 g.a, .int .i64 g.b, .int .i64 g.c].toArray 90)
    exact ⟨ra.after bb, rb, ba.trans (bb.mono ba.size), by simp [sa]⟩
  obtain ⟨r1, r2, hb1, hs1⟩ := hall
  have q0 := later_cell (r1.cell 0)
  have q1 := later_cell (r1.cell 1)
  have g0 := later_cell (r2.cell 0)
  have g1 := later_cell (r2.cell 1)
  have g2 := later_cell (r2.cell 2)
  have qf := later_cell ((hb1.cell (lt_of_cell hcell)).trans hcell)
  have HB1 := Lib.hid hb1
  have HS1 := Lib.hid hs1
  clear hcell r1 r2 hb1 hs1
  go_enter Tryd.func46, Tryd.ntmps46
  go_upto_region 1 with fail
  rw [← hw1]
  clear hw1
  refine wp_region_idx Rb Rb_refl Rb_trans [(0,0),(0,1),(0,2),(0,3),(0,4),(0,5),(0,6),(0,7),(0,8),(1,9),(0,10),(1,11),(0,12)] (by kernel_rfl) (by kernel_rfl) (by kernel_rfl) ?_
  simp only [pickO, List.getD_cons_succ, List.getD_cons_zero]
  refine wpCan_seg 9 (by kernel_rfl) ?_
  simp only [List.take_succ_cons, List.take_zero, List.drop_succ_cons, List.drop_zero, List.map_cons, List.map_nil]
  iterate 9 (go_big_quiet_step (fail))
  refine wpQuiet_nil ?_
  clear q0 q1 g0 g1 g2 qf
  refine wpCan_list (k := 0) (fun KK hK => ?_) (fun _ => Rb_refl _)
  go_wp2_with (at_make; refine wpL_makeSD etSD rfl _ _ rfl nA w1.drew.heap.size rfl rfl rfl rfl (by omega) (by simp [maxLen]; omega) (Nat.le_refl _) ?_; intro ba oa w2 ho2 hb2 hg2)
  refine hK _ _ (fun _ => hb2) ?_
  clear hK KK
  have HO2 := Lib.hid ho2
  have HB2 := Lib.hid hb2
  have HG2 := Lib.hid hg2
  clear ho2 hb2 hg2
  refine wpCan_seg 1 (by kernel_rfl) ?_
  simp only [List.take_succ_cons, List.take_zero, List.drop_succ_cons, List.drop_zero, List.map_cons, List.map_nil]
  iterate 1 (go_big_quiet_step (fail))
  refine wpQuiet_nil ?_
  refine wpCan_list (k := 0) (fun KK hK => ?_) (fun _ => Rb_refl _)
  go_wp2_with fail
  obtain ⟨ob, hob⟩ : ∃ y, y = w2.heap.size := ⟨_, rfl⟩
  have hb3 : Below w2.heap.size w2 (w2.alloc (.cells #[.slice (some ⟨gF, oF, none⟩) nF kF, .slice aR nR kR, .int .i64 (f : Nat), .int .i64 g.a, .int .i64 g.b, .int .i64 g.c, .slice (some ⟨ba, oa, none⟩) nA nA, .slice none 0 0, .bool false] 130)) := (Below.refl _ _).alloc (Nat.le_refl _) _
  refine hK _ _ (fun _ => hb3) ?_
  clear hK KK
  obtain ⟨w3, hw3⟩ : ∃ y, y = w2.alloc (.cells #[.slice (some ⟨gF, oF, none⟩) nF kF, .slice aR nR kR, .int .i64 (f : Nat), .int .i64 g.a, .int .i64 g.b, .int .i64 g.c, .slice (some ⟨ba, oa, none⟩) nA nA, .slice none 0 0, .bool false] 130) := ⟨_, rfl⟩
  have hr3 : Row w3 ob 130 [.slice (some ⟨gF, oF, none⟩) nF kF, .slice aR nR kR, .int .i64 (f : Nat), .int .i64 g.a, .int .i64 g.b, .int .i64 g.c, .slice (some ⟨ba, oa, none⟩) nA nA, .slice none 0 0, .bool false] := by rw [hw3, hob]; exact Row.new w2 _ _
  rw [← hw3] at hb3 ⊢
  rw [← hob]
  have HFL : Hid (FlS w ob ba oa (ob + 1) (ob + 1) f (.slice (some ⟨gF, oF, none⟩) nF kF) (.slice aR nR kR) g nA w3 (.slice none 0 0) (fun _ => none) [] false) := Lib.hid (by
    have e0 := HB1.out.size
    have e1 := HS1.out
    have e2 := HB2.out.size
    have e3 : w1.drew.heap.size = w1.heap.size := rfl
    have e4 := HO2.out.lives ba rfl
    have e5 := HG2.out
    have e6 : w3.heap.size = ob + 1 := by rw [hw3, hob]; simp
    have hbw : Below w.heap.size w w2 := HB1.out.trans (((Below.refl w1.heap.size w1).drew.trans HB2.out).mono HB1.out.size)
    refine ⟨hr3, ⟨List.replicate nA sd0, List.length_replicate, (HO2.out.below hb3).mono (Nat.zero_le _), fun p s h => (by cases h), fun p hp _ => ⟨sd0.2, by rw [List.getElem?_replicate, if_pos hp]; rfl⟩⟩, Own.nil _ _ _, ⟨by omega, by omega⟩, ⟨by omega, by omega⟩, by omega, hbw.trans (hb3.mono hbw.size), ⟨Nat.le_refl _, by omega⟩⟩)
  have HSZ : Hid (w3.heap.size = ob + 1) := Lib.hid (by rw [hw3, hob]; simp)
  clear hw3 hb3 hr3 hob HO2 HB2 HG2 HB1 HS1
  refine wpCan_seg 1 (by kernel_rfl) ?_
  simp only [List.take_succ_cons, List.take_zero, List.drop_succ_cons, List.drop_zero, List.map_cons, List.map_nil]
  iterate 1 (go_big_quiet_step (fail))
  refine wpQuiet_nil ?_
  unfold wpCan
  go_upto_region 3 with fail
  obtain ⟨w4, hw4⟩ : ∃ y, y = w3.alloc (.cells #[.bool false, .int .i64 0, .slice none 0 0] 132) := ⟨_, rfl⟩
  obtain ⟨ks, hks⟩ : ∃ y, y = w3.heap.size := ⟨_, rfl⟩
  have hb4 : Below w3.heap.size w3 w4 := by rw [hw4]; exact (Below.refl _ _).alloc (Nat.le_refl _) _
  have hr4 : Row w4 ks 132 [.bool false, .int .i64 0, .slice none 0 0] := by rw [hw4, hks]; exact Row.new w3 _ _
  have HF4 := Lib.hid (HFL.out.fresh hb4)
  have HK4 : Hid (ob < ks ∧ w.heap.size ≤ ks) := Lib.hid (by have := HSZ.out; have := HFL.out.obk; omega)
  rw [← hw4, ← hks]
  clear hw4 hks hb4 HFL HSZ
  have H0 : Hid (∃ w5, FlS w ob ba oa (ob + 1) (ob + 1) f (.slice (some ⟨gF, oF, none⟩) nF kF) (.slice aR nR kR) g nA w5 (.slice none 0 0) (fun _ => none) [] false ∧ Row w5 ks 132 [.bool false, .int .i64 (leastV f), .slice none 0 0]) → True := fun _ => trivial
  clear H0
  by_cases hf0 : f = 0
  · have hnf : ¬ (0 : Int) < f := by omega
    have hlv : leastV f = 0 := by unfold leastV; exact if_pos hf0
    clear hf0
    have s0 : w4.cell? ⟨ks, 0, none⟩ = some (.bool false) := hr4.cell 0
    have s1 : w4.cell? ⟨ks, 1, none⟩ = some (.int .i64 0) := hr4.cell 1
    have s2 : w4.cell? ⟨ks, 2, none⟩ = some (.slice none 0 0) := hr4.cell 2
    clear hr4
    go_wp2_with fail
    have hto := dto_p w ob ba oa (ob + 1) (ob + 1) f _ _ g nA w4 (.slice none 0 0) (fun _ => none) [] false HF4.out hlen (by simp) 0 false (leastV f, []) none 0 0 (TrV.nil _ _ _ _)
    rw [hlv] at hto
    refine hto.mono ?_
    clear hto
    rintro e w6 ⟨K', left', bad', vL', rfl, h6, hm6, hv6, hg6⟩
    have H0 : Hid (RunD w ob ba oa (ob + 1) f (.slice (some ⟨gF, oF, none⟩) nF kF) (.slice aR nR kR) l g nA w6 vL' (ob + 1) K' left' bad') := Lib.hid (dr_start h6 (by rw [hlv]; exact hg6) HNA.out)
    clear h6 hm6 hv6 hg6 s0 s1 s2 HF4 HK4 hlv hnf
    go_wp2_with fail
    go_loopw [9] (fun v9 wr => RunDW w ob ba oa (ob + 1) f (.slice (some ⟨gF, oF, none⟩) nF kF) (.slice aR nR kR) l g nA wr) (fun v9 wr => muD w ob ba oa (ob + 1) f (.slice (some ⟨gF, oF, none⟩) nF kF) (.slice aR nR kR) l g nA wr)
    case atStart => exact ⟨_, _, _, _, _, _, H0.out, rfl⟩
    case round =>
      clear H0
      obtain ⟨m0, hm0⟩ := hrel
      obtain ⟨⟨vL, top, K, left, bad, hS, hM⟩, hxx⟩ := leastM_spec hm0
      have HM : Hid (badN bad (2 * unl l.length K + left.length) = muD w ob ba oa (ob + 1) f (.slice (some ⟨gF, oF, none⟩) nF kF) (.slice aR nR kR) l g nA wr) := Lib.hid hM
      have HS := Lib.hid hS
      have k7 := hS.fl.cells.2.2.1
      have k8 := hS.fl.cells.2.2.2
      obtain ⟨aV, cV, rfl⟩ := hS.fl.lft.form
      obtain ⟨n, hn⟩ : ∃ y, y = left.length := ⟨_, rfl⟩
      have HN := Lib.hid hn
      rw [← hn] at k7
      clear hxx hm0 hM m0 hS hn
      cases bad with
      | true =>
        have hB : B = false := HBV.out.trans (runsV_no (HS.out.no rfl))
        have HBB := Lib.hid hB
        clear hB
        by_cases hn0 : n = 0
        · subst hn0
          go_wp2_with fail
          go_ret
          rw [HBB.out]
          exact ⟨rfl, HS.out.fl.bel⟩
        · have hn1 : (0 : Int) < n := by omega
          clear hn0
          go_wp2_with fail
          go_ret
          rw [HBB.out]
          exact ⟨rfl, HS.out.fl.bel⟩
      | false =>
        by_cases hn0 : n = 0
        · have hl0 : left = [] := List.eq_nil_of_length_eq_zero (HN.out.symm.trans hn0)
          have hB : B = true := HBV.out.trans (runsV_yes (by have h1 := (HS.out.yes rfl).1; rw [hl0] at h1; exact h1.ends))
          have HBB := Lib.hid hB
          clear hB hl0
          subst hn0
          go_wp2_with fail
          go_ret
          rw [HBB.out]
          exact ⟨rfl, HS.out.fl.bel⟩
        · have hn1 : (0 : Int) < n := by omega
          have hn2 : 0 < n := by omega
          clear hn0
          have hlast : ∃ p, left.getLast? = some p := by
            cases hl : left.getLast? with
            | none => have := HN.out; rw [List.getLast?_eq_none_iff.1 hl] at this; simp at this; omega
            | some p => exact ⟨p, rfl⟩
          obtain ⟨p, hlp⟩ := hlast
          have hsl0 : Sl wr 1 (.slice aV n cV) n (nats left) := by have h1 := HS.out.fl.lft.sl; rw [← HN.out] at h1; exact h1
          have hcap := hsl0.cap
          obtain ⟨b, off, u, rfl, hu, hc⟩ := hsl0.at (k := n - 1) (by omega)
          obtain ⟨z, rfl, hz⟩ := nats_at hu
          have hla := last_at hlp
          rw [← HN.out] at hla
          rw [hla] at hz
          cases hz
          have hpl : p ∈ left := List.mem_of_getLast? hlp
          have hI := (HS.out.yes rfl).1
          obtain ⟨s, hs⟩ : ∃ s, K p = some s := Option.ne_none_iff_exists'.1 (hI.lft p hpl)
          have hpn : p < l.length := hI.dom p s hs
          obtain ⟨x, hx⟩ : ∃ x, l[p]? = some x := ⟨_, List.getElem?_eq_getElem hpn⟩
          have HSS := Lib.hid hs
          have HX := Lib.hid hx
          have HLP := Lib.hid hlp
          have hcap1 := hcap.1
          have hcap2 := hcap.2.1
          have q7 := later_cell k7
          have qc := later_cell hc
          clear hlp hsl0 hcap hu hla hpl hI hs hx
          go_upto_region 7 with fail
          refine wp_region_idx Rb Rb_refl Rb_trans [(0,0),(0,1),(0,2),(0,3),(0,4),(0,5),(0,6),(0,7),(0,8),(0,9),(0,10),(0,11),(0,12)] (by kernel_rfl) (by kernel_rfl) (by kernel_rfl) ?_
          simp only [pickO, List.getD_cons_succ, List.getD_cons_zero]
          refine wpCan_seg 13 (by kernel_rfl) ?_
          simp only [List.take_succ_cons, List.take_zero, List.drop_succ_cons, List.drop_zero, List.map_cons, List.map_nil]
          iterate 13 (go_big_quiet_step (fail))
          refine wpQuiet_nil ?_
          unfold wpCan
          clear q7 qc k7 k8 hc
          obtain ⟨wd, hwd⟩ : ∃ y, y = wr.drew := ⟨_, rfl⟩
          have hfd : Hid (FlS w ob ba oa (ob + 1) top f (.slice (some ⟨gF, oF, none⟩) nF kF) (.slice aR nR kR) g nA wd (.slice (some ⟨b, off, none⟩) n cV) K left false) := Lib.hid (by rw [hwd]; have h1 := HS.out.fl.fresh (Below.refl wr.heap.size wr).drew; rw [← HN.out] at h1; exact h1)
          rw [← hwd]
          clear hwd
          have q7 := later_cell hfd.out.cells.2.2.1
          have hsl : ∀ x : Later Rb wd.drew, (Instr.slice 118 (.slice (some ⟨b, off, none⟩) n cV) none (some (.int .i64 ((n : Int) - 1))) none).run Tryd.prog x.w = .ok (.slice (some ⟨b, off, none⟩) (n - 1) cV) x.w := fun x => by
            have h1 := run_cut (P := Tryd.prog) x.w Tryd.underlying118 (by kernel_rfl) (some ⟨b, off, none⟩) n cV 0 (n - 1) cV none (some (.int .i64 ((n - 1 : Nat) : Int))) none (bounds_h _ _ _ _ _ (by omega))
            have h2 : cutAddr (some ⟨b, off, none⟩) cV 0 = some ⟨b, off, none⟩ := by
              unfold cutAddr
              split
              · rfl
              · simp [add_eq]
            rw [show ((n - 1 : Nat) : Int) = (n : Int) - 1 by omega, h2] at h1
            simpa using h1
          go_upto_region 8 with fail
          refine wp_region_idx Rb Rb_refl Rb_trans [(0,0),(0,1),(0,2),(0,3),(0,4),(0,5),(0,6),(0,7),(0,8),(0,9),(0,10),(0,11),(0,12),(0,13),(2,14)] (by kernel_rfl) (by kernel_rfl) (by kernel_rfl) ?_
          simp only [pickO, List.getD_cons_succ, List.getD_cons_zero]
          refine wpCan_seg 14 (by kernel_rfl) ?_
          simp only [List.take_succ_cons, List.take_zero, List.drop_succ_cons, List.drop_zero, List.map_cons, List.map_nil]
          iterate 14 (go_big_quiet_step (fail))
          refine wpQuiet_nil ?_
          clear q7 hsl
          obtain ⟨we, hwe⟩ : ∃ y, y = wd.drew := ⟨_, rfl⟩
          have hfe : Hid (FlS w ob ba oa (ob + 1) top f (.slice (some ⟨gF, oF, none⟩) nF kF) (.slice aR nR kR) g nA we (.slice (some ⟨b, off, none⟩) n cV) K left false) := Lib.hid (by rw [hwe]; exact hfd.out.fresh (Below.refl wd.heap.size wd).drew)
          rw [← hwe]
          clear hwe hfd
          have k7 := hfe.out.cells.2.2.1
          have z7 := hfe.out.row.free 7
          refine wpCan_list (k := 1) (fun KK hK => ?_) (fun h => by cases h)
          go_wp2_with fail
          refine hK _ _ (fun h => by cases h) ?_
          clear hK KK k7 z7
          unfold wpCan
          have HC6 := Lib.hid hfe.out.cut
          obtain ⟨w6, hw6⟩ : ∃ y, y = we.setCell ⟨ob, 7, none⟩ (.slice (some ⟨b, off, none⟩) (n - 1) cV) := ⟨_, rfl⟩
          rw [← hw6] at HC6 ⊢
          clear hw6 hfe
          have HDL : Hid (left.dropLast.length = left.length - 1 ∧ n = left.length) := Lib.hid ⟨List.length_dropLast, HN.out⟩
          have HH : Hid (StpD w ob ba oa (ob + 1) top f (some ⟨gF, oF, none⟩) nF kF aR nR kR c l g nA w6 (.slice (some ⟨b, off, none⟩) (n - 1) cV) K left.dropLast p x s) := Lib.hid (by
            obtain ⟨hI, hT, hL⟩ := HS.out.yes rfl
            have hb := hI.bnd p s HSS.out
            have ht := hT p s HSS.out
            have hd := HDL.out
            have hna := HNA.out
            refine ⟨HC6.out, HC.out, HF.out, HX.out, HSS.out, hI.tri p s HSS.out, HNA.out, hlen, by omega, hb.1, by omega, fun q t hq => ?_, by omega, by rw [hna]; exact HOP.out x (List.mem_of_getElem? HX.out), hF⟩
            have hb := hI.bnd q t hq
            omega)
          go_wp2_with fail
          refine (dstep_p w ob ba oa (ob + 1) top f (some ⟨gF, oF, none⟩) nF kF aR nR kR c l g nA w6 (.slice (some ⟨b, off, none⟩) (n - 1) cV) K left.dropLast p x s HH).mono ?_
          rintro e w7 ⟨K', left', bad', vL', top', rfl, h7, hm7, hv7, hg7⟩
          have HRD : Hid (RunD w ob ba oa (ob + 1) f (.slice (some ⟨gF, oF, none⟩) nF kF) (.slice aR nR kR) l g nA w7 vL' top' K' left' bad' ∧ badN bad' (2 * unl l.length K' + left'.length) < badN false (2 * unl l.length K + left.length)) := Lib.hid (by
            obtain ⟨hI, hT, hL⟩ := HS.out.yes rfl
            have hmem : ∀ q, q ∈ left ↔ q = p ∨ q ∈ left.dropLast := fun q => by
              have e1 := dropl left p HLP.out
              conv => lhs; rw [← e1]
              rw [List.mem_append, List.mem_singleton]
              exact Or.comm
            have hopx := HOP.out x (List.mem_of_getElem? HX.out)
            have hmx := op_moves hopx hF
            have hd := HDL.out
            cases hb : bad' with
            | false =>
              have hsv : stepV l f g K left.dropLast p x s = some (K', left') := by
                have h1 := hg7.out.1 hb
                unfold stepV
                rw [← HNA.out]
                exact h1
              obtain ⟨hinv, hdec⟩ := hI.step hmem HX.out hmx HSS.out hsv
              refine ⟨⟨by rw [← hb]; exact h7, fun _ => ⟨hinv, hT.step HSS.out hsv, by omega⟩, fun h => (by cases h)⟩, ?_⟩
              show 2 * unl l.length K' + left'.length + 1 < 2 * unl l.length K + left.length + 1
              omega
            | true =>
              have hsv : stepV l f g K left.dropLast p x s = none := by
                have h1 := hg7.out.2.1 hb
                unfold stepV
                rw [← HNA.out]
                exact h1
              refine ⟨⟨by rw [← hb]; exact h7, fun h => (by cases h), fun _ => hI.stuck HX.out HSS.out hsv⟩, ?_⟩
              show 0 < 2 * unl l.length K + left.length + 1
              omega)
          have HML : Hid (muD w ob ba oa (ob + 1) f (.slice (some ⟨gF, oF, none⟩) nF kF) (.slice aR nR kR) l g nA w7 < muD w ob ba oa (ob + 1) f (.slice (some ⟨gF, oF, none⟩) nF kF) (.slice aR nR kR) l g nA wr) := Lib.hid (by
            have h1 := (leastM_spec (P := RunDM w ob ba oa (ob + 1) f (.slice (some ⟨gF, oF, none⟩) nF kF) (.slice aR nR kR) l g nA w7) ⟨vL', top', K', left', bad', HRD.out.1, rfl⟩).2
            have h2 := HRD.out.2
            have h3 := HM.out
            show leastM _ < _
            omega)
          clear h7 hm7 hv7 hg7
          go_wp2_with fail
          exact ⟨⟨_, vL', top', K', left', bad', HRD.out.1, rfl⟩, HML.out⟩
  · have hnf : (0 : Int) < f := by omega
    have hlv : leastV f = 1 := by unfold leastV; exact if_neg hf0
    clear hf0
    have s1 : w4.cell? ⟨ks, 1, none⟩ = some (.int .i64 0) := hr4.cell 1
    have z1 := hr4.free 1
    go_upto_region 5 with fail
    have hms := Mods.set w4 ks 1 (.int .i64 1)
    have hr5 := hr4.set 1 (.int .i64 1)
    have HF5 := Lib.hid (HF4.out.mods hms (fun q hq => ⟨by have := HK4.out; omega, fun e => (by cases e)⟩))
    obtain ⟨w5, hw5⟩ : ∃ y, y = w4.setCell ⟨ks, 1, none⟩ (.int .i64 1) := ⟨_, rfl⟩
    rw [← hw5] at hr5 HF5 ⊢
    clear hw5 hms s1 z1 HF4 hr4
    have HF4 := HF5
    clear HF5
    have s0 : w5.cell? ⟨ks, 0, none⟩ = some (.bool false) := hr5.cell 0
    have s1 : w5.cell? ⟨ks, 1, none⟩ = some (.int .i64 1) := hr5.cell 1
    have s2 : w5.cell? ⟨ks, 2, none⟩ = some (.slice none 0 0) := hr5.cell 2
    clear hr5
    go_wp2_with fail
    have hto := dto_p w ob ba oa (ob + 1) (ob + 1) f _ _ g nA w5 (.slice none 0 0) (fun _ => none) [] false HF4.out hlen (by simp) 0 false (leastV f, []) none 0 0 (TrV.nil _ _ _ _)
    rw [hlv] at hto
    refine hto.mono ?_
    clear hto
    rintro e w6 ⟨K', left', bad', vL', rfl, h6, hm6, hv6, hg6⟩
    have H0 : Hid (RunD w ob ba oa (ob + 1) f (.slice (some ⟨gF, oF, none⟩) nF kF) (.slice aR nR kR) l g nA w6 vL' (ob + 1) K' left' bad') := Lib.hid (dr_start h6 (by rw [hlv]; exact hg6) HNA.out)
    clear h6 hm6 hv6 hg6 s0 s1 s2 HF4 HK4 hlv hnf
    go_wp2_with fail
    go_loopw [9] (fun v9 wr => RunDW w ob ba oa (ob + 1) f (.slice (some ⟨gF, oF, none⟩) nF kF) (.slice aR nR kR) l g nA wr) (fun v9 wr => muD w ob ba oa (ob + 1) f (.slice (some ⟨gF, oF, none⟩) nF kF) (.slice aR nR kR) l g nA wr)
    case atStart => exact ⟨_, _, _, _, _, _, H0.out, rfl⟩
    case round =>
      clear H0
      obtain ⟨m0, hm0⟩ := hrel
      obtain ⟨⟨vL, top, K, left, bad, hS, hM⟩, hxx⟩ := leastM_spec hm0
      have HM : Hid (badN bad (2 * unl l.length K + left.length) = muD w ob ba oa (ob + 1) f (.slice (some ⟨gF, oF, none⟩) nF kF) (.slice aR nR kR) l g nA wr) := Lib.hid hM
      have HS := Lib.hid hS
      have k7 := hS.fl.cells.2.2.1
      have k8 := hS.fl.cells.2.2.2
      obtain ⟨aV, cV, rfl⟩ := hS.fl.lft.form
      obtain ⟨n, hn⟩ : ∃ y, y = left.length := ⟨_, rfl⟩
      have HN := Lib.hid hn
      rw [← hn] at k7
      clear hxx hm0 hM m0 hS hn
      cases bad with
      | true =>
        have hB : B = false := HBV.out.trans (runsV_no (HS.out.no rfl))
        have HBB := Lib.hid hB
        clear hB
        by_cases hn0 : n = 0
        · subst hn0
          go_wp2_with fail
          go_ret
          rw [HBB.out]
          exact ⟨rfl, HS.out.fl.bel⟩
        · have hn1 : (0 : Int) < n := by omega
          clear hn0
          go_wp2_with fail
          go_ret
          rw [HBB.out]
          exact ⟨rfl, HS.out.fl.bel⟩
      | false =>
        by_cases hn0 : n = 0
        · have hl0 : left = [] := List.eq_nil_of_length_eq_zero (HN.out.symm.trans hn0)
          have hB : B = true := HBV.out.trans (runsV_yes (by have h1 := (HS.out.yes rfl).1; rw [hl0] at h1; exact h1.ends))
          have HBB := Lib.hid hB
          clear hB hl0
          subst hn0
          go_wp2_with fail
          go_ret
          rw [HBB.out]
          exact ⟨rfl, HS.out.fl.bel⟩
        · have hn1 : (0 : Int) < n := by omega
          have hn2 : 0 < n := by omega
          clear hn0
          have hlast : ∃ p, left.getLast? = some p := by
            cases hl : left.getLast? with
            | none => have := HN.out; rw [List.getLast?_eq_none_iff.1 hl] at this; simp at this; omega
            | some p => exact ⟨p, rfl⟩
          obtain ⟨p, hlp⟩ := hlast
          have hsl0 : Sl wr 1 (.slice aV n cV) n (nats left) := by have h1 := HS.out.fl.lft.sl; rw [← HN.out] at h1; exact h1
          have hcap := hsl0.cap
          obtain ⟨b, off, u, rfl, hu, hc⟩ := hsl0.at (k := n - 1) (by omega)
          obtain ⟨z, rfl, hz⟩ := nats_at hu
          have hla := last_at hlp
          rw [← HN.out] at hla
          rw [hla] at hz
          cases hz
          have hpl : p ∈ left := List.mem_of_getLast? hlp
          have hI := (HS.out.yes rfl).1
          obtain ⟨s, hs⟩ : ∃ s, K p = some s := Option.ne_none_iff_exists'.1 (hI.lft p hpl)
          have hpn : p < l.length := hI.dom p s hs
          obtain ⟨x, hx⟩ : ∃ x, l[p]? = some x := ⟨_, List.getElem?_eq_getElem hpn⟩
          have HSS := Lib.hid hs
          have HX := Lib.hid hx
          have HLP := Lib.hid hlp
          have hcap1 := hcap.1
          have hcap2 := hcap.2.1
          have q7 := later_cell k7
          have qc := later_cell hc
          clear hlp hsl0 hcap hu hla hpl hI hs hx
          go_upto_region 7 with fail
          refine wp_region_idx Rb Rb_refl Rb_trans [(0,0),(0,1),(0,2),(0,3),(0,4),(0,5),(0,6),(0,7),(0,8),(0,9),(0,10),(0,11),(0,12)] (by kernel_rfl) (by kernel_rfl) (by kernel_rfl) ?_
          simp only [pickO, List.getD_cons_succ, List.getD_cons_zero]
          refine wpCan_seg 13 (by kernel_rfl) ?_
          simp only [List.take_succ_cons, List.take_zero, List.drop_succ_cons, List.drop_zero, List.map_cons, List.map_nil]
          iterate 13 (go_big_quiet_step (fail))
          refine wpQuiet_nil ?_
          unfold wpCan
          clear q7 qc k7 k8 hc
          obtain ⟨wd, hwd⟩ : ∃ y, y = wr.drew := ⟨_, rfl⟩
          have hfd : Hid (FlS w ob ba oa (ob + 1) top f (.slice (some ⟨gF, oF, none⟩) nF kF) (.slice aR nR kR) g nA wd (.slice (some ⟨b, off, none⟩) n cV) K left false) := Lib.hid (by rw [hwd]; have h1 := HS.out.fl.fresh (Below.refl wr.heap.size wr).drew; rw [← HN.out] at h1; exact h1)
          rw [← hwd]
          clear hwd
          have q7 := later_cell hfd.out.cells.2.2.1
          have hsl : ∀ x : Later Rb wd.drew, (Instr.slice 118 (.slice (some ⟨b, off, none⟩) n cV) none (some (.int .i64 ((n : Int) - 1))) none).run Tryd.prog x.w = .ok (.slice (some ⟨b, off, none⟩) (n - 1) cV) x.w := fun x => by
            have h1 := run_cut (P := Tryd.prog) x.w Tryd.underlying118 (by kernel_rfl) (some ⟨b, off, none⟩) n cV 0 (n - 1) cV none (some (.int .i64 ((n - 1 : Nat) : Int))) none (bounds_h _ _ _ _ _ (by omega))
            have h2 : cutAddr (some ⟨b, off, none⟩) cV 0 = some ⟨b, off, none⟩ := by
              unfold cutAddr
              split
              · rfl
              · simp [add_eq]
            rw [show ((n - 1 : Nat) : Int) = (n : Int) - 1 by omega, h2] at h1
            simpa using h1
          go_upto_region 8 with fail
          refine wp_region_idx Rb Rb_refl Rb_trans [(0,0),(0,1),(0,2),(0,3),(0,4),(0,5),(0,6),(0,7),(0,8),(0,9),(0,10),(0,11),(0,12),(0,13),(2,14)] (by kernel_rfl) (by kernel_rfl) (by kernel_rfl) ?_
          simp only [pickO, List.getD_cons_succ, List.getD_cons_zero]
          refine wpCan_seg 14 (by kernel_rfl) ?_
          simp only [List.take_succ_cons, List.take_zero, List.drop_succ_cons, List.drop_zero, List.map_cons, List.map_nil]
          iterate 14 (go_big_quiet_step (fail))
          refine wpQuiet_nil ?_
          clear q7 hsl
          obtain ⟨we, hwe⟩ : ∃ y, y = wd.drew := ⟨_, rfl⟩
          have hfe : Hid (FlS w ob ba oa (ob + 1) top f (.slice (some ⟨gF, oF, none⟩) nF kF) (.slice aR nR kR) g nA we (.slice (some ⟨b, off, none⟩) n cV) K left false) := Lib.hid (by rw [hwe]; exact hfd.out.fresh (Below.refl wd.heap.size wd).drew)
          rw [← hwe]
          clear hwe hfd
          have k7 := hfe.out.cells.2.2.1
          have z7 := hfe.out.row.free 7
          refine wpCan_list (k := 1) (fun KK hK => ?_) (fun h => by cases h)
          go_wp2_with fail
          refine hK _ _ (fun h => by cases h) ?_
          clear hK KK k7 z7
          unfold wpCan
          have HC6 := Lib.hid hfe.out.cut
          obtain ⟨w6, hw6⟩ : ∃ y, y = we.setCell ⟨ob, 7, none⟩ (.slice (some ⟨b, off, none⟩) (n - 1) cV) := ⟨_, rfl⟩
          rw [← hw6] at HC6 ⊢
          clear hw6 hfe
          have HDL : Hid (left.dropLast.length = left.length - 1 ∧ n = left.length) := Lib.hid ⟨List.length_dropLast, HN.out⟩
          have HH : Hid (StpD w ob ba oa (ob + 1) top f (some ⟨gF, oF, none⟩) nF kF aR nR kR c l g nA w6 (.slice (some ⟨b, off, none⟩) (n - 1) cV) K left.dropLast p x s) := Lib.hid (by
            obtain ⟨hI, hT, hL⟩ := HS.out.yes rfl
            have hb := hI.bnd p s HSS.out
            have ht := hT p s HSS.out
            have hd := HDL.out
            have hna := HNA.out
            refine ⟨HC6.out, HC.out, HF.out, HX.out, HSS.out, hI.tri p s HSS.out, HNA.out, hlen, by omega, hb.1, by omega, fun q t hq => ?_, by omega, by rw [hna]; exact HOP.out x (List.mem_of_getElem? HX.out), hF⟩
            have hb := hI.bnd q t hq
            omega)
          go_wp2_with fail
          refine (dstep_p w ob ba oa (ob + 1) top f (some ⟨gF, oF, none⟩) nF kF aR nR kR c l g nA w6 (.slice (some ⟨b, off, none⟩) (n - 1) cV) K left.dropLast p x s HH).mono ?_
          rintro e w7 ⟨K', left', bad', vL', top', rfl, h7, hm7, hv7, hg7⟩
          have HRD : Hid (RunD w ob ba oa (ob + 1) f (.slice (some ⟨gF, oF, none⟩) nF kF) (.slice aR nR kR) l g nA w7 vL' top' K' left' bad' ∧ badN bad' (2 * unl l.length K' + left'.length) < badN false (2 * unl l.length K + left.length)) := Lib.hid (by
            obtain ⟨hI, hT, hL⟩ := HS.out.yes rfl
            have hmem : ∀ q, q ∈ left ↔ q = p ∨ q ∈ left.dropLast := fun q => by
              have e1 := dropl left p HLP.out
              conv => lhs; rw [← e1]
              rw [List.mem_append, List.mem_singleton]
              exact Or.comm
            have hopx := HOP.out x (List.mem_of_getElem? HX.out)
            have hmx := op_moves hopx hF
            have hd := HDL.out
            cases hb : bad' with
            | false =>
              have hsv : stepV l f g K left.dropLast p x s = some (K', left') := by
                have h1 := hg7.out.1 hb
                unfold stepV
                rw [← HNA.out]
                exact h1
              obtain ⟨hinv, hdec⟩ := hI.step hmem HX.out hmx HSS.out hsv
              refine ⟨⟨by rw [← hb]; exact h7, fun _ => ⟨hinv, hT.step HSS.out hsv, by omega⟩, fun h => (by cases h)⟩, ?_⟩
              show 2 * unl l.length K' + left'.length + 1 < 2 * unl l.length K + left.length + 1
              omega
            | true =>
              have hsv : stepV l f g K left.dropLast p x s = none := by
                have h1 := hg7.out.2.1 hb
                unfold stepV
                rw [← HNA.out]
                exact h1
              refine ⟨⟨by rw [← hb]; exact h7, fun h => (by cases h), fun _ => hI.stuck HX.out HSS.out hsv⟩, ?_⟩
              show 0 < 2 * unl l.length K + left.length + 1
              omega)
          have HML : Hid (muD w ob ba oa (ob + 1) f (.slice (some ⟨gF, oF, none⟩) nF kF) (.slice aR nR kR) l g nA w7 < muD w ob ba oa (ob + 1) f (.slice (some ⟨gF, oF, none⟩) nF kF) (.slice aR nR kR) l g nA wr) := Lib.hid (by
            have h1 := (leastM_spec (P := RunDM w ob ba oa (ob + 1) f (.slice (some ⟨gF, oF, none⟩) nF kF) (.slice aR nR kR) l g nA w7) ⟨vL', top', K', left', bad', HRD.out.1, rfl⟩).2
            have h2 := HRD.out.2
            have h3 := HM.out
            show leastM _ < _
            omega)
          clear h7 hm7 hv7 hg7
          go_wp2_with fail
          exact ⟨⟨_, vL', top', K', left', bad', HRD.out.1, rfl⟩, HML.out⟩
end Go.Proofs.YtoddklfblcfoiaaDoor
namespace Go.Proofs.YtoddklfblcfoiaaDoor
open Go Go.RowKit
set_option linter.unusedVariables false
set_option linter.unusedSimpArgs false
set_option maxRecDepth 100000

/-- as far as operands are looked at -/
structure RcS (w0 : World) (aF : Option Addr) (nF kF : Nat) (aR : Option Addr) (nR kR : Nat) (w : World) : Prop where
  box : Row w w0.heap.size 25 [.slice aF nF kF, .slice aR nR kR]
  bel : Below w0.heap.size w0 w
theorem RcS.fresh {w0 : World} {aF : Option Addr} {nF kF : Nat} {aR : Option Addr} {nR kR : Nat} {w w' : World} (h : RcS w0 aF nF kF aR nR kR w) (hb : Below w.heap.size w w') : RcS w0 aF nF kF aR nR kR w' :=
  ⟨h.box.after hb, h.bel.trans (hb.mono h.bel.size)⟩
set_option maxHeartbeats 4000000 in
theorem rcheck_p (aF : Option Addr) (nF kF : Nat) (aR : Option Addr) (nR kR : Nat) (c : Cod) (w : World) (hc : CodM w (.slice aF nF kF) (.slice aR nR kR) c) (hF : nF ≤ 65536) (hlen : ∀ l ∈ c.f, l.length ≤ 1000000 ∧ ∀ x ∈ l, x.t.length ≤ 1000000) (hi : ∀ l ∈ c.f, ∀ x ∈ l, In64 x.b) (hR : nR ≤ 1000000) (hz : Hid (∀ x ∈ c.r, x.n.length ≤ 1000000 ∧ x.s.length ≤ 1000000)) (E : Int) (HE : Hid (E = checkE c)) :
    Calls Tryd.prog 21 #[.agg #[.slice aF nF kF, .slice aR nR kR]] w fun e w' => e = .returned (.int .i64 E) ∧ Below w.heap.size w w' := by
  have HNF : Hid (c.f.length = nF) := Lib.hid (by obtain ⟨⟨vs, h1, h2⟩, h3⟩ := hc; have := h1.cap; omega)
  have HNR : Hid (c.r.length = nR) := Lib.hid (by obtain ⟨_, h3⟩ := hc; have h4 := h3.cap.2.2.2; rw [flat_len staC 2 (fun _ => rfl)] at h4; omega)
  have HC := Lib.hid hc
  have HL := Lib.hid hlen
  have HI := Lib.hid hi
  clear hc hlen hi
  obtain ⟨w1, hw1⟩ : ∃ y, y = w.alloc (.cells #[.slice aF nF kF, .slice aR nR kR] 25) := ⟨_, rfl⟩
  have HS : Hid (RcS w aF nF kF aR nR kR w1) := Lib.hid (by rw [hw1]; exact ⟨Row.new w _ _, (Below.refl _ _).alloc (Nat.le_refl _) _⟩)
  have q0 : w1.cell? ⟨w.heap.size, 0, none⟩ = some (.slice aF nF kF) := HS.out.box.cell 0
  have q1 : w1.cell? ⟨w.heap.size, 1, none⟩ = some (.slice aR nR kR) := HS.out.box.cell 1
  go_enter Tryd.func21, Tryd.ntmps21
  go_upto_region 1 with fail
  rw [← hw1]
  clear hw1
  by_cases hn0 : nF = 0
  · have hE : Hid (E = 17) := Lib.hid (HE.out.trans (checkE_no (fun h => h.1 (List.eq_nil_of_length_eq_zero (HNF.out.trans hn0)))))
    have hb : ((nF : Int) == 0) = true := by rw [hn0]; rfl
    clear hn0
    go_wp2_with fail
    go_ret
    rw [hE.out]
    exact ⟨rfl, HS.out.bel⟩
  · have hb : ((nF : Int) == 0) = false := by rw [beq_eq_false_iff_ne]; omega
    obtain ⟨RB, hRB⟩ : ∃ y, y = rootedV c.r := ⟨_, rfl⟩
    have HRB := Lib.hid hRB
    clear hRB
    have hcm := HC.out.below HS.out.bel
    have hrt := rrooted_p aR nR kR c.r w1 (by have := hcm.2; rw [HNR.out] at this; exact this) hz RB HRB
    clear hcm
    cases RB with
    | false =>
      have hE : Hid (E = 17) := Lib.hid (HE.out.trans (checkE_no (fun h => by have := rootedV_yes h.2.1; rw [← HRB.out] at this; cases this)))
      go_wp2_with fail
      refine hrt.mono ?_
      rintro e w4 ⟨rfl, hb4⟩
      go_wp2_with fail
      go_ret
      rw [hE.out]
      exact ⟨rfl, (HS.out.fresh hb4).bel⟩
    | true =>
      go_wp2_with fail
      refine hrt.mono ?_
      rintro e w4 ⟨rfl, hb4⟩
      clear hrt q0 q1
      have HS4 := Lib.hid (HS.out.fresh hb4)
      clear hb4 HS
      go_wp2_with fail
      go_loopw [3] (fun v3 wr => ∃ i : Nat, i ≤ nF ∧ v3 = .int .i64 (i : Nat) ∧ Hid (RcS w aF nF kF aR nR kR wr ∧ OpsTo c i [] 0)) (fun v3 _ => nF - (RowKit.intOf v3).toNat)
      case atStart => exact ⟨0, Nat.zero_le _, rfl, Lib.hid ⟨HS4.out, ⟨fun q l h => by omega, fun x hx => by simp at hx⟩⟩⟩
      case round =>
        clear HS4
        obtain ⟨i, hi, rfl, HW⟩ := hrel
        have q0 : wr.cell? ⟨w.heap.size, 0, none⟩ = some (.slice aF nF kF) := HW.out.1.box.cell 0
        have q1 : wr.cell? ⟨w.heap.size, 1, none⟩ = some (.slice aR nR kR) := HW.out.1.box.cell 1
        by_cases hin : i = nF
        · have hin' : nF = i := hin.symm
          subst hin'
          clear hin hi
          have HO : Hid (OpsAll c) := Lib.hid (by have hO := HW.out.2; rw [← HNF.out] at hO; exact hO.all)
          have HSW := Lib.hid HW.out.1
          clear HW
          go_wp2_with fail
          refine (groups_p aF nF kF aR nR kR c wr (HC.out.below HSW.out.bel) hF (fun l hl => (HL.out l hl).1) (Lib.hid (fun l hl x hx h6 => by
            have h7 := HO.out l hl x hx
            rw [HNF.out] at h7
            have h8 := op_group h7 h6
            omega))).mono ?_
          rintro e w5 (⟨gs, b, bg, og, hG, rfl, hown, hb5⟩ | ⟨hno, rfl, hb5⟩)
          · have HG := Lib.hid hG.out.2.2.1
            have HGR := Lib.hid hG.out.1
            have HGM := Lib.hid hG.out.2.1
            have HGL := Lib.hid hG.out.2.2.2
            obtain ⟨kb, hkb⟩ : ∃ y, y = wr.heap.size := ⟨_, rfl⟩
            rw [← hkb] at hown
            have HO5 := Lib.hid hown
            have HS5 := Lib.hid (HSW.out.fresh hb5)
            clear hkb hG hown hb5 HSW q0 q1
            go_wp2_with fail
            go_loopw [7] (fun v7 wr2 => ∃ q : Nat, q ≤ nF ∧ v7 = .int .i64 (q : Nat) ∧ Hid (RcS w aF nF kF aR nR kR wr2 ∧ Own wr2 kb 3 (.slice (some ⟨bg, og, none⟩) nF nF) nF (gCells gs) ∧ ∀ p, p < q → ∀ l, c.f[p]? = some l → RunsP l p (insOr (b p)))) (fun v7 _ => nF - (RowKit.intOf v7).toNat)
            case atStart => exact ⟨0, Nat.zero_le _, rfl, Lib.hid ⟨HS5.out, HO5.out, fun p hp => by omega⟩⟩
            case round =>
              clear HS5 HO5
              obtain ⟨q, hq, rfl, HQ⟩ := hrel
              have q0 : wr.cell? ⟨w.heap.size, 0, none⟩ = some (.slice aF nF kF) := HQ.out.1.box.cell 0
              have q1 : wr.cell? ⟨w.heap.size, 1, none⟩ = some (.slice aR nR kR) := HQ.out.1.box.cell 1
              by_cases hqn : q = nF
              · have hqn' : nF = q := hqn.symm
                subst hqn'
                have hE : Hid (E = 0) := Lib.hid (HE.out.trans (checkE_yes ⟨fun h => hn0 (by rw [← HNF.out, h]; rfl), (rootedV_spec HRB.out).1 rfl, HO.out, b, HGR.out, fun f h1 h2 => HGM.out f h1 (by rw [← HNF.out]; exact h2), fun p l hl => HQ.out.2.2 p (by rw [← HNF.out]; exact (List.getElem?_eq_some_iff.1 hl).1) l hl⟩))
                go_wp2_with fail
                go_ret
                rw [hE.out]
                exact ⟨rfl, HQ.out.1.bel⟩
              · have hqlt : q < nF := by omega
                have hqlt' : (q : Int) < nF := by omega
                obtain ⟨l, hl⟩ : ∃ l, c.f[q]? = some l := ⟨_, List.getElem?_eq_getElem (by rw [HNF.out]; exact hqlt)⟩
                have hgq := HG.out.1 q (by rw [HGL.out]; exact hqlt)
                have hgc : ∀ k v, k < 3 → (gC (insOr (b q)))[k]? = some v → wr.cell? ⟨bg, og + q * 3 + k, none⟩ = some v := fun k v hk hv => by
                  have h1 := HQ.out.2.1.get (q * 3 + k) (by unfold gCells; rw [flat_len gC 3 gC_len, HGL.out]; omega)
                  have h2 := flat_get gC 3 gC_len gs q k _ hgq hk
                  rw [Nat.add_assoc, h1]
                  unfold gCells
                  rw [h2, hv]
                have c0 := later_cell (hgc 0 _ (by decide) rfl)
                have c1 := later_cell (hgc 1 _ (by decide) rfl)
                have c2 := later_cell (hgc 2 _ (by decide) rfl)
                simp only [Nat.add_zero] at c0
                have p0 := later_cell q0
                have p1 := later_cell q1
                obtain ⟨RV, hRV⟩ : ∃ y, y = runsV l q (insOr (b q)) := ⟨_, rfl⟩
                have HRV := Lib.hid hRV
                have HLQ := Lib.hid hl
                have HNO : Hid (RV = false → E = 17) := Lib.hid (fun h => HE.out.trans (checkE_no (fun hp => by
                  obtain ⟨_, _, _, b', h1, h2, h3⟩ := hp
                  rw [HGR.out] at h1
                  cases h1
                  have := runsV_yes (h3 q l HLQ.out)
                  rw [← HRV.out, h] at this
                  cases this)))
                clear hl hgq hgc hRV
                go_upto_region 17 with fail
                clear q0 q1
                refine wp_region_idx Rb Rb_refl Rb_trans [(0,0),(0,1),(0,2),(0,3),(0,4),(0,5),(1,6),(0,7)] (by kernel_rfl) (by kernel_rfl) (by kernel_rfl) ?_
                simp only [pickO, List.getD_cons_succ, List.getD_cons_zero]
                refine wpCan_seg 6 (by kernel_rfl) ?_
                simp only [List.take_succ_cons, List.take_zero, List.drop_succ_cons, List.drop_zero, List.map_cons, List.map_nil]
                iterate 6 (go_big_quiet_step (fail))
                refine wpQuiet_nil ?_
                clear p0 p1 c0 c1 c2
                refine wpCan_list (k := 0) (fun KK hK => ?_) (fun _ => Rb_refl _)
                go_wp2_with fail
                refine (druns_p aF nF kF aR nR kR c q l (insOr (b q)) wr.drew (HC.out.below (HQ.out.1.fresh (Below.refl _ _).drew).bel) HLQ.out hF (HL.out l (List.mem_of_getElem? HLQ.out)).1 (fun x hx => by have := HO.out l (List.mem_of_getElem? HLQ.out) x hx; rw [HNF.out, HNR.out] at this; exact this) RV HRV).mono ?_
                rintro e w6 ⟨rfl, hb6⟩
                have HB6 := Lib.hid ((Below.refl wr.heap.size wr).drew.trans hb6)
                go_wp2_with fail
                refine hK _ _ (fun _ => hb6) ?_
                clear hK KK hb6
                refine wpCan_seg 1 (by kernel_rfl) ?_
                simp only [List.take_succ_cons, List.take_zero, List.drop_succ_cons, List.drop_zero, List.map_cons, List.map_nil]
                iterate 1 (go_big_quiet_step (fail))
                refine wpQuiet_nil ?_
                unfold wpCan
                cases RV with
                | false =>
                  go_wp2_with fail
                  go_ret
                  rw [HNO.out (by trivial)]
                  exact ⟨rfl, (HQ.out.1.fresh HB6.out).bel⟩
                | true =>
                  have HQ2 : Hid (RcS w aF nF kF aR nR kR w6 ∧ Own w6 kb 3 (.slice (some ⟨bg, og, none⟩) nF nF) nF (gCells gs) ∧ ∀ p, p < q + 1 → ∀ l, c.f[p]? = some l → RunsP l p (insOr (b p))) := Lib.hid ⟨HQ.out.1.fresh HB6.out, HQ.out.2.1.below HB6.out, fun p hp l' hl' => by
                    by_cases hpq : p = q
                    · subst hpq
                      rw [HLQ.out] at hl'
                      cases hl'
                      exact (runsV_spec HRV.out).1 rfl
                    · exact HQ.out.2.2 p (by omega) l' hl'⟩
                  go_wp2_with fail
                  exact ⟨⟨q + 1, by omega, by go_num, HQ2⟩, by simp [RowKit.intOf]; omega⟩
          · have hE : Hid (E = 17) := Lib.hid (HE.out.trans (checkE_no (fun hp => by
              obtain ⟨_, _, _, b', h1, h2, h3⟩ := hp
              exact hno b' h1 (fun f h4 h5 => h2 f h4 (by rw [HNF.out]; exact h5)))))
            have HB9 := Lib.hid (HSW.out.fresh hb5).bel
            clear hno hb5 q0 q1
            go_wp2_with fail
            go_ret
            rw [hE.out]
            exact ⟨rfl, HB9.out⟩
        · have hilt : i < nF := by omega
          have hilt' : (i : Int) < nF := by omega
          obtain ⟨l, hl⟩ : ∃ l, c.f[i]? = some l := ⟨_, List.getElem?_eq_getElem (by rw [HNF.out]; exact hilt)⟩
          have HLI := Lib.hid hl
          obtain ⟨gF, oF, aL, cL, rfl, hcell0, hsl⟩ := HC.out.fun_at i l hl
          have HSL := Lib.hid hsl
          obtain ⟨nL, hnL⟩ : ∃ y, y = l.length := ⟨_, rfl⟩
          have HNL := Lib.hid hnL
          have hlen9 := (HL.out l (List.mem_of_getElem? hl)).1
          rw [← hnL] at hcell0 hlen9
          have HCELL := Lib.hid hcell0
          have hcell := (HW.out.1.bel.cell (lt_of_cell hcell0)).trans hcell0
          have HW1 : Hid (RcS w (some ⟨gF, oF, none⟩) nF kF aR nR kR wr ∧ OpsTo c i l 0) := Lib.hid ⟨HW.out.1, ⟨HW.out.2.1, fun x hx => by simp at hx⟩⟩
          clear hl hsl hnL HW hcell0
          go_wp2_with fail
          clear q0 q1 hcell
          go_loopw [4] (fun v4 wr2 => ∃ j : Nat, j ≤ nL ∧ v4 = .int .i64 (j : Nat) ∧ Hid (RcS w (some ⟨gF, oF, none⟩) nF kF aR nR kR wr2 ∧ OpsTo c i l j)) (fun v4 _ => nL - (RowKit.intOf v4).toNat)
          case atStart => exact ⟨0, Nat.zero_le _, rfl, HW1⟩
          case round =>
            clear HW1
            obtain ⟨j, hj, rfl, HJ⟩ := hrel
            have q0 : wr.cell? ⟨w.heap.size, 0, none⟩ = some (.slice (some ⟨gF, oF, none⟩) nF kF) := HJ.out.1.box.cell 0
            have q1 : wr.cell? ⟨w.heap.size, 1, none⟩ = some (.slice aR nR kR) := HJ.out.1.box.cell 1
            have hcell := (HJ.out.1.bel.cell (lt_of_cell HCELL.out)).trans HCELL.out
            by_cases hjn : j = nL
            · subst hjn
              go_wp2_with fail
              refine ⟨⟨i + 1, by omega, by go_num, Lib.hid ⟨HJ.out.1, ?_⟩⟩, by simp [RowKit.intOf]; omega⟩
              have h4 := HJ.out.2
              rw [HNL.out] at h4
              exact h4.next HLI.out []
            · have hjlt : j < nL := by omega
              have hjlt' : (j : Int) < nL := by omega
              obtain ⟨b5, o5, x, rfl, hx, hc5⟩ := (HSL.out.below HJ.out.1.bel).elem insC insC_len (by decide) j (by rw [← HNL.out]; exact hjlt)
              have d0 := later_cell (hc5 0 _ rfl)
              have d1 := later_cell (hc5 1 _ rfl)
              have d2 := later_cell (hc5 2 _ rfl)
              have d3 := later_cell (hc5 3 _ rfl)
              have d4 := later_cell (hc5 4 _ rfl)
              simp only [Nat.add_zero] at d0
              have p0 := later_cell q0
              have p1 := later_cell q1
              have pf := later_cell hcell
              have HX := Lib.hid hx
              obtain ⟨OB, hOB⟩ : ∃ y, y = opB nF nR l.length x := ⟨_, rfl⟩
              have HOB := Lib.hid hOB
              clear hx hc5 hOB
              go_upto_region 9 with fail
              clear q0 q1 hcell
              refine wp_region_idx Rb Rb_refl Rb_trans [(0,0),(0,1),(0,2),(0,3),(0,4),(0,5),(0,6),(0,7),(0,8),(0,9),(1,10),(0,11)] (by kernel_rfl) (by kernel_rfl) (by kernel_rfl) ?_
              simp only [pickO, List.getD_cons_succ, List.getD_cons_zero]
              refine wpCan_seg 10 (by kernel_rfl) ?_
              simp only [List.take_succ_cons, List.take_zero, List.drop_succ_cons, List.drop_zero, List.map_cons, List.map_nil]
              iterate 10 (go_big_quiet_step (fail))
              refine wpQuiet_nil ?_
              clear p0 p1 pf d0 d1 d2 d3 d4
              refine wpCan_list (k := 0) (fun KK hK => ?_) (fun _ => Rb_refl _)
              go_wp2_with fail
              refine (roperands_p (some ⟨gF, oF, none⟩) nF kF aR nR kR c i l x wr.drew (HC.out.below (HJ.out.1.fresh (Below.refl _ _).drew).bel) HLI.out hF hR (by rw [← HNL.out]; exact hlen9) ((HL.out l (List.mem_of_getElem? HLI.out)).2 x (List.mem_of_getElem? HX.out)) (HI.out l (List.mem_of_getElem? HLI.out) x (List.mem_of_getElem? HX.out)) OB HOB).mono ?_
              rintro e w6 ⟨rfl, hb6⟩
              have HB6 := Lib.hid ((Below.refl wr.heap.size wr).drew.trans hb6)
              go_wp2_with fail
              refine hK _ _ (fun _ => hb6) ?_
              clear hK KK hb6
              refine wpCan_seg 1 (by kernel_rfl) ?_
              simp only [List.take_succ_cons, List.take_zero, List.drop_succ_cons, List.drop_zero, List.map_cons, List.map_nil]
              iterate 1 (go_big_quiet_step (fail))
              refine wpQuiet_nil ?_
              unfold wpCan
              cases OB with
              | false =>
                have HE17 : Hid (E = 17) := Lib.hid (HE.out.trans (checkE_no (fun hp => by
                  have := hp.2.2.1 l (List.mem_of_getElem? HLI.out) x (List.mem_of_getElem? HX.out)
                  rw [HNF.out, HNR.out, ← HOB.out] at this
                  cases this)))
                go_wp2_with fail
                go_ret
                rw [HE17.out]
                exact ⟨rfl, (HJ.out.1.fresh HB6.out).bel⟩
              | true =>
                have HW8 : Hid (RcS w (some ⟨gF, oF, none⟩) nF kF aR nR kR w6 ∧ OpsTo c i l (j + 1)) := Lib.hid ⟨HJ.out.1.fresh HB6.out, HJ.out.2.more HX.out (by rw [HNF.out, HNR.out]; exact HOB.out.symm)⟩
                go_wp2_with fail
                exact ⟨⟨j + 1, by omega, by go_num, HW8⟩, by simp [RowKit.intOf]; omega⟩
end Go.Proofs.YtoddklfblcfoiaaDoor
namespace Go.Proofs.YtoddklfblcfoiaaDoor
open Go Go.RowKit
set_option linter.unusedVariables false
set_option linter.unusedSimpArgs false
set_option maxRecDepth 100000

theorem later_cell1 {w : World} {b o : Nat} {v : Value} (h : w.cell? ⟨b, o, none⟩ = some v) : ∀ x : Later Rb w, x.w.cell? ⟨b, o, none⟩ = some v :=
  fun x => (Below.cell (p := ⟨b, o, none⟩) x.later (lt_of_cell h)).trans h
/-- what the law was handed, in some later world -/
structure ChS (W : World) (k : Nat) (aF : Option Addr) (nF kF : Nat) (aR : Option Addr) (nR kR : Nat) (c : Cod) (w : World) : Prop where
  box : Row w k 25 [.slice aF nF kF, .slice aR nR kR]
  cod : CodM w (.slice aF nF kF) (.slice aR nR kR) c
  bel : Below W.heap.size W w
theorem ChS.fresh {W : World} {k : Nat} {aF : Option Addr} {nF kF : Nat} {aR : Option Addr} {nR kR : Nat} {c : Cod} {w w' : World} (h : ChS W k aF nF kF aR nR kR c w) (hb : Below w.heap.size w w') : ChS W k aF nF kF aR nR kR c w' :=
  ⟨h.box.after hb, h.cod.below hb, h.bel.trans (hb.mono h.bel.size)⟩
set_option maxHeartbeats 4000000 in
theorem law_checks (aF : Option Addr) (nF kF : Nat) (aR : Option Addr) (nR kR : Nat) (c : Cod) (W : World) (hc : CodM W (.slice aF nF kF) (.slice aR nR kR) c) (HZ : Hid (CodZ c)) (HI : Hid (CodI c)) (h : ∃ b fuel n, PrimsR W b fuel n) :
    Calls Tryd.prog 4 #[.agg #[.slice aF nF kF, .slice aR nR kR]] W fun e w' => e = .returned (.bool true) ∧ Below W.heap.size W w' := by
  obtain ⟨pb, fuel, pn, hP⟩ := h
  have HP0 := Lib.hid hP
  have HNF : Hid (c.f.length = nF) := Lib.hid (by obtain ⟨⟨vs, h1, h2⟩, h3⟩ := hc; have := h1.cap; omega)
  have HNR : Hid (c.r.length = nR) := Lib.hid (by obtain ⟨_, h3⟩ := hc; have h4 := h3.cap.2.2.2; rw [flat_len staC 2 (fun _ => rfl)] at h4; omega)
  obtain ⟨k, hk⟩ : ∃ y, y = W.heap.size := ⟨_, rfl⟩
  obtain ⟨w1, hw1⟩ : ∃ y, y = W.alloc (.cells #[.slice aF nF kF, .slice aR nR kR] 25) := ⟨_, rfl⟩
  have HS1 : Hid (ChS W k aF nF kF aR nR kR c w1) := Lib.hid (by
    have hb1 : Below W.heap.size W w1 := by rw [hw1]; exact (Below.refl _ _).alloc (Nat.le_refl _) _
    exact ⟨by rw [hw1, hk]; exact Row.new W _ _, hc.below hb1, hb1⟩)
  obtain ⟨B, hB⟩ : ∃ y, y = decide (3000 < sizeV c) := ⟨_, rfl⟩
  have HB := Lib.hid hB
  clear hP hB hc
  have hlg := large_p aF nF kF aR nR kR c w1 HS1.out.cod HZ B HB
  have q0 : w1.cell? ⟨k, 0, none⟩ = some (.slice aF nF kF) := HS1.out.box.cell 0
  have q1 : w1.cell? ⟨k, 1, none⟩ = some (.slice aR nR kR) := HS1.out.box.cell 1
  go_enter Tryd.func4, Tryd.ntmps4
  go_upto_region 1 with fail
  rw [← hw1, ← hk]
  clear hw1 hk
  go_upto_region 2 with fail
  refine hlg.mono ?_
  rintro e w2 ⟨rfl, hb2⟩
  clear hlg q0 q1
  have HS := Lib.hid (HS1.out.fresh hb2)
  clear HS1 hb2
  cases B with
  | true =>
    have hwk := works_p W pb fuel pn HP0 _ (Lib.hid HS.out.bel)
    go_wp2_with fail
    refine hwk.mono ?_
    rintro e wz ⟨rfl, hbz⟩
    clear hwk
    go_wp2_with fail
    go_ret
    exact ⟨rfl, HS.out.bel.trans (hbz.mono HS.out.bel.size)⟩
  | false =>
    have HSM : Hid (sizeV c ≤ 3000) := Lib.hid (by have := of_decide_eq_false HB.out.symm; omega)
    clear HB
    have HSZ := Lib.hid (size_small HSM.out)
    have HCL : Hid ((codL c).length ≤ 1000000000) := Lib.hid (Nat.le_trans (codL_small HSM.out) (by decide))
    have q0 : w2.cell? ⟨k, 0, none⟩ = some (.slice aF nF kF) := HS.out.box.cell 0
    have q1 : w2.cell? ⟨k, 1, none⟩ = some (.slice aR nR kR) := HS.out.box.cell 1
    have hwr := rwrite_p aF nF kF aR nR kR c w2 HS.out.cod HCL
    go_upto_region 4 with fail
    refine hwr.mono ?_
    rintro e w3 ⟨v3, rfl, ho3, hb3⟩
    clear hwr q0 q1
    obtain ⟨m, hm⟩ : ∃ y, y = (codL c).length := ⟨_, rfl⟩
    have hm9 : m ≤ 1000000000 := by rw [hm]; exact HCL.out
    rw [← hm] at ho3
    have HM := Lib.hid hm
    obtain ⟨a3, c3, rfl⟩ := ho3.form
    have HS3 := Lib.hid (HS.out.fresh hb3)
    have HO3 := Lib.hid ho3.sl
    clear HS hb3 ho3 hm
    obtain ⟨E, hE⟩ : ∃ y, y = checkE c := ⟨_, rfl⟩
    have HE := Lib.hid hE
    clear hE
    have hee : (E == E) = true := by simp
    have hF : nF ≤ 65536 := by have := HSZ.out.1; have := HNF.out; omega
    have hR : nR ≤ 1000000 := by have := HSZ.out.2.1; have := HNR.out; omega
    have HLN : Hid (∀ l ∈ c.f, l.length ≤ 1000000 ∧ ∀ x ∈ l, x.t.length ≤ 1000000) := Lib.hid (fun l hl => ⟨by have := (HSZ.out.2.2.1 l hl).1; omega, fun x hx => by have := (HSZ.out.2.2.1 l hl).2 x hx; omega⟩)
    have HRZ : Hid (∀ x ∈ c.r, x.n.length ≤ 1000000 ∧ x.s.length ≤ 1000000) := Lib.hid (fun x hx => by have := HSZ.out.2.2.2 x hx; omega)
    go_upto_region 4 with fail
    have q0 := later_cell (show w3.cell? ⟨k, 0, none⟩ = some (.slice aF nF kF) from HS3.out.box.cell 0)
    have q1 := later_cell (show w3.cell? ⟨k, 1, none⟩ = some (.slice aR nR kR) from HS3.out.box.cell 1)
    refine wp_region_idx Rb Rb_refl Rb_trans [(0,0),(0,2),(1,1),(1,3),(0,4),(0,5),(0,6),(0,7),(1,8),(1,9),(0,10),(0,11),(1,12),(0,13),(0,14)] (by kernel_rfl) (by kernel_rfl) (by kernel_rfl) ?_
    simp only [pickO, List.getD_cons_succ, List.getD_cons_zero]
    refine wpCan_seg 2 (by kernel_rfl) ?_
    simp only [List.take_succ_cons, List.take_zero, List.drop_succ_cons, List.drop_zero, List.map_cons, List.map_nil]
    iterate 2 (go_big_quiet_step (fail))
    refine wpQuiet_nil ?_
    clear q0 q1
    obtain ⟨wd, hwd⟩ : ∃ y, y = w3.drew := ⟨_, rfl⟩
    have HSd : Hid (ChS W k aF nF kF aR nR kR c wd) := Lib.hid (by rw [hwd]; exact HS3.out.fresh (Below.refl _ _).drew)
    have HOd : Hid (Sl wd 1 (.slice a3 m c3) m (bvs (codL c))) := Lib.hid (by rw [hwd]; exact HO3.out.below (Below.refl _ _).drew)
    rw [← hwd]
    clear hwd HS3 HO3
    refine wpCan_list (k := 0) (fun KK hK => ?_) (fun _ => Rb_refl _)
    have hck := check_p W pb fuel pn HP0 aF nF kF aR nR kR c wd (Lib.hid HSd.out.bel) HSd.out.cod hF HLN.out hR E HE
    go_wp2_with fail
    refine hck.mono ?_
    rintro e w4 ⟨rfl, hb4⟩
    clear hck
    have HS4 := Lib.hid (HSd.out.fresh hb4)
    have HO4 := Lib.hid (HOd.out.below hb4)
    go_wp2_with fail
    refine hK _ _ (fun _ => hb4) ?_
    clear hK KK hb4 HSd HOd
    refine wpCan_list (k := 0) (fun KK hK => ?_) (fun _ => Rb_refl _)
    have hck := rcheck_p aF nF kF aR nR kR c w4 HS4.out.cod hF HLN.out (fun l hl x hx => (HI.out l hl x hx).2.1) hR HRZ E HE
    go_wp2_with fail
    refine hck.mono ?_
    rintro e w5 ⟨rfl, hb5⟩
    clear hck
    have HS5 := Lib.hid (HS4.out.fresh hb5)
    have HO5 := Lib.hid (HO4.out.below hb5)
    go_wp2_with fail
    refine hK _ _ (fun _ => hb5) ?_
    clear hK KK hb5 HS4 HO4
    have q0 := later_cell1 (show w5.cell? ⟨k, 0, none⟩ = some (.slice aF nF kF) from HS5.out.box.cell 0)
    have q1 := later_cell1 (show w5.cell? ⟨k, 1, none⟩ = some (.slice aR nR kR) from HS5.out.box.cell 1)
    refine wpCan_seg 4 (by kernel_rfl) ?_
    simp only [List.take_succ_cons, List.take_zero, List.drop_succ_cons, List.drop_zero, List.map_cons, List.map_nil]
    iterate 4 (go_big_quiet_step (fail))
    refine wpQuiet_nil ?_
    clear q0 q1
    refine wpCan_list (k := 0) (fun KK hK => ?_) (fun _ => Rb_refl _)
    have hwr := rwrite_p aF nF kF aR nR kR c w5 HS5.out.cod HCL
    go_wp2_with fail
    refine hwr.mono ?_
    rintro e w6 ⟨v6, rfl, ho6, hb6⟩
    clear hwr
    rw [← HM.out] at ho6
    obtain ⟨a6, c6, rfl⟩ := ho6.form
    have HS6 := Lib.hid (HS5.out.fresh hb6)
    have HO6 := Lib.hid (HO5.out.below hb6)
    have HW6 := Lib.hid ho6.sl
    have HRL : Hid (Rb w5 w6) := Lib.hid hb6
    clear HS5 HO5 ho6 hb6
    go_wp2_with fail
    refine hK _ _ (fun _ => HRL.out) ?_
    clear hK KK HRL
    refine wpCan_list (k := 0) (fun KK hK => ?_) (fun _ => Rb_refl _)
    have heq : Calls Tryd.prog 16 #[.slice a3 m c3, .slice a6 m c6] w6 fun e w' => e = .returned (.bool true) ∧ Below w6.heap.size w6 w' :=
      (eqb_any a3 m c3 a6 m c6 (codL c) (codL c) w6 HO6.out HW6.out (by omega) (by omega)).mono (fun e w' h => by rw [decide_eq_true rfl] at h; exact h)
    go_wp2_with fail
    refine heq.mono ?_
    rintro e w7 ⟨rfl, hb7⟩
    clear heq
    have HS7 := Lib.hid (HS6.out.fresh hb7)
    have HRL : Hid (Rb w6 w7) := Lib.hid hb7
    clear HS6 HO6 HW6 hb7
    go_wp2_with fail
    refine hK _ _ (fun _ => HRL.out) ?_
    clear hK KK HRL
    refine wpCan_seg 2 (by kernel_rfl) ?_
    simp only [List.take_succ_cons, List.take_zero, List.drop_succ_cons, List.drop_zero, List.map_cons, List.map_nil]
    iterate 2 (go_big_quiet_step (fail))
    refine wpQuiet_nil ?_
    refine wpCan_list (k := 0) (fun KK hK => ?_) (fun _ => Rb_refl _)
    have hwk := works_p W pb fuel pn HP0 w7 (Lib.hid HS7.out.bel)
    go_wp2_with fail
    refine hwk.mono ?_
    rintro e w8 ⟨rfl, hb8⟩
    clear hwk
    have HS8 := Lib.hid (HS7.out.fresh hb8)
    have HRL : Hid (Rb w7 w8) := Lib.hid hb8
    clear HS7 hb8
    go_wp2_with fail
    refine hK _ _ (fun _ => HRL.out) ?_
    clear hK KK HRL
    refine wpCan_seg 2 (by kernel_rfl) ?_
    simp only [List.take_succ_cons, List.take_zero, List.drop_succ_cons, List.drop_zero, List.map_cons, List.map_nil]
    iterate 2 (go_big_quiet_step (fail))
    refine wpQuiet_nil ?_
    unfold wpCan
    go_wp2_with fail
    go_ret
    exact ⟨rfl, HS8.out.bel⟩
theorem checks_top (cs : Array Value) (d : List (List DIns) × List DSta) (W : World) (h0 : VCod W cs.toList d) (h : ∃ b fuel n, PrimsR W b fuel n) :
    Calls Tryd.prog 4 #[.agg cs] W fun e w' => e = .returned (.bool true) ∧ Below W.heap.size W w' := by
  obtain ⟨aF, nF, kF, aR, nR, kR, c, hcs, hc, hz, hi⟩ := cod_open h0
  obtain rfl : cs = #[.slice aF nF kF, .slice aR nR kR] := by cases cs; simp_all
  exact law_checks aF nF kF aR nR kR c W hc (Lib.hid hz) (Lib.hid hi) h
end Go.Proofs.YtoddklfblcfoiaaDoor
