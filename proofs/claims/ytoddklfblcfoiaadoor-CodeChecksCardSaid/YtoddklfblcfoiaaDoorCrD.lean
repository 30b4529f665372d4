/-
  The document's walk through a function: its memory; same, more, floor walked. Condition: code within a machine's reach.
-/
import Derived.Test.YtoddklfblcfoiaaDoorCrC
import Derived.Test.YtoddklfblcfoiaaDoorCoW
namespace Go.Proofs.YtoddklfblcfoiaaDoor
open Go Go.RowKit Go.Maps
set_option linter.unusedVariables false
set_option linter.unusedSimpArgs false
set_option maxRecDepth 100000

abbrev StD := Bool × StR
def sdC (y : StD) : List Value := [.bool y.1, .int .i64 y.2.1, sliceOf y.2]
def sdCells (l : List StD) : List Value := l.flatMap sdC
def sd0 : StD := (false, (0, none, 0, 0))
theorem sdC_len (y : StD) : (sdC y).length = 3 := rfl
theorem sd_set : ∀ (l : List StD) (k : Nat) (x : StD), k < l.length → splice (sdCells l) (k * 3) (sdC x) = sdCells (l.set k x)
  | y :: l, 0, x, _ => by simp [splice, sdCells, sdC]
  | y :: l, k + 1, x, h => by
    have ih := sd_set l k x (by simpa using h)
    rw [List.set_cons_succ]
    show splice ([_, _, _] ++ sdCells l) ((k + 1) * 3) _ = [_, _, _] ++ sdCells (l.set k x)
    rw [← ih]
    unfold splice
    have hl : (sdC x).length = 3 := rfl
    rw [show (k + 1) * 3 = k * 3 + 3 by omega, hl, show k * 3 + 3 + 3 = (k * 3 + 3) + 3 from rfl]
    generalize k * 3 = q
    generalize sdCells l = t
    rfl
theorem made_sd (n : Nat) : (madeCells #[.bool false, .int .i64 0, .slice none 0 0] (n * 3)).toList = sdCells (List.replicate n sd0) := by
  apply List.ext_getElem?
  intro j
  by_cases hj : j < n * 3
  · have h1 : j / 3 < n := by omega
    have h2 := flat_get sdC 3 sdC_len (List.replicate n sd0) (j / 3) (j % 3) sd0 (by rw [List.getElem?_replicate, if_pos h1]) (Nat.mod_lt _ (by decide))
    rw [show j / 3 * 3 + j % 3 = j by omega] at h2
    unfold sdCells
    rw [h2]
    have h3 : (madeCells #[.bool false, .int .i64 0, .slice none 0 0] (n * 3)).toList[j]? = some ((#[Value.bool false, .int .i64 0, .slice none 0 0] : Array Value)[j % 3]!) := by
      simp [madeCells, hj]
    rw [h3]
    have h4 : j % 3 = 0 ∨ j % 3 = 1 ∨ j % 3 = 2 := by omega
    rcases h4 with e | e | e <;> rw [e] <;> rfl
  · have h1 : (sdCells (List.replicate n sd0)).length = n * 3 := by unfold sdCells; rw [flat_len sdC 3 sdC_len, List.length_replicate]
    have h2 : (sdCells (List.replicate n sd0))[j]? = none := List.getElem?_eq_none (by rw [h1]; omega)
    have h3 : (madeCells #[.bool false, .int .i64 0, .slice none 0 0] (n * 3)).toList[j]? = none := List.getElem?_eq_none (by simp [size_madeCells]; omega)
    rw [h2, h3]
theorem wpL_makeSD {P : Program} {w : World} {ops : Array Oper} {rest : List Oper} {o : Oper} {a : Act} {Q : Exit → Act → World → Prop} {t e : TypeId} {bytes : Nat} (hT : ET P t e (.agg #[.bool false, .int .i64 0, .slice none 0 0]) 3 bytes)
    (hgd : o.guard = none) (l c : Operand) (ho : o.op = .makeSlice t l c) (n : Nat) (base : Nat) {kl kc : IntKind} {L C : Int} (hl : a.eval l = .int kl L) (hc : a.eval c = .int kc C) (hL : L = (n : Int)) (hC : C = (n : Int))
    (b2 : bytes * n ≤ 281474976710656) (b3 : n ≤ maxLen) (b4 : base ≤ w.heap.size)
    (h : ∀ g off w', Own w' base 3 (.slice (some ⟨g, off, none⟩) n n) n (sdCells (List.replicate n sd0)) → Below w.heap.size w w' → w.heap.size ≤ g → wpList P ops Q rest (a.put o.dst (.slice (some ⟨g, off, none⟩) n n)) w') : wpList P ops Q (o :: rest) a w := by
  obtain ⟨i, hi, hz0, hz1, hz2⟩ := info_parts hT.info
  refine wpList_make_full w hgd l c t ho base e i _ 3 hT.und hi hz0 hz1 kl kc L C n hl hc hL hC (by rw [hz2]; exact b2) b3 b4 ?_
  intro w' h1 h2
  have e1 : (Value.agg #[.bool false, .int .i64 0, .slice none 0 0]).cells = #[.bool false, .int .i64 0, .slice none 0 0] := by rfl
  rw [e1, made_sd] at h1
  exact h _ _ w' (Own.ofRow h1) (below_of_grown0 h2) (Nat.le_refl _)
/-- the states that are known, in an array -/
def KnD (w : World) (ba oa base top : Nat) (B : Option Nat) (nA : Nat) (K : Lab) : Prop :=
  ∃ sts : List StD, sts.length = nA ∧ Own w 0 3 (.slice (some ⟨ba, oa, none⟩) nA nA) nA (sdCells sts) ∧ (∀ p s, K p = some s → ∃ y, sts[p]? = some (true, y) ∧ y.1 = s.1 ∧ TrV w base top B (sliceOf y) s.2) ∧ ∀ p, p < nA → K p = none → ∃ y, sts[p]? = some (false, y)
theorem KnD.mods {w w' : World} {ba oa base top : Nat} {B B' : Option Nat} {nA : Nat} {K : Lab} {P : Nat → Prop} (h : KnD w ba oa base top B nA K) (ht : top ≤ w.heap.size) (hm : Mods P w w') (hP : ∀ g, base ≤ g → g < top → some g ≠ B → ¬ P g) (hB : ∀ g, B' = some g → B = some g ∨ w.heap.size ≤ g) (hba : ¬ P ba) : KnD w' ba oa base top B' nA K := by
  obtain ⟨sts, h1, h2, h3, h4⟩ := h
  refine ⟨sts, h1, h2.mods hm (fun g hg => by injection hg with e; rw [← e]; exact hba), fun p s hk => ?_, h4⟩
  obtain ⟨y, a1, a2, a3⟩ := h3 p s hk
  exact ⟨y, a1, a2, a3.mods ht hm hP hB⟩
theorem KnD.raise {w : World} {ba oa base top top' : Nat} {B : Option Nat} {nA : Nat} {K : Lab} (h : KnD w ba oa base top B nA K) (ht : top ≤ top') : KnD w ba oa base top' B nA K := by
  obtain ⟨sts, h1, h2, h3, h4⟩ := h
  refine ⟨sts, h1, h2, fun p s hk => ?_, h4⟩
  obtain ⟨y, a1, a2, a3⟩ := h3 p s hk
  exact ⟨y, a1, a2, a3.raise ht⟩
/-- the document's walk in memory -/
structure FlS (w0 : World) (ob ba oa base top f : Nat) (vF vR : Value) (g : Ins) (nA : Nat) (w : World) (vL : Value) (K : Lab) (left : List Nat) (bad : Bool) : Prop where
  row : Row w ob 130 [vF, vR, .int .i64 (f : Nat), .int .i64 g.a, .int .i64 g.b, .int .i64 g.c, .slice (some ⟨ba, oa, none⟩) nA nA, vL, .bool bad]
  kn : KnD w ba oa base top vL.ownBlock nA K
  lft : Own w base 1 vL left.length (nats left)
  obk : w0.heap.size ≤ ob ∧ ob < base
  bak : w0.heap.size ≤ ba ∧ ba < base
  ne : ob ≠ ba
  bel : Below w0.heap.size w0 w
  up : base ≤ top ∧ top ≤ w.heap.size
section
variable {w0 : World} {ob ba oa base top f : Nat} {vF vR : Value} {g : Ins} {nA : Nat} {w w' : World} {vL : Value} {K : Lab} {left : List Nat} {bad : Bool}
theorem FlS.fresh (h : FlS w0 ob ba oa base top f vF vR g nA w vL K left bad) (hb : Below w.heap.size w w') : FlS w0 ob ba oa base top f vF vR g nA w' vL K left bad :=
  ⟨h.row.after hb, h.kn.mods h.up.2 (Mods.fresh hb (fun _ => False)) (fun _ _ _ _ h => h) (fun g hg => .inl hg) (fun h => h), h.lft.below hb, h.obk, h.bak, h.ne, h.bel.trans (hb.mono h.bel.size), ⟨h.up.1, Nat.le_trans h.up.2 hb.size⟩⟩
theorem FlS.raise {top' : Nat} (h : FlS w0 ob ba oa base top f vF vR g nA w vL K left bad) (ht : top ≤ top') (hs : top' ≤ w.heap.size) : FlS w0 ob ba oa base top' f vF vR g nA w vL K left bad :=
  ⟨h.row, h.kn.raise ht, h.lft, h.obk, h.bak, h.ne, h.bel, ⟨Nat.le_trans h.up.1 ht, hs⟩⟩
/-- what is written outside of the walk's own memory -/
theorem FlS.mods {P : Nat → Prop} (h : FlS w0 ob ba oa base top f vF vR g nA w vL K left bad) (hm : Mods P w w') (hP : ∀ g, P g → top ≤ g ∧ vL.ownBlock ≠ some g) : FlS w0 ob ba oa base top f vF vR g nA w' vL K left bad :=
  ⟨h.row.mods hm (fun e => by have := (hP _ e).1; have := h.obk; have := h.up; omega), h.kn.mods h.up.2 hm (fun g _ h2 _ e => by have := (hP g e).1; omega) (fun g hg => .inl hg) (fun e => by have := (hP _ e).1; have := h.bak; have := h.up; omega), h.lft.mods hm (fun k hk e => (hP k e).2 hk), h.obk, h.bak, h.ne, below_mods h.bel hm (fun g hg => by have := (hP g hg).1; have := h.up; have := h.obk; omega) h.bel.size, ⟨h.up.1, Nat.le_trans h.up.2 hm.size⟩⟩
/-- the walk's mark is set -/
theorem FlS.mark (h : FlS w0 ob ba oa base top f vF vR g nA w vL K left bad) (b : Bool) (hg : w.grownBy w' (some ob)) (hr : Row w' ob 130 [vF, vR, .int .i64 (f : Nat), .int .i64 g.a, .int .i64 g.b, .int .i64 g.c, .slice (some ⟨ba, oa, none⟩) nA nA, vL, .bool b]) : FlS w0 ob ba oa base top f vF vR g nA w' vL K left b := by
  have hm : Mods (fun g => g = ob) w w' := (Mods.grown hg).mono fun g e => (Option.some.inj e).symm
  have h1 := h.obk
  have h2 := h.up
  exact ⟨hr, h.kn.mods h.up.2 hm (fun g a _ _ e => by omega) (fun g hg => .inl hg) (fun e => h.ne e.symm), h.lft.mods hm (fun k hk e => by have := h.lft.lt k hk; omega), h.obk, h.bak, h.ne, below_mods h.bel hm (fun g hg => by omega) h.bel.size, ⟨h.up.1, Nat.le_trans h.up.2 hm.size⟩⟩
theorem FlS.low (h : FlS w0 ob ba oa base top f vF vR g nA w vL K left bad) : ∀ g, WkP ob ba vL g → g < w.heap.size := fun g hg => by
  have h1 := h.obk
  have h2 := h.bak
  have h3 := h.up
  rcases hg with e | e | e
  · omega
  · omega
  · exact h.lft.lives g e
theorem FlS.cells (h : FlS w0 ob ba oa base top f vF vR g nA w vL K left bad) : w.cell? ⟨ob, 2, none⟩ = some (.int .i64 (f : Nat)) ∧ w.cell? ⟨ob, 6, none⟩ = some (.slice (some ⟨ba, oa, none⟩) nA nA) ∧ w.cell? ⟨ob, 7, none⟩ = some vL ∧ w.cell? ⟨ob, 8, none⟩ = some (.bool bad) :=
  ⟨h.row.cell 2, h.row.cell 6, h.row.cell 7, h.row.cell 8⟩
/-- a state that is known -/
theorem FlS.look (h : FlS w0 ob ba oa base top f vF vR g nA w vL K left bad) {p : Nat} {s : Lb} (hs : K p = some s) : p < nA ∧ ∃ a c, w.cell? ⟨ba, oa + p * 3, none⟩ = some (.bool true) ∧ w.cell? ⟨ba, oa + p * 3 + 1, none⟩ = some (.int .i64 s.1) ∧ w.cell? ⟨ba, oa + p * 3 + 2, none⟩ = some (.slice (adrOf a) s.2.length c) ∧ TrV w base top vL.ownBlock (.slice (adrOf a) s.2.length c) s.2 := by
  obtain ⟨sts, h1, h2, h3, h4⟩ := h.kn
  obtain ⟨y, a1, a2, a3⟩ := h3 p s hs
  have hp : p < nA := by rw [← h1]; exact (List.getElem?_eq_some_iff.1 a1).1
  have hg : ∀ j, j < 3 → w.cell? ⟨ba, oa + p * 3 + j, none⟩ = (sdC (true, y))[j]? := fun j hj => by
    have e1 := h2.get (p * 3 + j) (by unfold sdCells; rw [flat_len sdC 3 sdC_len, h1]; omega)
    rw [Nat.add_assoc, e1]
    exact flat_get sdC 3 sdC_len sts p j _ a1 hj
  have hm : y.2.2.1 = s.2.length := by
    obtain ⟨_, a', c', he, _⟩ := a3.1
    unfold sliceOf at he
    injection he
  have hv : sliceOf y = .slice (adrOf y.2.1) s.2.length y.2.2.2 := by rw [sliceOf, hm]
  refine ⟨hp, y.2.1, y.2.2.2, hg 0 (by omega), ?_, ?_, ?_⟩
  · rw [hg 1 (by omega), ← a2]; rfl
  · rw [hg 2 (by omega), ← hv]; rfl
  · rw [← hv]; exact a3
theorem FlS.lookno (h : FlS w0 ob ba oa base top f vF vR g nA w vL K left bad) {p : Nat} (hp : p < nA) (hs : K p = none) : w.cell? ⟨ba, oa + p * 3, none⟩ = some (.bool false) := by
  obtain ⟨sts, h1, h2, h3, h4⟩ := h.kn
  obtain ⟨y, a1⟩ := h4 p hp hs
  have e1 := h2.get (p * 3) (by unfold sdCells; rw [flat_len sdC 3 sdC_len, h1]; omega)
  rw [e1]
  exact flat_get sdC 3 sdC_len sts p 0 _ a1 (by omega)
end
set_option maxHeartbeats 1600000 in
theorem dsame_p (i1 i2 : Bool) (h1 h2 : Int) (a1 : Option Addr) (n1 c1 : Nat) (a2 : Option Addr) (n2 c2 : Nat) (T U : List Nat) (w : World) (hs1 : Sl w 1 (.slice a1 n1 c1) n1 (nats T)) (hs2 : Sl w 1 (.slice a2 n2 c2) n2 (nats U)) (X : Bool) (HX : Hid (X = decide (h1 = h2 ∧ T = U))) :
    Calls Tryd.prog 81 #[.agg #[.bool i1, .int .i64 h1, .slice a1 n1 c1], .agg #[.bool i2, .int .i64 h2, .slice a2 n2 c2]] w fun e w' => e = .returned (.bool X) ∧ Below w.heap.size w w' := by
  have l1 : T.length = n1 := by have := hs1.1; rw [nats_length] at this; omega
  have l2 : U.length = n2 := by have := hs2.1; rw [nats_length] at this; omega
  have m1 := hs1.cap.2.1
  have m1' := hs1.cap.1
  have m2 := hs2.cap.2.1
  have m2' := hs2.cap.1
  obtain ⟨w1, hw1⟩ : ∃ y, y = (w.alloc (.cells #[.bool i1, .int .i64 h1, .slice a1 n1 c1] 132)).alloc (.cells #[.bool i2, .int .i64 h2, .slice a2 n2 c2] 132) := ⟨_, rfl⟩
  have hall : Row w1 w.heap.size 132 [.bool i1, .int .i64 h1, .slice a1 n1 c1] ∧ Row w1 (w.heap.size + 1) 132 [.bool i2, .int .i64 h2, .slice a2 n2 c2] ∧ Below w.heap.size w w1 := by
    rw [hw1]
    obtain ⟨wa, hwa⟩ : ∃ y, y = w.alloc (.cells #[.bool i1, .int .i64 h1, .slice a1 n1 c1] 132) := ⟨_, rfl⟩
    have ra : Row wa w.heap.size 132 [.bool i1, .int .i64 h1, .slice a1 n1 c1] := by rw [hwa]; exact Row.new w _ _
    have sa : wa.heap.size = w.heap.size + 1 := by rw [hwa]; simp
    have ba : Below w.heap.size w wa := by rw [hwa]; exact (Below.refl _ _).alloc (Nat.le_refl _) _
    rw [← hwa]
    have rb := Row.new wa [.bool i2, .int .i64 h2, .slice a2 n2 c2] 132
    rw [sa] at rb
    have bb := (Below.refl wa.heap.size wa).alloc (Nat.le_refl _) (.cells [.bool i2, .int .i64 h2, .slice a2 n2 c2].toArray 132)
    exact ⟨ra.after bb, rb, ba.trans (bb.mono ba.size)⟩
  obtain ⟨r1, r2, hb1⟩ := hall
  have x1 : w1.cell? ⟨w.heap.size, 1, none⟩ = some (.int .i64 h1) := r1.cell 1
  have x2 : w1.cell? ⟨w.heap.size, 2, none⟩ = some (.slice a1 n1 c1) := r1.cell 2
  have y1 : w1.cell? ⟨w.heap.size + 1, 1, none⟩ = some (.int .i64 h2) := r2.cell 1
  have y2 : w1.cell? ⟨w.heap.size + 1, 2, none⟩ = some (.slice a2 n2 c2) := r2.cell 2
  have H1 := Lib.hid (hs1.below hb1)
  have H2 := Lib.hid (hs2.below hb1)
  have HB1 := Lib.hid hb1
  have R1 := Lib.hid r1
  have R2 := Lib.hid r2
  have L1 := Lib.hid l1
  have L2 := Lib.hid l2
  clear hs1 hs2 l1 l2 hb1 r1 r2
  go_enter Tryd.func81, Tryd.ntmps81
  go_upto_region 1 with fail
  rw [← hw1]
  clear hw1
  by_cases hh : h1 = h2
  · have HH := Lib.hid hh
    have hbh : (h1 != h2) = false := by rw [hh]; simp
    clear hh
    by_cases hn : n1 = n2
    · subst hn
      go_wp2_with fail
      clear hbh x1 y1
      go_loopw [5] (fun v5 wr => ∃ j : Nat, j ≤ n1 ∧ v5 = .int .i64 (j : Nat) ∧ Hid (Below w1.heap.size w1 wr ∧ ∀ i, i < j → T[i]? = U[i]?)) (fun v5 _ => n1 - (RowKit.intOf v5).toNat)
      case atStart => exact ⟨0, Nat.zero_le _, rfl, Lib.hid ⟨Below.refl _ _, fun i hi => by omega⟩⟩
      case round =>
        obtain ⟨j, hj, rfl, HR⟩ := hrel
        have x2 : wr.cell? ⟨w.heap.size, 2, none⟩ = some (.slice a1 n1 c1) := (R1.out.after HR.out.1).cell 2
        have y2 : wr.cell? ⟨w.heap.size + 1, 2, none⟩ = some (.slice a2 n1 c2) := (R2.out.after HR.out.1).cell 2
        by_cases hjn : j = n1
        · have hx : X = true := by
            rw [HX.out]
            refine decide_eq_true ⟨HH.out, List.ext_getElem? fun i => ?_⟩
            by_cases hi : i < j
            · exact HR.out.2 i hi
            · rw [List.getElem?_eq_none (by have := L1.out; omega), List.getElem?_eq_none (by have := L2.out; omega)]
          have HXT := Lib.hid hx
          clear hx
          subst hjn
          go_wp2_with fail
          go_ret
          exact ⟨by rw [HXT.out]; rfl, HB1.out.trans (HR.out.1.mono HB1.out.size)⟩
        · have hjlt : (j : Int) < n1 := by omega
          obtain ⟨g1, o1, u1, rfl, hu1, hc1⟩ := (H1.out.below HR.out.1).at (k := j) (by omega)
          obtain ⟨g2, o2, u2, rfl, hu2, hc2⟩ := (H2.out.below HR.out.1).at (k := j) (by omega)
          obtain ⟨x, rfl, hx⟩ := nats_at hu1
          obtain ⟨y, rfl, hy⟩ := nats_at hu2
          have HXX := Lib.hid hx
          have HYY := Lib.hid hy
          clear hx hy hu1 hu2
          by_cases he : x = y
          · have HE := Lib.hid he
            have hb : ((x : Int) != (y : Int)) = false := by rw [he]; simp
            clear he
            go_wp2_with fail
            go_quiet (fail)
            go_wp2_with fail
            refine ⟨⟨j + 1, by omega, by go_num, Lib.hid ⟨below_drewN HR.out.1 _, fun i hi => ?_⟩⟩, by simp [RowKit.intOf]; omega⟩
            by_cases hij : i = j
            · subst hij
              rw [HXX.out, HYY.out, HE.out]
            · exact HR.out.2 i (by omega)
          · have HE := Lib.hid he
            have hb : ((x : Int) != (y : Int)) = true := by rw [bne_iff_ne]; omega
            clear he
            have hx : X = false := by
              rw [HX.out]
              refine decide_eq_false fun e => HE.out ?_
              have h1 := HXX.out
              rw [e.2, HYY.out] at h1
              exact (Option.some.inj h1).symm
            have HXT := Lib.hid hx
            clear hx
            go_wp2_with fail
            go_quiet (fail)
            go_wp2_with fail
            go_ret
            exact ⟨by rw [HXT.out]; rfl, below_drewN (HB1.out.trans (HR.out.1.mono HB1.out.size)) _⟩
    · have hx : X = false := by
        rw [HX.out]
        refine decide_eq_false fun e => hn ?_
        rw [← L1.out, ← L2.out, e.2]
      have HXT := Lib.hid hx
      clear hx
      have hb : ((n1 : Int) != (n2 : Int)) = true := by rw [bne_iff_ne]; omega
      go_wp2_with fail
      go_ret
      exact ⟨by rw [HXT.out]; rfl, HB1.out⟩
  · have hbh : (h1 != h2) = true := by rw [bne_iff_ne]; exact hh
    have hx : X = false := by
      rw [HX.out]
      exact decide_eq_false fun e => hh e.1
    have HXT := Lib.hid hx
    clear hx hh
    go_wp2_with fail
    go_ret
    exact ⟨by rw [HXT.out]; rfl, HB1.out⟩
set_option maxHeartbeats 800000 in
theorem dmore_p (a : Option Addr) (n c at_ : Nat) (T : List Nat) (w : World) (hs : Sl w 1 (.slice a n c) n (nats T)) (hn : n ≤ 1000000) :
    Calls Tryd.prog 84 #[.slice a n c, .int .i64 (at_ : Nat)] w fun e w' => ∃ v, e = .returned v ∧ Own w' w.heap.size 1 v (n + 1) (nats (T ++ [at_])) ∧ Below w.heap.size w w' := by
  have HS := Lib.hid hs
  clear hs
  go_enter Tryd.func84, Tryd.ntmps84
  go_upto_region 3 with (at_builtin; refine wpL_appendN etI rfl _ _ rfl w.heap.size rfl HS.out rfl (nats_one T) (by omega) (by simp [maxLen]; omega) (Nat.le_refl _) ?_; intro v2 w2 ho2 hb2)
  have HO2 := Lib.hid ho2
  have HB2 := Lib.hid hb2
  clear ho2 hb2
  go_wp2_with (at_builtin; refine wpL_append etI rfl _ _ rfl (HO2.out.alloc _) rfl (Sl.one w2 (.int .i64 (at_ : Nat)) _) rfl (by simp [Value.oneCell']) (by omega) (by simp [maxLen]; omega) (by have := HB2.out.size; simp; omega) ?_; intro v3 w3 ho3 hg3)
  go_ret
  refine ⟨v3, rfl, by rw [nats_append]; exact ho3, ?_⟩
  exact below_own (HB2.out.trans ((Below.refl _ _).alloc HB2.out.size _)) (HO2.out.alloc _) hg3 (Nat.le_refl _) (by have := HB2.out.size; simp; omega)
set_option maxHeartbeats 1600000 in
theorem dfloor_p (w0 : World) (ob ba oa base top f : Nat) (vF vR : Value) (g : Ins) (nA : Nat) (w : World) (vL : Value) (K : Lab) (left : List Nat) (bad : Bool) (h : FlS w0 ob ba oa base top f vF vR g nA w vL K left bad) (hn : nA ≤ 1000000) (is : Bool) (s : Lb) (aT : Option Addr) (nT cT : Nat) (hT : TrV w base top vL.ownBlock (.slice aT nT cT) s.2) (htr : TriOk K s.2) :
    Calls Tryd.prog 83 #[.pointer (some ⟨ob, 0, none⟩), .agg #[.bool is, .int .i64 s.1, .slice aT nT cT]] w fun e w' => e = .returned (.int .i64 (floorV K f s)) ∧ Below w.heap.size w w' := by
  have hnT : nT = s.2.length := hT.1.cap.2.2.1
  obtain ⟨w1, hw1⟩ : ∃ y, y = w.alloc (.cells #[.bool is, .int .i64 s.1, .slice aT nT cT] 132) := ⟨_, rfl⟩
  have hr1 : Row w1 w.heap.size 132 [.bool is, .int .i64 s.1, .slice aT nT cT] := by rw [hw1]; exact Row.new w _ _
  have hb1 : Below w.heap.size w w1 := by rw [hw1]; exact (Below.refl _ _).alloc (Nat.le_refl _) _
  have H1 := Lib.hid (h.fresh hb1)
  have HB1 := Lib.hid hb1
  have HT := Lib.hid (hT.fresh hb1)
  have c2 : w1.cell? ⟨w.heap.size, 2, none⟩ = some (.slice aT nT cT) := hr1.cell 2
  obtain ⟨k2, k6, _, _⟩ := H1.out.cells
  have hlim := hT.1.cap.1
  have hlim2 := hT.1.cap.2.1
  clear hr1 hb1 h hT
  obtain ⟨lv, hlv⟩ : ∃ y, y = leastV f := ⟨_, rfl⟩
  have HLV := Lib.hid hlv
  have hf : (f = 0 ∧ lv = 0) ∨ (0 < f ∧ lv = 1) := by
    rw [hlv]; unfold leastV
    by_cases hf : f = 0
    · exact .inl ⟨hf, if_pos hf⟩
    · exact .inr ⟨by omega, if_neg hf⟩
  clear hlv
  cases hl : s.2.getLast? with
  | none =>
    have hz : nT = 0 := by rw [hnT, List.getLast?_eq_none_iff.1 hl]; rfl
    have HF := Lib.hid (show floorV K f s = lv by rw [floorV, hl, HLV.out])
    clear hl hnT
    subst hz
    rcases hf with ⟨rfl, rfl⟩ | ⟨hf, rfl⟩
    · go_enter Tryd.func83, Tryd.ntmps83
      go_upto_region 1 with fail
      rw [← hw1]
      clear hw1
      go_wp2_with fail
      go_ret
      exact ⟨by rw [HF.out]; rfl, HB1.out⟩
    · have hf' : (0 : Int) < f := by omega
      go_enter Tryd.func83, Tryd.ntmps83
      go_upto_region 1 with fail
      rw [← hw1]
      clear hw1
      go_wp2_with fail
      go_ret
      exact ⟨by rw [HF.out]; rfl, HB1.out⟩
  | some p =>
    have hpos : 0 < nT := by
      rw [hnT]
      cases he : s.2 with
      | nil => rw [he] at hl; cases hl
      | cons a b => simp
    have hpos' : (0 : Int) < nT := by omega
    have hpT : p ∈ s.2 := List.mem_of_getLast? hl
    obtain ⟨s', hs'⟩ : ∃ s', K p = some s' := Option.ne_none_iff_exists'.1 (htr p hpT)
    have HF := Lib.hid (show floorV K f s = max lv s'.1 by rw [floorV, hl, HLV.out]; simp only [hOf, hs'])
    obtain ⟨hpA, a', c', _, hst, _, _⟩ := H1.out.look hs'
    have hpA' : (p : Int) < nA := by omega
    have hT1 : Sl w1 1 (.slice aT nT cT) nT (nats s.2) := by have := HT.out.1; rw [← hnT] at this; exact this
    obtain ⟨b, off, u, rfl, hu, hc⟩ := hT1.at (k := nT - 1) (by omega)
    clear hT1
    obtain ⟨x, rfl, hx⟩ := nats_at hu
    have hla := last_at hl
    rw [← hnT] at hla
    rw [hla] at hx
    cases hx
    have q0 := later_cell k6
    have q1 := later_cell c2
    have q2 := later_cell hc
    have q3 := later_cell hst
    have HTC := Lib.hid hnT
    clear hl hnT hpT hs' hu hla hc hst k6
    rcases hf with ⟨rfl, rfl⟩ | ⟨hf, rfl⟩
    · go_enter Tryd.func83, Tryd.ntmps83
      go_upto_region 1 with fail
      rw [← hw1]
      clear hw1
      go_upto_region 5 with fail
      refine wp_region_idx Rb Rb_refl Rb_trans [(0,0),(0,1),(0,2),(0,3),(0,4),(0,5),(0,6),(0,7),(0,8),(0,9),(0,10),(0,11),(0,12),(0,13),(0,14),(0,15),(0,16),(0,17)] (by kernel_rfl) (by kernel_rfl) (by kernel_rfl) ?_
      simp only [pickO, List.getD_cons_succ, List.getD_cons_zero]
      refine wpCan_seg 18 (by kernel_rfl) ?_
      simp only [List.take_succ_cons, List.take_zero, List.drop_succ_cons, List.drop_zero, List.map_cons, List.map_nil]
      iterate 18 (go_big_quiet_step (fail))
      refine wpQuiet_nil ?_
      clear q0 q1 q2 q3
      have HBD := Lib.hid (HB1.out.trans ((Below.refl _ _).drew.mono HB1.out.size))
      unfold wpCan
      go_wp2_with fail
      all_goals
        go_ret
        refine ⟨?_, HBD.out⟩
        have hf := HF.out
        have hv : ∀ {x y : Int}, x = y → Ending.returned (.int .i64 x) = Ending.returned (.int .i64 y) := fun h => by rw [h]
        exact hv (by omega)
    · have hf' : (0 : Int) < f := by omega
      go_enter Tryd.func83, Tryd.ntmps83
      go_upto_region 1 with fail
      rw [← hw1]
      clear hw1
      go_upto_region 5 with fail
      refine wp_region_idx Rb Rb_refl Rb_trans [(0,0),(0,1),(0,2),(0,3),(0,4),(0,5),(0,6),(0,7),(0,8),(0,9),(0,10),(0,11),(0,12),(0,13),(0,14),(0,15),(0,16),(0,17)] (by kernel_rfl) (by kernel_rfl) (by kernel_rfl) ?_
      simp only [pickO, List.getD_cons_succ, List.getD_cons_zero]
      refine wpCan_seg 18 (by kernel_rfl) ?_
      simp only [List.take_succ_cons, List.take_zero, List.drop_succ_cons, List.drop_zero, List.map_cons, List.map_nil]
      iterate 18 (go_big_quiet_step (fail))
      refine wpQuiet_nil ?_
      clear q0 q1 q2 q3
      have HBD := Lib.hid (HB1.out.trans ((Below.refl _ _).drew.mono HB1.out.size))
      unfold wpCan
      go_wp2_with fail
      all_goals
        go_ret
        refine ⟨?_, HBD.out⟩
        have hf := HF.out
        have hv : ∀ {x y : Int}, x = y → Ending.returned (.int .i64 x) = Ending.returned (.int .i64 y) := fun h => by rw [h]
        exact hv (by omega)
end Go.Proofs.YtoddklfblcfoiaaDoor
