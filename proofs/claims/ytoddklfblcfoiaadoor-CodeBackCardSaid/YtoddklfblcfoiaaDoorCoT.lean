/-
  The walk through a function: its memory; ask, least, Equal, Clone, floor walked. Condition: code within a machine's reach.
-/
import Derived.Test.YtoddklfblcfoiaaDoorCoR
import Derived.Test.YtoddklfblcfoiaaDoorCanP
import Derived.Test.YtoddklfblcfoiaaDoorMaps
import Derived.Test.YtoddklfblcfoiaaDoorStore
import Derived.Deep.Cut
namespace Go.Proofs.YtoddklfblcfoiaaDoor
open Go Go.RowKit Go.Maps
set_option linter.unusedVariables false
set_option linter.unusedSimpArgs false
set_option maxRecDepth 100000

/-! ### states as elements of a map -/
abbrev StR := Int × Option (Nat × Nat) × Nat × Nat
def adrOf (a : Option (Nat × Nat)) : Option Addr := a.map fun p => ⟨p.1, p.2, none⟩
def sliceOf (s : StR) : Value := .slice (adrOf s.2.1) s.2.2.1 s.2.2.2
def stVal (s : StR) : Value := .agg #[.int .i64 s.1, sliceOf s]
def stEnc (s : StR) : DataW Unit := .agg [.lit (.int .i64 s.1), (match s.2.1 with | none => .nil | some p => .agg [.lit (.int .i64 (p.1 : Nat)), .lit (.int .i64 (p.2 : Nat))]), .lit (.int .i64 (s.2.2.1 : Nat)), .lit (.int .i64 (s.2.2.2 : Nat))]
def stRd : Value → Option (DataW Unit × List MemPlace)
  | .agg ⟨[.int .i64 h, .slice none n c]⟩ => some (stEnc (h, none, n, c), [])
  | .agg ⟨[.int .i64 h, .slice (some ⟨b, o, none⟩) n c]⟩ => some (stEnc (h, some (b, o), n, c), [])
  | _ => none
def stE : Elem StR where
  R := stRd
  val := stVal
  enc := stEnc
  z := (0, none, 0, 0)
  rd := fun a => by
    obtain ⟨h, a, n, c⟩ := a
    cases a <;> rfl
  inv := fun v y h => by
    unfold stRd at h
    split at h
    · rename_i a1 a2 a3
      cases h
      exact ⟨(a1, none, a2, a3), rfl, rfl⟩
    · rename_i a1 a2 a3 a4 a5
      cases h
      exact ⟨(a1, some (a2, a3), a4, a5), rfl, rfl⟩
    · cases h
  inj := fun a b h => by
    obtain ⟨h1, a1, n1, c1⟩ := a
    obtain ⟨h2, a2, n2, c2⟩ := b
    simp only [stEnc] at h
    injection h with h
    injection h with e1 h
    injection h with e2 h
    injection h with e3 h
    injection h with e4 h
    injection e1 with e1
    injection e1 with _ e1
    injection e3 with e3
    injection e3 with _ e3
    injection e4 with e4
    injection e4 with _ e4
    have e3 := Int.ofNat.inj e3
    have e4 := Int.ofNat.inj e4
    subst e1 e3 e4
    cases a1 with
    | none => cases a2 with
      | none => rfl
      | some q => cases e2
    | some p => cases a2 with
      | none => cases e2
      | some q =>
        simp only at e2
        injection e2 with e2
        injection e2 with f1 e2
        injection e2 with f2 _
        injection f1 with f1
        injection f1 with _ f1
        injection f2 with f2
        injection f2 with _ f2
        obtain ⟨p1, p2⟩ := p
        obtain ⟨q1, q2⟩ := q
        have f1 := Int.ofNat.inj f1
        have f2 := Int.ofNat.inj f2
        simp only at f1 f2
        rw [f1, f2]
theorem keyI : Tryd.prog.underlying 3 = some (.int .i64) := Tryd.underlying3
theorem mapK : Tryd.prog.underlying 117 = some (.map 3 124) := Tryd.underlying117
theorem zeroS (w : World) : (zeroValue 124).run Tryd.prog w = .ok (stE.val stE.z) w := by kernel_rfl
/-! ### tries -/
def nats (T : List Nat) : List Value := T.map fun p => .int .i64 (p : Nat)
theorem nats_length (T : List Nat) : (nats T).length = T.length := by simp [nats]
theorem nats_get {T : List Nat} {j : Nat} (h : j < T.length) : (nats T)[j]? = some (.int .i64 (T[j] : Nat)) := by simp [nats, h]
theorem nats_at {T : List Nat} {j : Nat} {u : Value} (h : (nats T)[j]? = some u) : ∃ x : Nat, u = .int .i64 (x : Nat) ∧ T[j]? = some x := by
  simp only [nats, List.getElem?_map, Option.map_eq_some_iff] at h
  obtain ⟨x, h1, h2⟩ := h
  exact ⟨x, h2.symm, h1⟩
theorem nats_append (T U : List Nat) : nats (T ++ U) = nats T ++ nats U := by simp [nats]
theorem nats_one (T : List Nat) : ∀ u ∈ nats T, u.oneCell' = true := by
  intro u hu
  simp only [nats, List.mem_map] at hu
  obtain ⟨p, _, rfl⟩ := hu
  rfl
/-- v reads as the tries T; nobody writes its memory any more; it lies apart from block B -/
def TrV (w : World) (base top : Nat) (B : Option Nat) (v : Value) (T : List Nat) : Prop := Sl w 1 v T.length (nats T) ∧ (∀ g, v.ownBlock = some g → base ≤ g ∧ g < top ∧ some g ≠ B) ∧ ∃ a c, v = .slice (adrOf a) T.length c
theorem TrV.nil (w : World) (base top : Nat) (B : Option Nat) : TrV w base top B (.slice none 0 0) [] := ⟨Sl.nil w 1, fun g h => by (cases h), none, 0, rfl⟩
theorem TrV.mods {w w' : World} {base top : Nat} {B B' : Option Nat} {v : Value} {T : List Nat} {P : Nat → Prop} (h : TrV w base top B v T) (ht : top ≤ w.heap.size) (hm : Mods P w w') (hP : ∀ g, base ≤ g → g < top → some g ≠ B → ¬ P g) (hB : ∀ g, B' = some g → B = some g ∨ w.heap.size ≤ g) : TrV w' base top B' v T := by
  refine ⟨h.1.mods hm (fun g hg => hP g (h.2.1 g hg).1 (h.2.1 g hg).2.1 (h.2.1 g hg).2.2), fun g hg => ⟨(h.2.1 g hg).1, (h.2.1 g hg).2.1, fun e => ?_⟩, h.2.2⟩
  rcases hB g e.symm with h1 | h1
  · exact (h.2.1 g hg).2.2 h1.symm
  · have := (h.2.1 g hg).2.1; omega
theorem TrV.fresh {w w' : World} {base top : Nat} {B : Option Nat} {v : Value} {T : List Nat} (h : TrV w base top B v T) (hb : Below w.heap.size w w') : TrV w' base top B v T :=
  ⟨h.1.below hb, h.2⟩
theorem TrV.raise {w : World} {base top top' : Nat} {B : Option Nat} {v : Value} {T : List Nat} (h : TrV w base top B v T) (ht : top ≤ top') : TrV w base top' B v T :=
  ⟨h.1, fun g hg => ⟨(h.2.1 g hg).1, Nat.lt_of_lt_of_le (h.2.1 g hg).2.1 ht, (h.2.1 g hg).2.2⟩, h.2.2⟩
/-- the map of what is known -/
def KnM (w : World) (bm base top : Nat) (B : Option Nat) (n : Nat) (K : Lab) : Prop :=
  ∃ ks φ, MapIs stE Tryd.prog 3 w bm ks φ ∧ (∀ k : Nat, (k : Int) ∈ ks ↔ K k ≠ none) ∧ (∀ z ∈ ks, 0 ≤ z ∧ z < n) ∧ ks.length + unl n K = n ∧ ∀ (k : Nat) s, K k = some s → (φ k).1 = s.1 ∧ TrV w base top B (sliceOf (φ k)) s.2
theorem KnM.mods {w w' : World} {bm base top : Nat} {B B' : Option Nat} {n : Nat} {K : Lab} {P : Nat → Prop} (h : KnM w bm base top B n K) (ht : top ≤ w.heap.size) (hm : Mods P w w') (hP : ∀ g, base ≤ g → g < top → some g ≠ B → ¬ P g) (hB : ∀ g, B' = some g → B = some g ∨ w.heap.size ≤ g) (hbm : ¬ P bm) : KnM w' bm base top B' n K := by
  obtain ⟨ks, φ, h1, h2, h3, h4, h5⟩ := h
  exact ⟨ks, φ, h1.mods hm hbm, h2, h3, h4, fun k s hk => ⟨(h5 k s hk).1, (h5 k s hk).2.mods ht hm hP hB⟩⟩
theorem KnM.raise {w : World} {bm base top top' : Nat} {B : Option Nat} {n : Nat} {K : Lab} (h : KnM w bm base top B n K) (ht : top ≤ top') : KnM w bm base top' B n K := by
  obtain ⟨ks, φ, h1, h2, h3, h4, h5⟩ := h
  exact ⟨ks, φ, h1, h2, h3, h4, fun k s hk => ⟨(h5 k s hk).1, (h5 k s hk).2.raise ht⟩⟩
structure WkS (w0 : World) (ob bm base top : Nat) (f : Nat) (l : List Ins) (g : Ins) (aC : Option Addr) (nC cC : Nat) (w : World) (vL : Value) (K : Lab) (left : List Nat) : Prop where
  row : Row w ob 120 ([.int .i64 (f : Nat), .slice aC nC cC] ++ insC g ++ [.map (some bm), vL])
  map : KnM w bm base top vL.ownBlock nC K
  lft : Own w base 1 vL left.length (nats left)
  obk : w0.heap.size ≤ ob ∧ ob < base
  bmk : w0.heap.size ≤ bm ∧ bm < base
  ne : ob ≠ bm
  bel : Below w0.heap.size w0 w
  up : base ≤ top ∧ top ≤ w.heap.size
theorem WkS.fresh {w0 : World} {ob bm base top f : Nat} {l : List Ins} {g : Ins} {aC : Option Addr} {nC cC : Nat} {w w' : World} {vL : Value} {K : Lab} {left : List Nat} (h : WkS w0 ob bm base top f l g aC nC cC w vL K left) (hb : Below w.heap.size w w') : WkS w0 ob bm base top f l g aC nC cC w' vL K left :=
  ⟨h.row.after hb, h.map.mods h.up.2 (Mods.fresh hb (fun _ => False)) (fun _ _ _ _ h => h) (fun g hg => .inl hg) (fun h => h), h.lft.below hb, h.obk, h.bmk, h.ne, h.bel.trans (hb.mono h.bel.size), ⟨h.up.1, Nat.le_trans h.up.2 hb.size⟩⟩
theorem WkS.raise {w0 : World} {ob bm base top top' f : Nat} {l : List Ins} {g : Ins} {aC : Option Addr} {nC cC : Nat} {w : World} {vL : Value} {K : Lab} {left : List Nat} (h : WkS w0 ob bm base top f l g aC nC cC w vL K left) (ht : top ≤ top') (hs : top' ≤ w.heap.size) : WkS w0 ob bm base top' f l g aC nC cC w vL K left :=
  ⟨h.row, h.map.raise ht, h.lft, h.obk, h.bmk, h.ne, h.bel, ⟨Nat.le_trans h.up.1 ht, hs⟩⟩
/-- what is written outside of the walk's own memory -/
theorem WkS.mods {w0 : World} {ob bm base top f : Nat} {l : List Ins} {g : Ins} {aC : Option Addr} {nC cC : Nat} {w w' : World} {vL : Value} {K : Lab} {left : List Nat} {P : Nat → Prop} (h : WkS w0 ob bm base top f l g aC nC cC w vL K left) (hm : Mods P w w') (hP : ∀ g, P g → top ≤ g ∧ vL.ownBlock ≠ some g) : WkS w0 ob bm base top f l g aC nC cC w' vL K left :=
  ⟨h.row.mods hm (fun e => by have := (hP _ e).1; have := h.obk; have := h.up; omega), h.map.mods h.up.2 hm (fun g _ h2 _ e => by have := (hP g e).1; omega) (fun g hg => .inl hg) (fun e => by have := (hP _ e).1; have := h.bmk; have := h.up; omega), h.lft.mods hm (fun k hk e => (hP k e).2 hk), h.obk, h.bmk, h.ne, below_mods h.bel hm (fun g hg => by have := (hP g hg).1; have := h.up; have := h.obk; omega) h.bel.size, ⟨h.up.1, Nat.le_trans h.up.2 hm.size⟩⟩
def wrongE : List PanicEntry := [{ v := .iface 114 (.agg #[]), recovered := false }]
/-! ### the small ones -/
theorem ask_yes (w : World) : Calls Tryd.prog 75 #[.bool true] w fun e w' => e = .returned (.tuple #[]) ∧ w' = w := by
  go_enter Tryd.func75, Tryd.ntmps75
  go_wp2_with fail
  first
    | go_end0
    | refine bodyPost_ret (results_none rfl _ _ _) rfl ?_
  exact ⟨rfl, rfl⟩
theorem ask_no (w : World) : Calls Tryd.prog 75 #[.bool false] w fun e w' => e = .panicked wrongE ∧ w' = w := by
  go_enter Tryd.func75, Tryd.ntmps75
  go_wp2_with fail
  exact ⟨rfl, rfl, rfl⟩
theorem least_p (ob f : Nat) (rest : List Value) (w : World) (hr : Row w ob 120 (.int .i64 (f : Nat) :: rest)) : Calls Tryd.prog 65 #[.pointer (some ⟨ob, 0, none⟩)] w fun e w' => e = .returned (.int .i64 (leastV f)) ∧ w' = w := by
  have c0 := hr.cell 0
  simp only [List.getElem?_cons_zero] at c0
  clear hr
  by_cases hf : f = 0
  · subst hf
    go_enter Tryd.func65, Tryd.ntmps65
    go_wp2_with fail
    go_ret
    exact ⟨rfl, rfl⟩
  · have h1 : leastV f = 1 := if_neg hf
    rw [h1]
    clear h1
    have h2 : ((f : Int) == 0) = false := by rw [beq_eq_false_iff_ne]; omega
    go_enter Tryd.func65, Tryd.ntmps65
    go_wp2_with fail
    go_ret
    exact ⟨rfl, rfl⟩
set_option maxHeartbeats 1600000 in
theorem equal_p (a1 : Option Addr) (n1 c1 : Nat) (a2 : Option Addr) (n2 c2 : Nat) (T U : List Nat) (w : World) (h1 : Sl w 1 (.slice a1 n1 c1) n1 (nats T)) (h2 : Sl w 1 (.slice a2 n2 c2) n2 (nats U)) (X : Bool) (HX : Hid (X = decide (T = U))) :
    Calls Tryd.prog 76 #[.slice a1 n1 c1, .slice a2 n2 c2] w fun e w' => e = .returned (.bool X) ∧ Below w.heap.size w w' := by
  have l1 : T.length = n1 := by have := h1.1; rw [nats_length] at this; omega
  have l2 : U.length = n2 := by have := h2.1; rw [nats_length] at this; omega
  have m1 := h1.cap.2.1
  have m1' := h1.cap.1
  have m2 := h2.cap.2.1
  have m2' := h2.cap.1
  have H1 := Lib.hid h1
  have H2 := Lib.hid h2
  have L1 := Lib.hid l1
  have L2 := Lib.hid l2
  clear h1 h2 l1 l2
  by_cases hn : n1 = n2
  · subst hn
    go_enter Tryd.func76, Tryd.ntmps76
    go_wp2_with fail
    go_loopw [13] (fun v13 wr => ∃ j : Nat, j ≤ n1 ∧ v13 = .int .i64 (j : Nat) ∧ Hid (Below w.heap.size w wr ∧ ∀ i, i < j → T[i]? = U[i]?)) (fun v13 _ => n1 - (RowKit.intOf v13).toNat)
    case atStart => exact ⟨0, Nat.zero_le _, rfl, Lib.hid ⟨Below.refl _ _, fun i hi => by omega⟩⟩
    case round =>
      obtain ⟨j, hj, rfl, HR⟩ := hrel
      by_cases hjn : j = n1
      · have hx : X = true := by
          rw [HX.out]
          refine decide_eq_true (List.ext_getElem? fun i => ?_)
          by_cases hi : i < j
          · exact HR.out.2 i hi
          · rw [List.getElem?_eq_none (by have := L1.out; omega), List.getElem?_eq_none (by have := L2.out; omega)]
        have HXT := Lib.hid hx
        clear hx
        subst hjn
        go_wp2_with fail
        go_ret
        exact ⟨by rw [HXT.out]; rfl, HR.out.1⟩
      · have hjlt : (j : Int) < n1 := by omega
        obtain ⟨g1, o1, u1, rfl, hu1, hc1⟩ := (H1.out.below HR.out.1).at (k := j) (by omega)
        obtain ⟨g2, o2, u2, rfl, hu2, hc2⟩ := (H2.out.below HR.out.1).at (k := j) (by omega)
        obtain ⟨x, rfl, hx⟩ := nats_at hu1
        obtain ⟨y, rfl, hy⟩ := nats_at hu2
        have q1 := later_cell hc1
        have q2 := later_cell hc2
        have HXX := Lib.hid hx
        have HYY := Lib.hid hy
        clear hc1 hc2 hx hy hu1 hu2
        go_upto_region 6 with fail
        refine wp_region_idx Rb Rb_refl Rb_trans [(0,0),(0,1),(0,2),(0,3),(0,4),(0,5),(0,6),(0,7),(0,8)] (by kernel_rfl) (by kernel_rfl) (by kernel_rfl) ?_
        simp only [pickO, List.getD_cons_succ, List.getD_cons_zero]
        refine wpCan_seg 9 (by kernel_rfl) ?_
        simp only [List.take_succ_cons, List.take_zero, List.drop_succ_cons, List.drop_zero, List.map_cons, List.map_nil]
        iterate 9 (go_big_quiet_step (fail))
        refine wpQuiet_nil ?_
        clear q1 q2
        unfold wpCan
        by_cases he : x = y
        · have HE := Lib.hid he
          have hb : ((x : Int) != (y : Int)) = false := by rw [he]; simp
          clear he
          go_wp2_with fail
          refine ⟨⟨j + 1, by omega, by go_num, Lib.hid ⟨HR.out.1.trans ((Below.refl _ _).drew.mono HR.out.1.size), fun i hi => ?_⟩⟩, by simp [RowKit.intOf]; omega⟩
          by_cases hij : i = j
          · subst hij
            rw [HXX.out, HYY.out, HE.out]
          · exact HR.out.2 i (by omega)
        · have HE := Lib.hid he
          have hb : ((x : Int) != (y : Int)) = true := by rw [bne_iff_ne]; omega
          clear he
          have hx : X = false := by
            rw [HX.out]
            refine decide_eq_false fun e => HE.out ?_
            have h1 := HXX.out
            rw [e, HYY.out] at h1
            exact (Option.some.inj h1).symm
          have HXT := Lib.hid hx
          clear hx
          go_wp2_with fail
          go_ret
          exact ⟨by rw [HXT.out]; rfl, HR.out.1.trans ((Below.refl _ _).drew.mono HR.out.1.size)⟩
  · have hx : X = false := by
      rw [HX.out]
      refine decide_eq_false fun e => hn ?_
      rw [← L1.out, ← L2.out, e]
    have HXT := Lib.hid hx
    clear hx
    have hb : ((n1 : Int) != (n2 : Int)) = true := by rw [bne_iff_ne]; omega
    go_enter Tryd.func76, Tryd.ntmps76
    go_wp2_with fail
    go_ret
    exact ⟨by rw [HXT.out]; rfl, Below.refl _ _⟩
theorem etI : ET Tryd.prog 118 3 (.int .i64 0) 1 8 := ⟨Tryd.underlying118, by kernel_rfl, rfl, by decide⟩
set_option maxHeartbeats 1600000 in
theorem clone_p (a : Option Addr) (n c : Nat) (T : List Nat) (w : World) (hs : Sl w 1 (.slice a n c) n (nats T)) (hn : n ≤ 1000000000) :
    Calls Tryd.prog 79 #[.slice a n c] w fun e w' => ∃ v, e = .returned v ∧ Own w' w.heap.size 1 v n (nats T) ∧ Below w.heap.size w w' := by
  have HS := Lib.hid hs
  have hl : T.length = n := by have := hs.1; rw [nats_length] at this; omega
  have hnil := fun w => Lib.run_eql_slice_nil (P := Tryd.prog) w 118 3 a n c 0 0 Tryd.underlying118
  cases a with
  | none =>
    have hn0 : n = 0 := by
      obtain ⟨_, a', c', he, h1, _, h3, _⟩ := hs
      cases he
      have := h3 rfl
      omega
    subst hn0
    have hT : T = [] := List.eq_nil_of_length_eq_zero hl
    have HT := Lib.hid hT
    clear hs hl hT
    go_enter Tryd.func79, Tryd.ntmps79
    go_wp2_with fail
    go_ret
    exact ⟨_, rfl, by rw [HT.out]; exact Own.nil _ _ _, Below.refl _ _⟩
  | some ad =>
    clear hs
    go_enter Tryd.func79, Tryd.ntmps79
    go_wp2_with (at_builtin; refine wpL_append0 etI rfl _ _ rfl w.heap.size rfl HS.out rfl (nats_one T) (by omega) (by simp [maxLen]; omega) (Nat.le_refl _) ?_; intro v2 w2 ho2 hb2)
    go_ret
    exact ⟨v2, rfl, ho2, hb2⟩
theorem KnM.look {w : World} {bm base top : Nat} {B : Option Nat} {n : Nat} {K : Lab} (h : KnM w bm base top B n K) (hn : n ≤ 1000000) {p : Nat} {s : Lb} (hs : K p = some s) : ∃ a c, (Instr.lookup 117 (.map (some bm)) (.int .i64 (p : Nat)) false).run Tryd.prog w = .ok (.agg #[.int .i64 s.1, .slice a s.2.length c]) w ∧ TrV w base top B (.slice a s.2.length c) s.2 := by
  obtain ⟨ks, φ, h1, h2, h3, h4, h5⟩ := h
  have hp := (h3 p ((h2 p).2 (by rw [hs]; simp))).2
  have hl := h1.look keyI mapK (zeroS w) (k := (p : Int)) (wf_lit (by omega) (by omega))
  obtain ⟨e1, e2⟩ := h5 p s hs
  have hm : (φ (p : Int)).2.2.1 = s.2.length := by
    obtain ⟨_, a', c', he, _⟩ := e2.1
    unfold sliceOf at he
    injection he
  refine ⟨adrOf (φ p).2.1, (φ p).2.2.2, ?_, ?_⟩
  · rw [hl]
    show Result.ok (stVal (φ p)) w = _
    rw [stVal, sliceOf, e1, hm]
  · rw [← hm]; exact e2
/-- the same in all later worlds -/
theorem KnM.looks {w : World} {bm base top : Nat} {B : Option Nat} {n : Nat} {K : Lab} (h : KnM w bm base top B n K) (hn : n ≤ 1000000) {p : Nat} {s : Lb} (hs : K p = some s) : ∃ a c, (∀ x : Later Rb w.drew, (Instr.lookup 117 (.map (some bm)) (.int .i64 (p : Nat)) false).run Tryd.prog x.w = .ok (.agg #[.int .i64 s.1, .slice a s.2.length c]) x.w) ∧ TrV w base top B (.slice a s.2.length c) s.2 := by
  obtain ⟨ks, φ, h1, h2, h3, h4, h5⟩ := h
  have hp := (h3 p ((h2 p).2 (by rw [hs]; simp))).2
  obtain ⟨e1, e2⟩ := h5 p s hs
  have hm : (φ (p : Int)).2.2.1 = s.2.length := by
    obtain ⟨_, a', c', he, _⟩ := e2.1
    unfold sliceOf at he
    injection he
  refine ⟨adrOf (φ p).2.1, (φ p).2.2.2, fun x => ?_, ?_⟩
  · have hb : Below w.heap.size w x.w := (Below.refl w.heap.size w).drew.trans (show Below w.heap.size w.drew x.w from x.later)
    have hl := (h1.below hb).look keyI mapK (zeroS x.w) (k := (p : Int)) (wf_lit (by omega) (by omega))
    rw [hl]
    show Result.ok (stVal (φ p)) x.w = _
    rw [stVal, sliceOf, e1, hm]
  · rw [← hm]; exact e2
theorem fieldS (h : Int) (a : Option Addr) (n c : Nat) (w : World) : Sem.run Tryd.prog (Instr.field 124 (.agg #[.int .i64 h, .slice a n c]) 0) w = .ok (.int .i64 h) w := by kernel_rfl
theorem last_at {T : List Nat} {p : Nat} (h : T.getLast? = some p) : T[T.length - 1]? = some p := by rw [← List.getLast?_eq_getElem?]; exact h
set_option maxHeartbeats 4000000 in
theorem floor_p (w0 : World) (ob bm base top f : Nat) (l : List Ins) (g : Ins) (aC : Option Addr) (nC cC : Nat) (w : World) (vL : Value) (K : Lab) (left : List Nat) (h : WkS w0 ob bm base top f l g aC nC cC w vL K left) (hn : nC ≤ 1000000) (s : Lb) (aT : Option Addr) (nT cT : Nat) (hT : TrV w base top vL.ownBlock (.slice aT nT cT) s.2) (htr : TriOk K s.2) :
    Calls Tryd.prog 78 #[.pointer (some ⟨ob, 0, none⟩), .agg #[.int .i64 s.1, .slice aT nT cT]] w fun e w' => e = .returned (.int .i64 (floorV K f s)) ∧ Below w.heap.size w w' := by
  have hnT : nT = s.2.length := hT.1.cap.2.2.1
  obtain ⟨w1, hw1⟩ : ∃ y, y = w.alloc (.cells #[.int .i64 s.1, .slice aT nT cT] 124) := ⟨_, rfl⟩
  have hr1 : Row w1 w.heap.size 124 [.int .i64 s.1, .slice aT nT cT] := by rw [hw1]; exact Row.new w _ _
  have hb1 : Below w.heap.size w w1 := by rw [hw1]; exact (Below.refl _ _).alloc (Nat.le_refl _) _
  have H1 := Lib.hid (h.fresh hb1)
  have HB1 := Lib.hid hb1
  have HT := Lib.hid (hT.fresh hb1)
  have c1 := hr1.cell 1
  simp only [List.getElem?_cons_zero, List.getElem?_cons_succ] at c1
  have HR1 := Lib.hid hr1
  have hlim := hT.1.cap.1
  have hlim2 := hT.1.cap.2.1
  clear hr1 hb1 h hT
  cases hl : s.2.getLast? with
  | none =>
    have hz : nT = 0 := by rw [hnT, List.getLast?_eq_none_iff.1 hl]; rfl
    have HF := Lib.hid (show floorV K f s = leastV f by rw [floorV, hl])
    clear hl hnT
    subst hz
    go_enter Tryd.func78, Tryd.ntmps78
    go_upto_region 1 with fail
    rw [← hw1]
    clear hw1
    go_wp2_with fail
    refine (least_p ob f _ w1 H1.out.row).mono ?_
    rintro e w2 ⟨rfl, rfl⟩
    go_wp2_with fail
    go_ret
    exact ⟨by rw [HF.out]; rfl, HB1.out⟩
  | some p =>
    have hpos : 0 < nT := by
      rw [hnT]
      cases he : s.2 with
      | nil => rw [he] at hl; cases hl
      | cons a b => simp
    have hpT : p ∈ s.2 := List.mem_of_getLast? hl
    obtain ⟨s', hs'⟩ : ∃ s', K p = some s' := Option.ne_none_iff_exists'.1 (htr p hpT)
    have HF := Lib.hid (show floorV K f s = max (leastV f) s'.1 by rw [floorV, hl]; simp only [hOf, hs'])
    obtain ⟨a', c', hlook, _⟩ := H1.out.map.looks hn hs'
    have hT1 : Sl w1 1 (.slice aT nT cT) nT (nats s.2) := by have := HT.out.1; rw [← hnT] at this; exact this
    obtain ⟨b, off, u, rfl, hu, hc⟩ := hT1.at (k := nT - 1) (by omega)
    clear hT1
    obtain ⟨x, rfl, hx⟩ := nats_at hu
    have hla := last_at hl
    rw [← hnT] at hla
    rw [hla] at hx
    cases hx
    have k7 := H1.out.row.cell 7
    simp only [insC, List.cons_append, List.nil_append, List.getElem?_cons_zero, List.getElem?_cons_succ] at k7
    have q0 := later_cell k7
    have q1 := later_cell c1
    have q2 := later_cell hc
    have HTC := Lib.hid hnT
    clear hl hnT hpT hs' hu hla hc k7
    go_enter Tryd.func78, Tryd.ntmps78
    go_upto_region 3 with fail
    rw [← hw1]
    clear hw1
    refine wp_region_idx Rb Rb_refl Rb_trans [(0,0),(0,2),(0,3),(0,4),(0,5),(0,6),(0,7),(0,8),(0,9),(0,10),(0,11),(0,12),(0,13),(1,1),(0,14),(0,15)] (by kernel_rfl) (by kernel_rfl) (by kernel_rfl) ?_
    simp only [pickO, List.getD_cons_succ, List.getD_cons_zero]
    have hfld := fieldS
    refine wpCan_seg 13 (by kernel_rfl) ?_
    simp only [List.take_succ_cons, List.take_zero, List.drop_succ_cons, List.drop_zero, List.map_cons, List.map_nil]
    iterate 13 (go_big_quiet_step (fail))
    refine wpQuiet_nil ?_
    clear q0 q1 q2 hlook hfld
    refine wpCan_list (k := 0) (fun KK hK => ?_) (fun _ => Rb_refl _)
    go_wp2_with fail
    refine (least_p ob f _ w1.drew H1.out.row.drew).mono ?_
    rintro e w2 ⟨rfl, rfl⟩
    go_wp2_with fail
    refine hK _ _ (fun _ => Below.refl _ _) ?_
    clear hK KK
    have HBD := Lib.hid (HB1.out.trans ((Below.refl _ _).drew.mono HB1.out.size))
    refine wpCan_seg 2 (by kernel_rfl) ?_
    simp only [List.take_succ_cons, List.take_zero, List.drop_succ_cons, List.drop_zero, List.map_cons, List.map_nil]
    iterate 2 (go_big_quiet_step (fail))
    refine wpQuiet_nil ?_
    unfold wpCan
    go_wp2_with fail
    all_goals
      go_ret
      refine ⟨?_, HBD.out⟩
      have hf := HF.out
      have hv : ∀ {x y : Int}, x = y → Ending.returned (.int .i64 x) = Ending.returned (.int .i64 y) := fun h => by rw [h]
      exact hv (by omega)
end Go.Proofs.YtoddklfblcfoiaaDoor
