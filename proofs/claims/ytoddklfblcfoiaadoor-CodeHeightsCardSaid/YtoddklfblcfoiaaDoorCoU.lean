/-
  To come to a place, walked. Condition: code within a machine's reach.
-/
import Derived.Test.YtoddklfblcfoiaaDoorCoT
namespace Go.Proofs.YtoddklfblcfoiaaDoor
open Go Go.RowKit Go.Maps
set_option linter.unusedVariables false
set_option linter.unusedSimpArgs false
set_option maxRecDepth 100000

/-- what a call may write: the walk, its map, the list of places that are left -/
def WkP (ob bm : Nat) (vL : Value) (g : Nat) : Prop := g = ob ∨ g = bm ∨ vL.ownBlock = some g
def ToR (w0 : World) (ob bm base top f : Nat) (l : List Ins) (g : Ins) (aC : Option Addr) (nC cC : Nat) (w : World) (vL : Value) (r : Option (Lab × List Nat)) (e : Ending) (w' : World) : Prop :=
  (∃ K' left' vL', Hid (r = some (K', left')) ∧ e = .returned (.tuple #[]) ∧ WkS w0 ob bm base top f l g aC nC cC w' vL' K' left' ∧ Mods (WkP ob bm vL) w w' ∧ ∀ g, vL'.ownBlock = some g → vL.ownBlock = some g ∨ w.heap.size ≤ g) ∨ (r = none ∧ e = .panicked wrongE ∧ Mods (WkP ob bm vL) w w')
theorem toS_out {n : Nat} {z : Int × Lb} {K : Lab} {left : List Nat} (h : ¬ (0 ≤ z.1 ∧ z.1 < n)) : toS n z K left = none := by rw [toS, if_neg h]
theorem toS_was {n : Nat} {p : Nat} {s s' : Lb} {K : Lab} {left : List Nat} (h : p < n) (hk : K p = some s') : toS n ((p : Int), s) K left = if s' = s then some (K, left) else none := by
  rw [toS, if_pos ⟨by simp, by simpa using h⟩]
  simp only [Int.toNat_natCast, hk]
theorem toS_new {n : Nat} {p : Nat} {s : Lb} {K : Lab} {left : List Nat} (h : p < n) (hk : K p = none) : toS n ((p : Int), s) K left = some (setK K p s, left ++ [p]) := by
  rw [toS, if_pos ⟨by simp, by simpa using h⟩]
  simp only [Int.toNat_natCast, hk]
set_option maxHeartbeats 4000000 in
theorem to_out (w0 : World) (ob bm base top f : Nat) (l : List Ins) (g : Ins) (aC : Option Addr) (nC cC : Nat) (w : World) (vL : Value) (K : Lab) (left : List Nat) (h : WkS w0 ob bm base top f l g aC nC cC w vL K left) (at_ : Int) (s : Lb) (aT : Option (Nat × Nat)) (nT cT : Nat) (hT : TrV w base top vL.ownBlock (.slice (adrOf aT) nT cT) s.2) (hout : ¬ (0 ≤ at_ ∧ at_ < nC)) :
    Calls Tryd.prog 64 #[.pointer (some ⟨ob, 0, none⟩), .int .i64 at_, .agg #[.int .i64 s.1, .slice (adrOf aT) nT cT]] w fun e w' => ToR w0 ob bm base top f l g aC nC cC w vL (toS nC (at_, s) K left) e w' := by
  have HO := Lib.hid (toS_out (K := K) (left := left) (z := (at_, s)) hout)
  by_cases h0 : 0 ≤ at_
  · have h1 : ¬ at_ < nC := fun e => hout ⟨h0, e⟩
    clear hout
    obtain ⟨w1, hw1⟩ : ∃ y, y = w.alloc (.cells #[.int .i64 s.1, .slice (adrOf aT) nT cT] 124) := ⟨_, rfl⟩
    have hr1 : Row w1 w.heap.size 124 [.int .i64 s.1, .slice (adrOf aT) nT cT] := by rw [hw1]; exact Row.new w _ _
    have hb1 : Below w.heap.size w w1 := by rw [hw1]; exact (Below.refl _ _).alloc (Nat.le_refl _) _
    have hs1 : w1.heap.size = w.heap.size + 1 := by rw [hw1]; simp
    have H1 := Lib.hid (h.fresh hb1)
    have HB1 := Lib.hid hb1
    have HT := Lib.hid (hT.fresh hb1)
    have HR1 := Lib.hid hr1
    have HS1 := Lib.hid hs1
    have k1 := H1.out.row.cell 1
    simp only [insC, List.cons_append, List.nil_append, List.getElem?_cons_zero, List.getElem?_cons_succ] at k1
    clear hr1 hb1 hs1
    go_enter Tryd.func64, Tryd.ntmps64
    go_upto_region 1 with fail
    rw [← hw1]
    clear hw1
    go_wp2_with fail
    refine (ask_no w1).mono ?_
    rintro e w2 ⟨rfl, rfl⟩
    go_wp2_with fail
    exact ⟨rfl, .inr ⟨HO.out, rfl, Mods.fresh HB1.out _⟩⟩
  · clear hout
    obtain ⟨w1, hw1⟩ : ∃ y, y = w.alloc (.cells #[.int .i64 s.1, .slice (adrOf aT) nT cT] 124) := ⟨_, rfl⟩
    have hr1 : Row w1 w.heap.size 124 [.int .i64 s.1, .slice (adrOf aT) nT cT] := by rw [hw1]; exact Row.new w _ _
    have hb1 : Below w.heap.size w w1 := by rw [hw1]; exact (Below.refl _ _).alloc (Nat.le_refl _) _
    have hs1 : w1.heap.size = w.heap.size + 1 := by rw [hw1]; simp
    have H1 := Lib.hid (h.fresh hb1)
    have HB1 := Lib.hid hb1
    have HT := Lib.hid (hT.fresh hb1)
    have HR1 := Lib.hid hr1
    have HS1 := Lib.hid hs1
    have k1 := H1.out.row.cell 1
    simp only [insC, List.cons_append, List.nil_append, List.getElem?_cons_zero, List.getElem?_cons_succ] at k1
    clear hr1 hb1 hs1
    go_enter Tryd.func64, Tryd.ntmps64
    go_upto_region 1 with fail
    rw [← hw1]
    clear hw1
    go_wp2_with fail
    refine (ask_no w1).mono ?_
    rintro e w2 ⟨rfl, rfl⟩
    go_wp2_with fail
    exact ⟨rfl, .inr ⟨HO.out, rfl, Mods.fresh HB1.out _⟩⟩
theorem KnM.lookok {w : World} {bm base top : Nat} {B : Option Nat} {n : Nat} {K : Lab} (h : KnM w bm base top B n K) (hn : n ≤ 1000000) {p : Nat} {s : Lb} (hs : K p = some s) : ∃ a c, (Instr.lookup 117 (.map (some bm)) (.int .i64 (p : Nat)) true).run Tryd.prog w = .ok (.tuple #[.agg #[.int .i64 s.1, .slice a s.2.length c], .bool true]) w ∧ TrV w base top B (.slice a s.2.length c) s.2 := by
  obtain ⟨ks, φ, h1, h2, h3, h4, h5⟩ := h
  have hmem := (h2 p).2 (show K p ≠ none by rw [hs]; simp)
  have hp := (h3 p hmem).2
  have hl := h1.look_ok keyI mapK (zeroS w) (k := (p : Int)) (wf_lit (by omega) (by omega))
  obtain ⟨e1, e2⟩ := h5 p s hs
  have hm : (φ (p : Int)).2.2.1 = s.2.length := by
    obtain ⟨_, a', c', he, _⟩ := e2.1
    unfold sliceOf at he
    injection he
  refine ⟨adrOf (φ p).2.1, (φ p).2.2.2, ?_, ?_⟩
  · rw [hl, decide_eq_true hmem]
    show Result.ok (Value.tuple #[stVal (φ p), .bool true]) w = _
    rw [stVal, sliceOf, e1, hm]
  · rw [← hm]; exact e2
theorem KnM.lookno {w : World} {bm base top : Nat} {B : Option Nat} {n : Nat} {K : Lab} (h : KnM w bm base top B n K) (hn : n ≤ 1000000) {p : Nat} (hp : p < n) (hs : K p = none) : (Instr.lookup 117 (.map (some bm)) (.int .i64 (p : Nat)) true).run Tryd.prog w = .ok (.tuple #[.agg #[.int .i64 0, .slice none 0 0], .bool false]) w := by
  obtain ⟨ks, φ, h1, h2, h3, h4, h5⟩ := h
  have hmem : ¬ (p : Int) ∈ ks := fun hm => (h2 p).1 hm hs
  have hl := h1.look_ok keyI mapK (zeroS w) (k := (p : Int)) (wf_lit (by omega) (by omega))
  rw [hl, decide_eq_false hmem, h1.at hmem]
  rfl
set_option maxHeartbeats 4000000 in
theorem to_was (w0 : World) (ob bm base top f : Nat) (l : List Ins) (g : Ins) (aC : Option Addr) (nC cC : Nat) (w : World) (vL : Value) (K : Lab) (left : List Nat) (h : WkS w0 ob bm base top f l g aC nC cC w vL K left) (hn : nC ≤ 1000000) (p : Nat) (hp : p < nC) (s : Lb) (aT : Option (Nat × Nat)) (nT cT : Nat) (hT : TrV w base top vL.ownBlock (.slice (adrOf aT) nT cT) s.2) (s' : Lb) (hk : K p = some s') :
    Calls Tryd.prog 64 #[.pointer (some ⟨ob, 0, none⟩), .int .i64 (p : Nat), .agg #[.int .i64 s.1, .slice (adrOf aT) nT cT]] w fun e w' => ToR w0 ob bm base top f l g aC nC cC w vL (toS nC ((p : Int), s) K left) e w' := by
  have HO := Lib.hid (toS_was (s := s) (left := left) hp hk)
  have HK := Lib.hid hk
  obtain ⟨w1, hw1⟩ : ∃ y, y = w.alloc (.cells #[.int .i64 s.1, .slice (adrOf aT) nT cT] 124) := ⟨_, rfl⟩
  have hr1 : Row w1 w.heap.size 124 [.int .i64 s.1, .slice (adrOf aT) nT cT] := by rw [hw1]; exact Row.new w _ _
  have hb1 : Below w.heap.size w w1 := by rw [hw1]; exact (Below.refl _ _).alloc (Nat.le_refl _) _
  have hs1 : w1.heap.size = w.heap.size + 1 := by rw [hw1]; simp
  have H1 := Lib.hid (h.fresh hb1)
  have HB1 := Lib.hid hb1
  have HT := Lib.hid (hT.fresh hb1)
  have HR1 := Lib.hid hr1
  have HS1 := Lib.hid hs1
  have k1 := H1.out.row.cell 1
  simp only [insC, List.cons_append, List.nil_append, List.getElem?_cons_zero, List.getElem?_cons_succ] at k1
  clear hr1 hb1 hs1
  go_enter Tryd.func64, Tryd.ntmps64
  go_upto_region 1 with fail
  rw [← hw1]
  clear hw1
  obtain ⟨a', c', hlook, htr'⟩ := H1.out.map.lookok hn HK.out
  have HTR := Lib.hid htr'
  clear hk htr'
  have k7 := H1.out.row.cell 7
  simp only [insC, List.cons_append, List.nil_append, List.getElem?_cons_zero, List.getElem?_cons_succ] at k7
  go_wp2_with fail
  refine (ask_yes w1).mono ?_
  rintro e w2 ⟨rfl, rfl⟩
  go_upto_region 3 with fail
  obtain ⟨w3, hw3⟩ : ∃ y, y = w2.alloc (.cells #[.int .i64 s'.1, .slice a' s'.2.length c'] 124) := ⟨_, rfl⟩
  have hr3 : Row w3 w2.heap.size 124 [.int .i64 s'.1, .slice a' s'.2.length c'] := by rw [hw3]; exact Row.new w2 _ _
  have hb3 : Below w2.heap.size w2 w3 := by rw [hw3]; exact (Below.refl _ _).alloc (Nat.le_refl _) _
  have HB3 := Lib.hid (HB1.out.trans (hb3.mono HB1.out.size))
  have H3 := Lib.hid (H1.out.fresh hb3)
  have HTR3 := Lib.hid (HTR.out.fresh hb3)
  have HT3 := Lib.hid (HT.out.fresh hb3)
  have hr4 := HR1.out.after hb3
  have e0 := hr3.cell 0
  have e1 := hr3.cell 1
  have f0 := hr4.cell 0
  have f1 := hr4.cell 1
  simp only [List.getElem?_cons_zero, List.getElem?_cons_succ] at e0 e1 f0 f1
  rw [← hw3]
  clear hw3 hr3 hb3 hr4 hlook k7 k1
  rw [HS1.out] at e0 e1 ⊢
  by_cases he : s'.1 = s.1
  · have hbe : (s'.1 == s.1) = true := by rw [he]; simp
    have HE := Lib.hid he
    obtain ⟨X, hX⟩ : ∃ X, X = decide (s'.2 = s.2) := ⟨_, rfl⟩
    have HX := Lib.hid hX
    clear he hX
    have t1 : Sl w3 1 (.slice (adrOf aT) nT cT) nT (nats s.2) := by have := HT3.out.1; have e := this.cap.2.2.1; rw [← e] at this; exact this
    have HT1 := Lib.hid t1
    clear t1
    go_wp2_with fail
    refine (equal_p a' s'.2.length c' (adrOf aT) nT cT s'.2 s.2 w3 HTR3.out.1 HT1.out X HX).mono ?_
    rintro e w5 ⟨rfl, hb5⟩
    have HB5 := Lib.hid (HB3.out.trans (hb5.mono HB3.out.size))
    have H5 := Lib.hid (H3.out.fresh hb5)
    clear hb5
    cases X with
    | true =>
      have hs : s' = s := Prod.ext HE.out (of_decide_eq_true HX.out.symm)
      rw [if_pos hs] at HO
      clear hs
      go_wp2_with fail
      refine (ask_yes w5).mono ?_
      rintro e w6 ⟨rfl, rfl⟩
      go_wp2_with fail
      first
        | go_end0
        | refine bodyPost_ret (results_none rfl _ _ _) rfl ?_
      exact .inl ⟨K, left, vL, HO, rfl, H5.out, Mods.fresh HB5.out _, fun g hg => .inl hg⟩
    | false =>
      have hs : ¬ s' = s := fun e => by have := HX.out; rw [e] at this; simp at this
      rw [if_neg hs] at HO
      clear hs
      go_wp2_with fail
      refine (ask_no w5).mono ?_
      rintro e w6 ⟨rfl, rfl⟩
      go_wp2_with fail
      exact ⟨rfl, .inr ⟨HO.out, rfl, Mods.fresh HB5.out _⟩⟩
  · have hbe : (s'.1 == s.1) = false := by rw [beq_eq_false_iff_ne]; exact he
    have hs : ¬ s' = s := fun e => he (by rw [e])
    rw [if_neg hs] at HO
    clear hs he
    go_wp2_with fail
    refine (ask_no w3).mono ?_
    rintro e w6 ⟨rfl, rfl⟩
    go_wp2_with fail
    exact ⟨rfl, .inr ⟨HO.out, rfl, Mods.fresh HB3.out _⟩⟩
theorem WkS.row8 {w0 : World} {ob bm base top f : Nat} {l : List Ins} {g : Ins} {aC : Option Addr} {nC cC : Nat} {w : World} {vL : Value} {K : Lab} {left : List Nat} (h : WkS w0 ob bm base top f l g aC nC cC w vL K left) : w.cell? ⟨ob, 8, none⟩ = some vL ∧ w.cell? ⟨ob, 7, none⟩ = some (.map (some bm)) ∧ w.cell? ⟨ob, 1, none⟩ = some (.slice aC nC cC) := by
  have k8 := h.row.cell 8
  have k7 := h.row.cell 7
  have k1 := h.row.cell 1
  exact ⟨k8, k7, k1⟩
/-- a new place is laid into the map and behind those that are left -/
theorem WkS.add {w0 : World} {ob bm base top f : Nat} {l : List Ins} {g : Ins} {aC : Option Addr} {nC cC : Nat} {w : World} {vL : Value} {K : Lab} {left : List Nat} (h : WkS w0 ob bm base top f l g aC nC cC w vL K left) {p : Nat} (hp : p < nC) {s : Lb} {aT : Option (Nat × Nat)} {nT cT : Nat} (hT : TrV w base top vL.ownBlock (.slice (adrOf aT) nT cT) s.2) (hk : K p = none)
    {ks : List Int} {φ : Int → StR} (h2 : ∀ k : Nat, (k : Int) ∈ ks ↔ K k ≠ none) (h3 : ∀ z ∈ ks, 0 ≤ z ∧ z < nC) (h4 : ks.length + unl nC K = nC) (h5 : ∀ (k : Nat) t, K k = some t → (φ k).1 = t.1 ∧ TrV w base top vL.ownBlock (sliceOf (φ k)) t.2)
    {w5 : World} (hm5 : MapIs stE Tryd.prog 3 w5 bm (putK ks p) (upd φ p (s.1, aT, nT, cT))) (hg5 : w.grownBy w5 (some bm)) {o : Obj} {w6 : World} {v6 : Value} (ho6 : Own w6 base 1 v6 (left.length + 1) (nats left ++ [.int .i64 (p : Nat)])) (hg6 : (w5.alloc o).grownBy w6 vL.ownBlock) (hc6 : ∀ g, v6.ownBlock = some g → vL.ownBlock = some g ∨ (w5.alloc o).heap.size ≤ g) :
    WkS w0 ob bm base top f l g aC nC cC (w6.setCell ⟨ob, 8, none⟩ v6) v6 (setK K p s) (left ++ [p]) ∧ Mods (WkP ob bm vL) w (w6.setCell ⟨ob, 8, none⟩ v6) ∧ ∀ g, v6.ownBlock = some g → vL.ownBlock = some g ∨ w.heap.size ≤ g := by
  have hvl : ∀ g, vL.ownBlock = some g → base ≤ g := fun g hg => h.lft.lt g hg
  have e5 := Mods.grown hg5
  have ea : Mods (fun _ => False) w5 (w5.alloc o) := (Mods.refl _ _).alloc o
  have e6 := Mods.grown hg6
  have e7 := Mods.set w6 ob 8 v6
  have s5 := hg5.size
  have sa : (w5.alloc o).heap.size = w5.heap.size + 1 := by simp
  have hob := h.obk
  have hbm := h.bmk
  have hne := h.ne
  have path : ∀ {v : Value} {T : List Nat}, TrV w base top vL.ownBlock v T → TrV (w6.setCell ⟨ob, 8, none⟩ v6) base top v6.ownBlock v T := by
    intro v T hv
    have t5 := hv.mods (B' := vL.ownBlock) h.up.2 e5 (fun g g1 _ _ e => by injection e with e; omega) (fun g hg => .inl hg)
    have ta := t5.mods (B' := vL.ownBlock) (by have := h.up; omega) ea (fun _ _ _ _ h => h) (fun g hg => .inl hg)
    have t6 := ta.mods (B' := v6.ownBlock) (by have := h.up; omega) e6 (fun g _ _ g2 e => g2 e.symm) hc6
    exact t6.mods (B' := v6.ownBlock) (by have := h.up; have := hg6.size; omega) e7 (fun g g1 _ _ e => by omega) (fun g hg => .inl hg)
  have hpk : ¬ (p : Int) ∈ ks := fun hm => (h2 p).1 hm hk
  have hput : putK ks p = ks ++ [(p : Int)] := by unfold putK; rw [if_neg hpk]
  have hall : Mods (WkP ob bm vL) w (w6.setCell ⟨ob, 8, none⟩ v6) := (((e5.mono fun g e => by unfold WkP; injection e with e; exact .inr (.inl e.symm)).trans (ea.mono fun _ h => h.elim)).trans (e6.mono fun g e => .inr (.inr e))).trans (e7.mono fun g e => .inl e)
  refine ⟨⟨?_, ?_, ?_, hob, hbm, hne, ?_, ?_⟩, hall, fun g hg => ?_⟩
  · have r := (((h.row.mods e5 (fun e => by injection e with e; omega)).alloc o).mods e6 (fun e => by have := hvl _ e; omega)).set 8 v6
    exact r
  · refine ⟨putK ks p, upd φ p (s.1, aT, nT, cT), ((hm5.mods ea (fun h => h)).mods e6 (fun e => by have := hvl _ e; omega)).mods e7 (fun e => hne e.symm), fun k => ?_, fun z hz => ?_, ?_, fun k t hkt => ?_⟩
    · rw [mem_putK, h2 k]
      unfold setK
      by_cases hkp : k = p
      · subst hkp; simp
      · rw [if_neg hkp]
        exact ⟨fun h => h.resolve_right (fun e => hkp (by omega)), .inl⟩
    · rcases mem_putK.1 hz with h | rfl
      · exact h3 z h
      · omega
    · rw [hput, List.length_append]
      have := unl_set (s := s) hp hk
      simp
      omega
    · unfold setK at hkt
      by_cases hkp : k = p
      · subst hkp
        rw [if_pos rfl] at hkt
        cases hkt
        rw [upd_same]
        exact ⟨rfl, path hT⟩
      · rw [if_neg hkp] at hkt
        rw [upd_other (fun e => hkp (by omega))]
        exact ⟨(h5 k t hkt).1, path (h5 k t hkt).2⟩
  · rw [List.length_append, nats_append]
    exact ho6.far hob.2 _
  · exact below_mods h.bel hall (fun g hg => by
      rcases hg with e | e | e
      · omega
      · omega
      · have := hvl g e; omega) h.bel.size
  · have h1 := h.up
    have h2 := hall.size
    exact ⟨h1.1, by omega⟩
  · rcases hc6 g hg with h1 | h1
    · exact .inl h1
    · right; omega
set_option maxHeartbeats 4000000 in
theorem to_new (w0 : World) (ob bm base top f : Nat) (l : List Ins) (g : Ins) (aC : Option Addr) (nC cC : Nat) (w : World) (vL : Value) (K : Lab) (left : List Nat) (h : WkS w0 ob bm base top f l g aC nC cC w vL K left) (hn : nC ≤ 1000000) (hlf : left.length ≤ 10000000) (p : Nat) (hp : p < nC) (s : Lb) (aT : Option (Nat × Nat)) (nT cT : Nat) (hT : TrV w base top vL.ownBlock (.slice (adrOf aT) nT cT) s.2) (hk : K p = none) :
    Calls Tryd.prog 64 #[.pointer (some ⟨ob, 0, none⟩), .int .i64 (p : Nat), .agg #[.int .i64 s.1, .slice (adrOf aT) nT cT]] w fun e w' => ToR w0 ob bm base top f l g aC nC cC w vL (toS nC ((p : Int), s) K left) e w' := by
  have HO := Lib.hid (toS_new (s := s) (left := left) hp hk)
  have HK := Lib.hid hk
  obtain ⟨w1, hw1⟩ : ∃ y, y = w.alloc (.cells #[.int .i64 s.1, .slice (adrOf aT) nT cT] 124) := ⟨_, rfl⟩
  have hr1 : Row w1 w.heap.size 124 [.int .i64 s.1, .slice (adrOf aT) nT cT] := by rw [hw1]; exact Row.new w _ _
  have hb1 : Below w.heap.size w w1 := by rw [hw1]; exact (Below.refl _ _).alloc (Nat.le_refl _) _
  have hs1 : w1.heap.size = w.heap.size + 1 := by rw [hw1]; simp
  have H1 := Lib.hid (h.fresh hb1)
  have HB1 := Lib.hid hb1
  have HT := Lib.hid (hT.fresh hb1)
  have HR1 := Lib.hid hr1
  have HS1 := Lib.hid hs1
  have k1 := H1.out.row.cell 1
  simp only [insC, List.cons_append, List.nil_append, List.getElem?_cons_zero, List.getElem?_cons_succ] at k1
  clear hr1 hb1 hs1
  go_enter Tryd.func64, Tryd.ntmps64
  go_upto_region 1 with fail
  rw [← hw1]
  clear hw1
  have hlook := H1.out.map.lookno hn hp HK.out
  clear hk
  have k7 := H1.out.row8.2.1
  go_wp2_with fail
  refine (ask_yes w1).mono ?_
  rintro e w2 ⟨rfl, rfl⟩
  go_upto_region 5 with fail
  obtain ⟨w3, hw3⟩ : ∃ y, y = w2.alloc (.cells #[.int .i64 0, .slice none 0 0] 124) := ⟨_, rfl⟩
  have hb3 : Below w2.heap.size w2 w3 := by rw [hw3]; exact (Below.refl _ _).alloc (Nat.le_refl _) _
  rw [← hw3]
  clear hw3
  have hr3 := HR1.out.after hb3
  have q0 := later_cell (show w3.cell? ⟨w.heap.size, 0, none⟩ = some (.int .i64 s.1) from hr3.cell 0)
  have q1 := later_cell (show w3.cell? ⟨w.heap.size, 1, none⟩ = some (.slice (adrOf aT) nT cT) from hr3.cell 1)
  have H3 := Lib.hid (H1.out.fresh hb3)
  have q7 := later_cell H3.out.row8.2.1
  have HB3 := Lib.hid ((HB1.out.trans (hb3.mono HB1.out.size)).trans ((Below.refl w3.heap.size w3).drew.mono (Nat.le_trans HB1.out.size hb3.size)))
  have H3d := Lib.hid (H3.out.fresh (Below.refl w3.heap.size w3).drew)
  have HTd := Lib.hid ((HT.out.fresh hb3).fresh (Below.refl w3.heap.size w3).drew)
  clear hb3 hr3 hlook k7 k1
  refine wp_region_idx Rb Rb_refl Rb_trans [(0,0),(0,1),(0,2),(0,3),(0,4),(0,5),(2,6)] (by kernel_rfl) (by kernel_rfl) (by kernel_rfl) ?_
  simp only [pickO, List.getD_cons_succ, List.getD_cons_zero]
  refine wpCan_seg 6 (by kernel_rfl) ?_
  simp only [List.take_succ_cons, List.take_zero, List.drop_succ_cons, List.drop_zero, List.map_cons, List.map_nil]
  iterate 6 (go_big_quiet_step (fail))
  refine wpQuiet_nil ?_
  clear q0 q1 q7 H3
  obtain ⟨wd, hwd⟩ : ∃ y, y = w3.drew := ⟨_, rfl⟩
  rw [← hwd] at HB3 H3d HTd ⊢
  clear hwd
  obtain ⟨ks, φ, hmp, g2, g3, g4, g5⟩ := H3d.out.map
  have G2 := Lib.hid g2
  have G3 := Lib.hid g3
  have G4 := Lib.hid g4
  have G5 := Lib.hid g5
  have hks : ks.length < maxLen := by simp [maxLen]; omega
  have HKS := Lib.hid hks
  have hwf : (Lit.int .i64 (p : Nat)).wf = true := wf_lit (by omega) (by omega)
  clear g2 g3 g4 g5 hks
  refine wpCan_list (k := 1) (fun KK hK => ?_) (fun h => by cases h)
  go_wp2_with (at_mapUpdate; refine wpL_put hmp keyI mapK HKS.out rfl _ _ _ rfl rfl rfl hwf (s.1, aT, nT, cT) rfl ?_; intro w5 hm5 hg5; have HM5 := Lib.hid hm5; have HG5 := Lib.hid hg5; clear hm5 hg5 hmp)
  refine hK _ _ (fun h => by cases h) ?_
  clear hK KK
  unfold wpCan
  have hr5 := H3d.out.row.mods (Mods.grown HG5.out) (fun e => by have := H3d.out.ne; injection e with e; omega)
  have k8 : w5.cell? ⟨ob, 8, none⟩ = some vL := hr5.cell 8
  have hO5 := H3d.out.lft.mods (Mods.grown HG5.out) (fun k hk e => by have := H3d.out.lft.lt k hk; have := H3d.out.bmk; injection e with e; omega)
  have HO5 := Lib.hid (hO5.alloc (.cells #[.int .i64 (p : Nat)] 3))
  have HS5 := Lib.hid (Sl.one w5 (.int .i64 (p : Nat)) 3)
  have HBS : Hid (base ≤ (w5.alloc (.cells #[.int .i64 (p : Nat)] 3)).heap.size) := Lib.hid (by have := H3d.out.up; have := HG5.out.size; simp; omega)
  have HR5 := Lib.hid (hr5.alloc (.cells #[.int .i64 (p : Nat)] 3))
  have HLF := Lib.hid hlf
  clear hr5 hO5
  go_wp2_with (at_builtin; refine wpL_appendX2 etI rfl _ _ rfl HO5.out rfl HS5.out rfl (by simp [Value.oneCell']) (by have := HLF.out; omega) (by have := HLF.out; simp [maxLen]; omega) HBS.out ?_; intro v6 w6 ho6 hg6 hc6; obtain ⟨a6, c6, rfl⟩ := ho6.form; have hr6 := HR5.out.mods (Mods.grown hg6) (fun e => by have := H3d.out.obk; have := HO5.out.lt _ e; omega); have d1 : w6.cell? ⟨ob, 8, none⟩ = some vL := hr6.cell 8; have f1 := hr6.free 8)
  first
    | go_end0
    | refine bodyPost_ret (results_none rfl _ _ _) rfl ?_
  obtain ⟨x1, x2, x3⟩ := H3d.out.add hp HTd.out HK.out G2.out G3.out G4.out G5.out HM5.out HG5.out ho6 hg6 hc6
  exact .inl ⟨_, _, _, HO, rfl, x1, (Mods.fresh HB3.out _).trans x2, fun g hg => (x3 g hg).imp id (fun h => Nat.le_trans HB3.out.size h)⟩
theorem to_p (w0 : World) (ob bm base top f : Nat) (l : List Ins) (g : Ins) (aC : Option Addr) (nC cC : Nat) (w : World) (vL : Value) (K : Lab) (left : List Nat) (h : WkS w0 ob bm base top f l g aC nC cC w vL K left) (hn : nC ≤ 1000000) (hlf : left.length ≤ 10000000) (at_ : Int) (s : Lb) (aT : Option (Nat × Nat)) (nT cT : Nat) (hT : TrV w base top vL.ownBlock (.slice (adrOf aT) nT cT) s.2) :
    Calls Tryd.prog 64 #[.pointer (some ⟨ob, 0, none⟩), .int .i64 at_, .agg #[.int .i64 s.1, .slice (adrOf aT) nT cT]] w fun e w' => ToR w0 ob bm base top f l g aC nC cC w vL (toS nC (at_, s) K left) e w' := by
  by_cases hr : 0 ≤ at_ ∧ at_ < nC
  · obtain ⟨p, rfl⟩ : ∃ p : Nat, at_ = p := ⟨at_.toNat, by omega⟩
    have hp : p < nC := by omega
    cases hk : K p with
    | some s' => exact to_was w0 ob bm base top f l g aC nC cC w vL K left h hn p hp s aT nT cT hT s' hk
    | none => exact to_new w0 ob bm base top f l g aC nC cC w vL K left h hn hlf p hp s aT nT cT hT hk
  · exact to_out w0 ob bm base top f l g aC nC cC w vL K left h at_ s aT nT cT hT hr
end Go.Proofs.YtoddklfblcfoiaaDoor
