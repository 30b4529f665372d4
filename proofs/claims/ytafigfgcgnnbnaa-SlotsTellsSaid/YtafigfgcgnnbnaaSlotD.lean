/-
  slots' read: the records of a page. Conditions: the slice reads as bytes.
-/
import Derived.Test.YtafigfgcgnnbnaaSlotC
import Derived.Test.YtafigfgcgnnbnaaRange
import Derived.Sort.QuietIn
namespace Go.Proofs.Ytafigfgcgnnbnaa
open Go.RowKit Go.Shelf
attribute [local go_sem] Oper.semAt_some
set_option linter.unusedVariables false
set_option linter.unusedSimpArgs false


theorem eachGo_len (p : List UInt8) : ∀ (ns : List UInt8) (q : Nat), (eachGo p ns q).length ≤ ns.length
  | [], q => by simp [eachGo]
  | n :: ns, q => by
    unfold eachGo
    split
    · simp
    · simp only [List.length_cons]; have := eachGo_len p ns (q + n.toNat); omega
theorem eachL_len (p : List UInt8) : (eachL p).length ≤ 255 := by
  cases p with
  | nil => simp [eachL]
  | cons b r =>
    simp only [eachL]
    split
    · simp
    · have h1 := eachGo_len (b :: r) (r.take b.toNat) (1 + b.toNat)
      have := b.toNat_lt
      simp only [List.length_take] at h1
      omega
theorem eachGo_flat (p : List UInt8) : ∀ (ns : List UInt8) (q : Nat), q ≤ p.length → (eachGo p ns q).flatten.length ≤ p.length - q
  | [], q, h => by simp [eachGo]
  | n :: ns, q, h => by
    unfold eachGo
    split
    · simp
    · rename_i h1
      have := eachGo_flat p ns (q + n.toNat) (by omega)
      simp only [List.flatten_cons, List.length_append, List.length_take, List.length_drop]
      omega
theorem eachL_flat (p : List UInt8) : (eachL p).flatten.length ≤ p.length := by
  cases p with
  | nil => simp [eachL]
  | cons b r =>
    simp only [eachL]
    split
    · simp
    · rename_i h
      have := eachGo_flat (b :: r) (r.take b.toNat) (1 + b.toNat) (by omega)
      omega
def readOk (p : List UInt8) : Bool := decide (p.length ≤ 248) && decide (writeL (eachL p) = p)
def readL (p : List UInt8) : List (List UInt8) := if readOk p then eachL p else []
theorem results_cell_BB {fn : Func} {p u : Tmp} (h : fn.results = #[.cell p 29, .tmp u]) {tmps : Array Value} {w : World} {b : Nat} {v : Value} (hv : ∃ a n c, v = .slice a n c) (hp : tmps.getD p undef = .pointer (some ⟨b, 0, none⟩)) (hc : w.cell? ⟨b, 0, none⟩ = some v) :
    (results fn tmps).run Try.prog w = .ok (.tuple #[v, tmps.getD u undef]) w := by
  obtain ⟨a, n, c, rfl⟩ := hv
  rw [results_cell_tmp h, hp]
  simp [go_sem, loadVar, hc]

set_option maxHeartbeats 1600000 in
theorem read_any (a : Option Addr) (n c : Nat) (p : List UInt8) (w : World) (hp : Sl w 1 (.slice a n c) n (bvs p)) (hsz : n ≤ 1048576) :
    Calls Try.prog 31 #[.slice a n c] w fun e w' => ∃ v cells, e = .returned (.tuple #[v, .bool (readOk p)]) ∧ Own w' w.heap.size 1 v (readL p).length cells ∧ RowsOf w cells (readL p) ∧ Below w.heap.size w w' := by
  have hn := hp.len
  have HN := Lib.hid hn.1
  have hn2 := hn.2
  clear hn
  refine (callsIn_wide (n := 3)).1 ?_
  refine callsIn_of_wp_marks Try.func31 rfl trivial ?_
  simp only [Try.ntmps31, List.size_toArray, List.length_cons, List.length_nil, Nat.reduceAdd, Nat.reduceSub, Array.replicate_succ, Array.replicate_zero, List.push_toArray, List.append_toArray, List.nil_append, List.cons_append]
  gi_wp2_with ((refine ⟨trivial, ?_⟩; gi_at_call 38; refine (callsIn_wide.2 (each_any a n c _)).mono ?_; rintro e w3 ⟨rfl, rfl⟩))
  obtain ⟨S, hS⟩ : ∃ S, S = w.heap.size := ⟨_, rfl⟩
  have hl0 : Boxed ((w.alloc (.cells #[.slice none 0 0] 29)).alloc (.cells #[.slice a n c] 22)) S 29 (.slice none 0 0) := by rw [hS]; exact (Boxed.new w _ _).alloc _
  have hp0 : Boxed ((w.alloc (.cells #[.slice none 0 0] 29)).alloc (.cells #[.slice a n c] 22)) (S + 1) 22 (.slice a n c) := by
    have := Boxed.new (w.alloc (.cells #[.slice none 0 0] 29)) 22 (.slice a n c)
    rwa [World.size_alloc, ← hS] at this
  have hB0 : Below S w ((w.alloc (.cells #[.slice none 0 0] 29)).alloc (.cells #[.slice a n c] 22)) := by rw [hS]; exact ((Below.refl _ _).alloc (Nat.le_refl _) _).alloc (by simp) _
  have hz0 : ((w.alloc (.cells #[.slice none 0 0] 29)).alloc (.cells #[.slice a n c] 22)).heap.size = S + 2 := by simp; omega
  rw [← hS]
  have HS := Lib.hid hS
  generalize hW2 : (w.alloc (.cells #[.slice none 0 0] 29)).alloc (.cells #[.slice a n c] 22) = W2 at hl0 hp0 hB0 hz0 ⊢
  clear hW2
  obtain ⟨E, hE⟩ : ∃ E, E = eachL p := ⟨_, rfl⟩
  have hE255 : E.length ≤ 255 := by rw [hE]; exact eachL_len p
  have HE := Lib.hid hE
  have hEk : ∀ (k : Nat) (r : List UInt8), (eachL p)[k]? = some r → E[k]? = some r := fun k r h => by rw [hE]; exact h
  have HEK := Lib.hid hEk
  clear hS hE hEk
  obtain ⟨R, hRd⟩ : ∃ R : Nat → World → Prop, R = fun k W => ∃ v cells, Boxed W S 29 v ∧ Boxed W (S + 1) 22 (.slice a n c) ∧ Own W (S + 4) 1 v k cells ∧ RowsOf w cells (E.take k) ∧ Below S w W := ⟨_, rfl⟩
  have HR : ∀ k W, R k W ↔ ∃ v cells, Boxed W S 29 v ∧ Boxed W (S + 1) 22 (.slice a n c) ∧ Own W (S + 4) 1 v k cells ∧ RowsOf w cells (E.take k) ∧ Below S w W := by
    intro k W; rw [hRd]
  clear hRd
  refine range_law (gf := 43) rfl (fun _ => by omega) rfl trivial (enters_of Try.func43 (by kernel_rfl) rfl) (R E.length) ?_ ?_
  · intro fn r hfn hr hL0
    have hY := each1_in (3 - 1) (by omega) (W2.heap.size + 1) (S + 1) a n c p w hp (by omega) (fun k W => Laid (W2.heap.size + 1) W2.heap.size r W ∧ R k W) ?js ?jd ?jy _ ⟨hL0, ?r0⟩
    case js =>
      rintro k W ⟨hL, hR⟩
      obtain ⟨v, cells, h1, h5, h2, h3, h4⟩ := (HR k W).1 hR
      exact ⟨h5, by rw [← HS.out]; exact h4⟩
    case jd =>
      rintro k W i ⟨hL, hR⟩
      obtain ⟨v, cells, h1, h5, h2, h3, h4⟩ := (HR k W).1 hR
      have hb := below_drewN (Below.refl W.heap.size W) i
      exact ⟨⟨hL.1, hL.2⟩, (HR k _).2 ⟨v, cells, h1, h5, h2.below hb, h3, below_drewN h4 i⟩⟩
    case r0 =>
      exact (HR 0 _).2 ⟨_, [], (hl0.alloc _).alloc _, (hp0.alloc _).alloc _, Own.nil _ _ _, by rw [List.take_zero]; exact RowsOf.nil _, (hB0.alloc (by omega) _).alloc (by simp; omega) _⟩
    case jy =>
      rintro k W rr av cv hk ⟨hL, hR⟩ hsr
      replace hk := HEK.out k rr hk
      obtain ⟨v, cells, h1, h5, h2, h3, h4⟩ := (HR k W).1 hR
      refine (yield_rec (R := fun W' => R (k + 1) W') hr hfn hL rfl (by omega) ?_).mono (fun e W' h => ⟨h.1, h.2.1, h.2.2⟩)
      clear hr
      have hL1 := hL.1
      have hL2 := hL.2
      have hkE := (List.getElem?_eq_some_iff.1 hk).1
      have hrows : RowsOf w (cells ++ [.slice av rr.length cv]) (E.take (k + 1)) := by
        have h := h3.snoc rfl hsr
        obtain ⟨_, e⟩ := List.getElem?_eq_some_iff.1 hk
        rw [List.take_succ_eq_append_getElem hkE, e]
        exact h
      obtain ⟨N, hN⟩ : ∃ N, N = rr.length := ⟨_, rfl⟩
      rw [← hN] at hrows
      rw [← hN]
      clear hR hk hN hsr h3
      gi_wp2
      refine ⟨hL1, ?_⟩
      have hlt := (Array.getElem?_eq_some_iff.1 hL1).1
      have q1 : ∀ b, b ≠ W2.heap.size + 1 → (W.putObj (W2.heap.size + 1) (.loop { r with state := .busy })).heap[b]? = W.heap[b]? := fun b hb => World.putObj_heap_other hb
      have q2 : (W.putObj (W2.heap.size + 1) (.loop { r with state := .busy })).heap[W2.heap.size + 1]? = some (.loop { r with state := .busy }) := World.putObj_heap_same hlt
      have q3 := grownBy_putObj' W (W2.heap.size + 1) (.loop { r with state := .busy })
      generalize W.putObj (W2.heap.size + 1) (.loop { r with state := .busy }) = W' at q1 q2 q3 ⊢
      have h1' : Boxed W' S 29 v := (q1 S (by omega)).trans h1
      have h5' : Boxed W' (S + 1) 22 (.slice a n c) := (q1 (S + 1) (by omega)).trans h5
      have hc1 := h1'.cell
      have hf1 := h1'.frozen
      have hne : ∀ b, S ≤ b → b < S + 4 → v.ownBlock ≠ some b := by
        intro b hb1 hb2 he
        have := h2.lt b he
        omega
      have h2' : Own W' (S + 4) 1 v k cells := h2.kept q3 (.inr (hne _ (by omega) (by omega)))
      have h4' : Below S w W' := h4.grown q3 (by have := h4.size; omega) (fun k e => by cases e; omega)
      obtain ⟨av', cv', rfl⟩ := h2'.form
      have h2a := h2'.alloc (.cells #[.slice av N cv] 22)
      have hone := Sl.one W' (.slice av N cv) 22
      have h1a := h1'.alloc (.cells #[.slice av N cv] 22)
      have hz' : S + 3 < W'.heap.size := by have := (Array.getElem?_eq_some_iff.1 q2).1; omega
      have hsz' : S + 4 ≤ (W'.alloc (.cells #[.slice av N cv] 22)).heap.size := by simp; omega
      gi_wp2_with (gi_at_builtin; refine wpListIn_append etBB rfl _ _ rfl h2a rfl hone rfl (by simp [Value.oneCell']) (by omega) (by simp [maxLen]; omega) hsz' ?_; intro v4 W4 hown4 hgr4 hblk4; obtain ⟨a4, c4, rfl⟩ := hown4.form; have hb4 := h1a.kept hgr4 (hne S (by omega) (by omega)).symm; have hc4 := hb4.cell; have hf4 := hb4.frozen)
      have hz4 : S + 3 < W4.heap.size := by have := hgr4.size; simp at this; omega
      have hq : ∀ u b, S < b → b < S + 4 → (W4.setCell ⟨S, 0, none⟩ u).heap[b]? = W'.heap[b]? := fun u b hb1 hb2 =>
        (((grownBy_setCell' W4 S u).block b (by omega) (by simp; omega)).trans (hgr4.block b (by simp; omega) (hne b (by omega) hb2).symm)).trans (Below.heap_alloc _ _ _ (by omega))
      have hB4 : Below S w W4 := (h4'.alloc (by omega) _).grown hgr4 (by simp; omega) (fun g hg => by have := h2'.lt g hg; omega)
      obtain ⟨W6, hW6⟩ : ∃ W6, W6 = W4.setCell ⟨S, 0, none⟩ (Value.slice a4 (k + 1) c4) := ⟨_, rfl⟩
      have hq6 : ∀ b, S < b → b < S + 4 → W6.heap[b]? = W'.heap[b]? := by rw [hW6]; exact hq _
      have hb6 : Boxed W6 S 29 (Value.slice a4 (k + 1) c4) := by rw [hW6]; exact hb4.set _
      have hne4 : ∀ b, S ≤ b → b < S + 4 → (Value.slice a4 (k + 1) c4).ownBlock ≠ some b := by
        intro b hb1 hb2 he
        have := hown4.lt b he
        omega
      have ho6 : Own W6 (S + 4) 1 (Value.slice a4 (k + 1) c4) (k + 1) (cells ++ [.slice av N cv]) := by
        rw [hW6]; exact hown4.kept (grownBy_setCell' W4 S _) (.inr (hne4 S (by omega) (by omega)))
      have hB6 : Below S w W6 := by rw [hW6]; exact hB4.grown (grownBy_setCell' W4 S _) (by omega) (fun g e => by cases e; omega)
      have hl6 : W6.heap[W2.heap.size + 1]? = some (.loop { r with state := .busy }) := (hq6 _ (by omega) (by omega)).trans q2
      rw [← hW6]
      have q6 := grownBy_putObj' W6 (W2.heap.size + 1) (.loop r)
      refine ⟨hl6, (hq6 _ (by omega) (by omega)).trans ((q1 _ (by omega)).trans hL2), (HR (k + 1) _).2 ⟨_, _, hb6.kept q6 (by simp; omega), ?_, ho6.kept q6 (.inr (hne4 _ (by omega) (by omega))), hrows, hB6.grown q6 (by have := hB6.size; have := HS.out; omega) (fun g e => by cases e; omega)⟩⟩
      exact (World.putObj_heap_other (by omega)).trans ((hq6 _ (by omega) (by omega)).trans h5')
    rw [← HE.out] at hY
    refine hY.mono ?_
    rintro e W ⟨he, hL, hR⟩
    exact ⟨he, hL, hR⟩
  · intro W r hR hL1 hL2
    obtain ⟨v, cells, h1, h5, h2, h3, h4⟩ := (HR _ W).1 hR
    have q5 := grownBy_putObj' W (W2.heap.size + 1) (.loop { r with state := .exhausted })
    have hK : (W.putObj (W2.heap.size + 1) (.loop { r with state := .exhausted })).heap[W2.heap.size]? = some (.deferred (some [])) := (World.putObj_heap_other (by omega)).trans hL2
    generalize W.putObj (W2.heap.size + 1) (.loop { r with state := .exhausted }) = W5 at q5 hK ⊢
    have hne : ∀ b, S ≤ b → b < S + 4 → v.ownBlock ≠ some b := by
      intro b hb1 hb2 he
      have := h2.lt b he
      omega
    have h1' := h1.kept q5 (by simp; omega)
    have h2' := h2.kept q5 (.inr (hne _ (by omega) (by omega)))
    have h4' := h4.grown q5 (by have := h4.size; have := HS.out; omega) (fun k e => by cases e; omega)
    have hc1 := h1'.cell
    have hf1 := h1'.frozen
    obtain ⟨av, cv, rfl⟩ := h2'.form
    rw [List.take_length] at h3
    clear hR h1 h5 hL1 hL2
    dsimp only
    have HN2 := HN.out
    by_cases hn248 : n ≤ 248
    · have hn3 : ¬ (248 : Int) < n := by omega
      have hflat : E.flatten.length ≤ 1048576 := by have := eachL_flat p; rw [← HE.out] at this; omega
      have hEl : E.length ≤ 1073741824 := by omega
      have hS4 : S ≤ W5.heap.size := by have := h4'.size; have := HS.out; omega
      have hWL : S + 2 < W5.heap.size := by have := (Array.getElem?_eq_some_iff.1 hK).1; omega
      gi_wp2
      refine ⟨trivial, ?_⟩
      refine (callsIn_wide.2 (write_any av E.length cv cells E W5 h2'.sl (h3.below (by rw [← HS.out]; exact h4')) (by omega) hEl)).mono ?_
      rintro e W6 ⟨v6, rfl, ho6, hb6⟩
      obtain ⟨a6, c6, rfl⟩ := ho6.form
      have h1b : Boxed W6 S 29 (Value.slice av E.length cv) := (hb6.block S (by omega)).trans h1'
      have h2b := h2'.below hb6
      have h4b := h4'.trans (hb6.mono hS4)
      have hKb : W6.heap[W2.heap.size]? = some (.deferred (some [])) := (hb6.block _ (by omega)).trans hK
      have hc2 := h1b.cell
      have hf2 := h1b.frozen
      clear hc1 hf1 h1' h2' h4' hK
      obtain ⟨LW, hLW⟩ : ∃ LW, LW = (writeL E).length := ⟨_, rfl⟩
      rw [← hLW] at ho6
      rw [← hLW]
      clear hLW
      gi_wp2
      refine ⟨trivial, ?_⟩
      refine (callsIn_wide.2 (equal_any a6 LW c6 a n c (writeL E) p W6 ho6.sl (hp.below (by rw [← HS.out]; exact h4b)))).mono ?_
      rintro e W7 ⟨rfl, hb7⟩
      have h1c : Boxed W7 S 29 (Value.slice av E.length cv) := (hb7.block S (by have := hb6.size; omega)).trans h1b
      have h2c := h2b.below hb7
      have h4c := h4b.trans (hb7.mono (by have := hb6.size; omega))
      have hKc : W7.heap[W2.heap.size]? = some (.deferred (some [])) := (hb7.block _ (by have := hb6.size; omega)).trans hKb
      have hc3 := h1c.cell
      have hf3 := h1c.frozen
      clear hc2 hf2 h1b h2b h4b hKb
      have hok : Hid (readOk p = decide (writeL E = p)) := by
        show _ = _
        rw [readOk, HE.out, decide_eq_true (by omega : p.length ≤ 248)]; rfl
      cases heq : decide (writeL E = p) with
      | true =>
        have hrl : Hid (readOk p = true ∧ readL p = E) := by
          have e1 : readOk p = true := by rw [hok.out, heq]
          exact ⟨e1, by rw [readL, if_pos e1, HE.out]⟩
        gi_wp2
        have h1s := h1c.set (Value.slice av E.length cv)
        have q6 := grownBy_setCell' W7 S (Value.slice av E.length cv)
        have hW0 := h4c.size
        have hS0 := HS.out
        have hWK := (Array.getElem?_eq_some_iff.1 hKc).1
        have hKs := (q6.block (S + 2) (by omega) (by simp)).trans (hz0 ▸ hKc)
        have h2s := h2c.kept q6 (.inr (hne S (Nat.le_refl _) (by omega)))
        have h4s := h4c.grown q6 (by omega) (fun g e => by cases e; exact Nat.le_refl _)
        have hz8 : S + 2 < (W7.setCell ⟨S, 0, none⟩ (Value.slice av E.length cv)).heap.size := by have := q6.size; omega
        generalize W7.setCell ⟨S, 0, none⟩ (Value.slice av E.length cv) = W8 at h1s q6 hKs h2s h4s hz8 ⊢
        have q7 := grownBy_putObj' W8 (S + 2) (.deferred none)
        have hS8 : S ≤ W8.heap.size := by omega
        refine ⟨by simp, .inl ⟨_, _, rfl, run_takeDeferred hKs, ?_⟩⟩
        refine ⟨_, results_cell_BB rfl ⟨_, _, _, rfl⟩ rfl (h1s.kept q7 (by simp)).cell, _, cells, by rw [hrl.out.1]; rfl, ?_, by rw [hrl.out.2]; exact h3, ?_⟩
        · rw [hrl.out.2]
          exact (h2s.kept q7 (.inr (hne _ (by omega) (by omega)))).mono (by omega)
        · rw [← HS.out]
          exact h4s.grown q7 hS8 (fun g e => by cases e; omega)
      | false =>
        have hrl : Hid (readOk p = false ∧ readL p = []) := by
          have e1 : readOk p = false := by rw [hok.out, heq]
          exact ⟨e1, by rw [readL, e1]; rfl⟩
        gi_wp2
        have h1s := h1c.set (Value.slice none 0 0)
        have q6 := grownBy_setCell' W7 S (Value.slice none 0 0)
        have hW0 := h4c.size
        have hS0 := HS.out
        have hWK := (Array.getElem?_eq_some_iff.1 hKc).1
        have hKs := (q6.block (S + 2) (by omega) (by simp)).trans (hz0 ▸ hKc)
        have h2s := h2c.kept q6 (.inr (hne S (Nat.le_refl _) (by omega)))
        have h4s := h4c.grown q6 (by omega) (fun g e => by cases e; exact Nat.le_refl _)
        have hz8 : S + 2 < (W7.setCell ⟨S, 0, none⟩ (Value.slice none 0 0)).heap.size := by have := q6.size; omega
        generalize W7.setCell ⟨S, 0, none⟩ (Value.slice none 0 0) = W8 at h1s q6 hKs h2s h4s hz8 ⊢
        have q7 := grownBy_putObj' W8 (S + 2) (.deferred none)
        have hS8 : S ≤ W8.heap.size := by omega
        refine ⟨by simp, .inl ⟨_, _, rfl, run_takeDeferred hKs, ?_⟩⟩
        refine ⟨_, results_cell_BB rfl ⟨_, _, _, rfl⟩ rfl (h1s.kept q7 (by simp)).cell, _, [], by rw [hrl.out.1]; rfl, ?_, by rw [hrl.out.2]; exact RowsOf.nil _, ?_⟩
        · rw [hrl.out.2]
          exact Own.nil _ _ _
        · rw [← HS.out]
          exact h4s.grown q7 hS8 (fun g e => by cases e; omega)
    · have hn3 : (248 : Int) < n := by omega
      have hrl : Hid (readOk p = false ∧ readL p = []) := by
        have e1 : readOk p = false := by rw [readOk, decide_eq_false (by omega : ¬ p.length ≤ 248)]; rfl
        exact ⟨e1, by rw [readL, e1]; rfl⟩
      gi_wp2
      refine ⟨trivial, ?_⟩
      gi_wp2
      refine ⟨trivial, ?_⟩
      gi_wp2
      have h1s := h1'.set (Value.slice none 0 0)
      have q6 := grownBy_setCell' W5 S (Value.slice none 0 0)
      have hW0 := h4'.size
      have hS0 := HS.out
      have hWK := (Array.getElem?_eq_some_iff.1 hK).1
      have hKs := (q6.block (S + 2) (by omega) (by simp)).trans (hz0 ▸ hK)
      have h2s := h2'.kept q6 (.inr (hne S (Nat.le_refl _) (by omega)))
      have h4s := h4'.grown q6 (by omega) (fun g e => by cases e; exact Nat.le_refl _)
      have hz8 : S + 2 < (W5.setCell ⟨S, 0, none⟩ (Value.slice none 0 0)).heap.size := by have := q6.size; omega
      generalize W5.setCell ⟨S, 0, none⟩ (Value.slice none 0 0) = W8 at h1s q6 hKs h2s h4s hz8 ⊢
      have q7 := grownBy_putObj' W8 (S + 2) (.deferred none)
      have hS8 : S ≤ W8.heap.size := by omega
      refine ⟨by simp, .inl ⟨_, _, rfl, run_takeDeferred hKs, ?_⟩⟩
      refine ⟨_, results_cell_BB rfl ⟨_, _, _, rfl⟩ rfl (h1s.kept q7 (by simp)).cell, _, [], by rw [hrl.out.1]; rfl, ?_, by rw [hrl.out.2]; exact RowsOf.nil _, ?_⟩
      · rw [hrl.out.2]
        exact Own.nil _ _ _
      · rw [← HS.out]
        exact h4s.grown q7 hS8 (fun g e => by cases e; omega)
end Go.Proofs.Ytafigfgcgnnbnaa
