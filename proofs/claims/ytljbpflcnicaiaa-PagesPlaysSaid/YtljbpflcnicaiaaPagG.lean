/-
  Pages and Sectors, the program's, walked. Conditions: a map reads as one.
-/
import Derived.Test.YtljbpflcnicaiaaPagF
namespace Go.Proofs.Ytljbpflcnicaiaa
open Go.RowKit
set_option linter.unusedVariables false
set_option linter.unusedSimpArgs false

attribute [local go_sem] Oper.semAt_some

theorem etI : ET Try.prog 36 3 (.int .i64 0) 1 8 := ⟨Try.underlying36, by kernel_rfl, rfl, by decide⟩
def hasP (S : List Nat) (i : Nat) : Bool := decide (0 < S.getD i 0)
/-- of the first k pages those that have a sector, each by g -/
def selG (S : List Nat) (g : Nat → Int) (k : Nat) : List Int := ((List.range k).filter (hasP S)).map g
theorem selG_succ (S : List Nat) (g : Nat → Int) (k : Nat) : selG S g (k + 1) = selG S g k ++ if hasP S k then [g k] else [] := by
  unfold selG
  rw [List.range_succ, List.filter_append, List.map_append]
  congr 1
  by_cases h : hasP S k <;> simp [h]
theorem selG_len (S : List Nat) (g : Nat → Int) (k : Nat) : (selG S g k).length ≤ k := by
  unfold selG
  rw [List.length_map]
  exact Nat.le_trans (List.length_filter_le _ _) (by simp)
theorem PM.block {w w' : World} {b : Nat} {S : List Nat} (h : PM w b S) (hb : w'.heap[b]? = w.heap[b]?) : PM w' b S := ⟨hb.trans h.1, h.2⟩
theorem PM.below {w w' : World} {b : Nat} {S : List Nat} (h : PM w b S) (hb : Below w.heap.size w w') : PM w' b S := ⟨h.1.after hb, h.2⟩
theorem RM.below {w w' : World} {b : Nat} {S : List Nat} (h : RM w b S) (hb : Below w.heap.size w w') : RM w' b S := ⟨h.1.after hb, h.2⟩
theorem PM.mods {w w' : World} {P : Nat → Prop} {b : Nat} {S : List Nat} (h : PM w b S) (hm : Mods P w w') (hn : ¬ P b) : PM w' b S := ⟨h.1.mods hm hn, h.2⟩
theorem RM.mods {w w' : World} {P : Nat → Prop} {b : Nat} {S : List Nat} (h : RM w b S) (hm : Mods P w w') (hn : ¬ P b) : RM w' b S := ⟨h.1.mods hm hn, h.2⟩
theorem PM.lt {w : World} {b : Nat} {S : List Nat} (h : PM w b S) : b < w.heap.size := h.1.lt
theorem RM.lt {w : World} {b : Nat} {S : List Nat} (h : RM w b S) : b < w.heap.size := h.1.lt

theorem all_any (p : Option Addr) (w : World) : Calls Try.prog 36 #[.pointer p] w fun e w' =>
    e = .returned (.func (.func 46) #[] #[.pointer (some ⟨w.heap.size, 0, none⟩)]) ∧ w.alloc (.cells #[.pointer p] 25) = w' := by
  go_enter Try.func36, Try.ntmps36
  go_wp2
  go_ret
  exact ⟨rfl, rfl⟩
set_option maxRecDepth 100000 in
set_option maxHeartbeats 1600000 in
theorem all1_in (n : Nat) (hn : 1 ≤ n) (l bS b : Nat) (S : List Nat) (J : Nat → World → Prop)
    (hJ : ∀ k W, J k W → Boxed W bS 25 (.pointer (some ⟨b, 0, none⟩)) ∧ PM W b S)
    (hN : ∀ k W, hasP S k = false → J k W → J (k + 1) W)
    (hY : ∀ k W, k < 1024 → hasP S k = true → J k W → YieldAt Fence.wide (n - 1) Try.prog l #[.int .i64 (k : Int), .int .i64 ((S.getD k 0 : Nat) : Int)] W fun e W' => e = .returned (.bool true) ∧ J (k + 1) W')
    (W : World) (h0 : J 0 W) :
    CallsIn Fence.wide n Try.prog 46 #[.func (.yield l) #[] #[], .pointer (some ⟨bS, 0, none⟩)] W fun e W' => (∃ v, e = .returned v) ∧ J 1024 W' := by
  refine callsIn_of_wp Try.func46 rfl trivial ?_ rfl
  simp only [Try.ntmps46, List.size_toArray, List.length_cons, List.length_nil, Nat.reduceAdd, Nat.reduceSub, Array.replicate_succ, Array.replicate_zero, List.push_toArray, List.append_toArray, List.nil_append, List.cons_append]
  have HJ := Lib.hid hJ
  have HNN := Lib.hid hN
  have HY := Lib.hid hY
  clear hJ hN hY
  gi_wp2
  gi_loopw [3, 4] (fun v3 v4 wr => ∃ k : Nat, k ≤ 1024 ∧ v4 = .int .i64 k ∧ J k wr) (fun _ v4 _ => 1024 - (intOf v4).toNat)
  case atStart => exact ⟨0, Nat.zero_le _, rfl, h0⟩
  case round =>
    obtain ⟨k, hk, rfl, hJk⟩ := hrel
    by_cases hk4 : k = 1024
    · subst hk4
      gi_wp2
      go_end0
      exact ⟨⟨_, rfl⟩, hJk⟩
    · have hlt : k < 1024 := by omega
      have hlt' : (k : Int) < 1024 := by omega
      have hc2 := (HJ.out k wr hJk).1.cell
      have hM := (HJ.out k wr hJk).2
      have hcs := hM.cell k hlt
      have hs9 := hM.2.2 k
      have hB0 : hasS S (k : Int) = hasP S k := by
        rw [hasS, decide_eq_true (by omega : (0 : Int) ≤ k), decide_eq_true hlt']; rfl
      have HB0 := Lib.hid hB0
      obtain ⟨s, hs0⟩ : ∃ s, s = S.getD k 0 := ⟨_, rfl⟩
      rw [← hs0] at hcs hs9
      have HS0 := Lib.hid hs0
      clear hB0 hs0
      gi_wp2_with ((refine ⟨trivial, ?_⟩; gi_at_call 31))
      refine (callsIn_wide.2 (has_h b S (k : Int) _ hM)).mono ?_
      rintro e w3 ⟨B, rfl, HB, rfl⟩
      cases B with
      | false =>
        have hJ3 := HNN.out k _ (by rw [← HB0.out]; exact HB.out.symm) hJk
        gi_wp2
        refine ⟨fun _ h => (by cases h), ?_⟩
        gi_wp2
        exact ⟨⟨k + 1, by omega, by go_num, hJ3⟩, by simp [intOf]; omega⟩
      | true =>
        have hy0 := HY.out k wr hlt (by rw [← HB0.out]; exact HB.out.symm) hJk
        rw [← HS0.out] at hy0
        obtain ⟨fn, tmps, assign, body, hy, hR⟩ := hy0
        clear hM
        gi_wp2
        refine hR.mono ?_
        rintro e W3 ⟨rfl, hJ3⟩
        gi_wp2
        exact ⟨⟨k + 1, by omega, by go_num, hJ3⟩, by simp [intOf]; omega⟩

set_option maxRecDepth 100000 in
set_option maxHeartbeats 1600000 in
theorem pages_p (b : Nat) (S : List Nat) (w : World) (h : PM w b S) (L : List Int) (hL : Hid (L = selG S Int.ofNat 1024)) (N : Nat) (hN : Hid (N = L.length)) :
    Calls Try.prog 21 #[.pointer (some ⟨b, 0, none⟩)] w fun e w' => ∃ v, e = .returned v ∧ Own w' w.heap.size 1 v N (ints L) ∧ Below w.heap.size w w' := by
  refine (callsIn_wide (n := 3)).1 ?_
  refine callsIn_of_wp_marks Try.func21 rfl trivial ?_
  simp only [Try.ntmps21, List.size_toArray, List.length_cons, List.length_nil, Nat.reduceAdd, Nat.reduceSub, Array.replicate_succ, Array.replicate_zero, List.push_toArray, List.append_toArray, List.nil_append, List.cons_append]
  gi_wp2_with ((refine ⟨trivial, ?_⟩; gi_at_call 36; refine (callsIn_wide.2 (all_any _ _)).mono ?_; rintro e w3 ⟨rfl, rfl⟩))
  obtain ⟨Z, hZ⟩ : ∃ Z, Z = w.heap.size := ⟨_, rfl⟩
  have hl0 : Boxed ((w.alloc (.cells #[.slice none 0 0] 36)).alloc (.cells #[.pointer (some ⟨b, 0, none⟩)] 25)) Z 36 (.slice none 0 0) := by rw [hZ]; exact (Boxed.new w _ _).alloc _
  have hp0 : Boxed ((w.alloc (.cells #[.slice none 0 0] 36)).alloc (.cells #[.pointer (some ⟨b, 0, none⟩)] 25)) (Z + 1) 25 (.pointer (some ⟨b, 0, none⟩)) := by
    have := Boxed.new (w.alloc (.cells #[.slice none 0 0] 36)) 25 (.pointer (some ⟨b, 0, none⟩))
    rwa [World.size_alloc, ← hZ] at this
  have hB0 : Below Z w ((w.alloc (.cells #[.slice none 0 0] 36)).alloc (.cells #[.pointer (some ⟨b, 0, none⟩)] 25)) := by rw [hZ]; exact ((Below.refl _ _).alloc (Nat.le_refl _) _).alloc (by simp) _
  have hz0 : ((w.alloc (.cells #[.slice none 0 0] 36)).alloc (.cells #[.pointer (some ⟨b, 0, none⟩)] 25)).heap.size = Z + 2 := by simp; omega
  have hbZ : b < Z := by rw [hZ]; exact h.lt
  rw [← hZ]
  have HZ := Lib.hid hZ
  generalize hW2 : (w.alloc (.cells #[.slice none 0 0] 36)).alloc (.cells #[.pointer (some ⟨b, 0, none⟩)] 25) = W2 at hl0 hp0 hB0 hz0 ⊢
  clear hW2 hZ
  obtain ⟨R, hRd⟩ : ∃ R : Nat → World → Prop, R = fun k W => ∃ v M, Boxed W Z 36 v ∧ Boxed W (Z + 1) 25 (.pointer (some ⟨b, 0, none⟩)) ∧ M = (selG S Int.ofNat k).length ∧ Own W (Z + 4) 1 v M (ints (selG S Int.ofNat k)) ∧ Below Z w W := ⟨_, rfl⟩
  have HR : ∀ k W, R k W ↔ ∃ v M, Boxed W Z 36 v ∧ Boxed W (Z + 1) 25 (.pointer (some ⟨b, 0, none⟩)) ∧ M = (selG S Int.ofNat k).length ∧ Own W (Z + 4) 1 v M (ints (selG S Int.ofNat k)) ∧ Below Z w W := by
    intro k W; rw [hRd]
  clear hRd
  refine range_law (gf := 46) rfl (fun _ => by omega) rfl trivial (enters_of Try.func46 (by kernel_rfl) rfl) (R 1024) ?_ ?_
  · intro fn r hfn hr hL0
    have hY := all1_in (3 - 1) (by omega) (W2.heap.size + 1) (Z + 1) b S (fun k W => Laid (W2.heap.size + 1) W2.heap.size r W ∧ R k W) ?js ?jn ?jy _ ⟨hL0, ?r0⟩
    case js =>
      rintro k W ⟨hL, hR⟩
      obtain ⟨v, M, h1, h5, h6, h2, h4⟩ := (HR k W).1 hR
      exact ⟨h5, h.block (h4.block b hbZ)⟩
    case jn =>
      rintro k W hP ⟨hL, hR⟩
      obtain ⟨v, M, h1, h5, h6, h2, h4⟩ := (HR k W).1 hR
      have e : selG S Int.ofNat (k + 1) = selG S Int.ofNat k := by rw [selG_succ, hP]; simp
      exact ⟨hL, (HR (k + 1) _).2 ⟨v, M, h1, h5, by rw [e]; exact h6, by rw [e]; exact h2, h4⟩⟩
    case r0 =>
      exact (HR 0 _).2 ⟨_, 0, (hl0.alloc _).alloc _, (hp0.alloc _).alloc _, rfl, Own.nil _ _ _, (hB0.alloc (by omega) _).alloc (by simp; omega) _⟩
    case jy =>
      rintro k W hk hP ⟨hL, hR⟩
      obtain ⟨v, M, h1, h5, h6, h2, h4⟩ := (HR k W).1 hR
      refine (yield_rec (R := fun W' => R (k + 1) W') hr hfn hL rfl (by omega) ?_).mono (fun e W' h => ⟨h.1, h.2.1, h.2.2⟩)
      clear hr
      have hL1 := hL.1
      have hL2 := hL.2
      have hM9 : M ≤ 1024 := by rw [h6]; have := selG_len S Int.ofNat k; omega
      have HS : Hid (selG S Int.ofNat (k + 1) = selG S Int.ofNat k ++ [Int.ofNat k]) := by show _ = _; rw [selG_succ, hP]; simp
      have H6 := Lib.hid h6
      obtain ⟨y, hy⟩ : ∃ y, y = S.getD k 0 := ⟨_, rfl⟩
      have hval : (Int.ofNat k : Int) = (k : Int) := by first | rfl | (rw [hy])
      rw [hval] at HS
      rw [← hy]
      clear hR h6 hP hval hy
  
      gi_wp2
      refine ⟨hL1, ?_⟩
      have hlt := (Array.getElem?_eq_some_iff.1 hL1).1
      have q1 : ∀ b, b ≠ W2.heap.size + 1 → (W.putObj (W2.heap.size + 1) (.loop { r with state := .busy })).heap[b]? = W.heap[b]? := fun b hb => World.putObj_heap_other hb
      have q2 : (W.putObj (W2.heap.size + 1) (.loop { r with state := .busy })).heap[W2.heap.size + 1]? = some (.loop { r with state := .busy }) := World.putObj_heap_same hlt
      have q3 := grownBy_putObj' W (W2.heap.size + 1) (.loop { r with state := .busy })
      generalize W.putObj (W2.heap.size + 1) (.loop { r with state := .busy }) = W' at q1 q2 q3 ⊢
      have h1' : Boxed W' Z 36 v := (q1 Z (by omega)).trans h1
      have h5' : Boxed W' (Z + 1) 25 (.pointer (some ⟨b, 0, none⟩)) := (q1 (Z + 1) (by omega)).trans h5
      have hc1 := h1'.cell
      have hf1 := h1'.frozen
      have hne : ∀ b, Z ≤ b → b < Z + 4 → v.ownBlock ≠ some b := by
        intro b hb1 hb2 he
        have := h2.lt b he
        omega
      have h2' := h2.kept q3 (.inr (hne _ (by omega) (by omega)))
      have h4' : Below Z w W' := h4.grown q3 (by have := h4.size; have := HZ.out; omega) (fun k e => by cases e; omega)
      obtain ⟨av', cv', rfl⟩ := h2'.form
      have h2a := h2'.alloc (.cells #[.int .i64 (k : Int)] 3)
      have hone := Sl.one W' (.int .i64 (k : Int)) 3
      have h1a := h1'.alloc (.cells #[.int .i64 (k : Int)] 3)
      have hz' : Z + 3 < W'.heap.size := by have := (Array.getElem?_eq_some_iff.1 q2).1; omega
      have hsz' : Z + 4 ≤ (W'.alloc (.cells #[.int .i64 (k : Int)] 3)).heap.size := by simp; omega
      gi_wp2_with (gi_at_builtin; refine wpListIn_append etI rfl _ _ rfl h2a rfl hone rfl (by simp [Value.oneCell']) (by omega) (by simp [maxLen]; omega) hsz' ?_; intro v4 W4 hown4 hgr4 hblk4; obtain ⟨a4, c4, rfl⟩ := hown4.form; have hb4 := h1a.kept hgr4 (hne Z (by omega) (by omega)).symm; have hc4 := hb4.cell; have hf4 := hb4.frozen)
      have hz4 : Z + 3 < W4.heap.size := by have := hgr4.size; simp at this; omega
      have hq : ∀ u b, Z < b → b < Z + 4 → (W4.setCell ⟨Z, 0, none⟩ u).heap[b]? = W'.heap[b]? := fun u b hb1 hb2 =>
        (((grownBy_setCell' W4 Z u).block b (by omega) (by simp; omega)).trans (hgr4.block b (by simp; omega) (hne b (by omega) hb2).symm)).trans (Below.heap_alloc _ _ _ (by omega))
      have hB4 : Below Z w W4 := (h4'.alloc (by omega) _).grown hgr4 (by simp; omega) (fun g hg => by have := h2'.lt g hg; omega)
      obtain ⟨W6, hW6⟩ : ∃ W6, W6 = W4.setCell ⟨Z, 0, none⟩ (Value.slice a4 (M + 1) c4) := ⟨_, rfl⟩
      have hq6 : ∀ b, Z < b → b < Z + 4 → W6.heap[b]? = W'.heap[b]? := by rw [hW6]; exact hq _
      have hb6 : Boxed W6 Z 36 (Value.slice a4 (M + 1) c4) := by rw [hW6]; exact hb4.set _
      have hne4 : ∀ b, Z ≤ b → b < Z + 4 → (Value.slice a4 (M + 1) c4).ownBlock ≠ some b := by
        intro b hb1 hb2 he
        have := hown4.lt b he
        omega
      have ho6 : Own W6 (Z + 4) 1 (Value.slice a4 (M + 1) c4) (M + 1) (ints (selG S Int.ofNat (k + 1))) := by
        rw [hW6, HS.out, ints_append]; exact hown4.kept (grownBy_setCell' W4 Z _) (.inr (hne4 Z (by omega) (by omega)))
      have hB6 : Below Z w W6 := by rw [hW6]; exact hB4.grown (grownBy_setCell' W4 Z _) (by omega) (fun g e => by cases e; omega)
      have hl6 : W6.heap[W2.heap.size + 1]? = some (.loop { r with state := .busy }) := (hq6 _ (by omega) (by omega)).trans q2
      rw [← hW6]
      have q6 := grownBy_putObj' W6 (W2.heap.size + 1) (.loop r)
      refine ⟨hl6, (hq6 _ (by omega) (by omega)).trans ((q1 _ (by omega)).trans hL2), (HR (k + 1) _).2 ⟨_, M + 1, hb6.kept q6 (by simp; omega), ?_, by rw [HS.out, List.length_append, H6.out]; rfl, ho6.kept q6 (.inr (hne4 _ (by omega) (by omega))), hB6.grown q6 (by have := hB6.size; have := HZ.out; omega) (fun g e => by cases e; omega)⟩⟩
      exact (World.putObj_heap_other (by omega)).trans ((hq6 _ (by omega) (by omega)).trans h5')
    refine hY.mono ?_
    rintro e W ⟨he, hL, hR⟩
    exact ⟨he, hL, hR⟩
  · intro W r hR hL1 hL2
    obtain ⟨v, M, h1, h5, h6, h2, h4⟩ := (HR _ W).1 hR
    have q5 := grownBy_putObj' W (W2.heap.size + 1) (.loop { r with state := .exhausted })
    have hK : (W.putObj (W2.heap.size + 1) (.loop { r with state := .exhausted })).heap[W2.heap.size]? = some (.deferred (some [])) := (World.putObj_heap_other (by omega)).trans hL2
    generalize W.putObj (W2.heap.size + 1) (.loop { r with state := .exhausted }) = W5 at q5 hK ⊢
    have hne : ∀ b, Z ≤ b → b < Z + 4 → v.ownBlock ≠ some b := by
      intro b hb1 hb2 he
      have := h2.lt b he
      omega
    have h1' := h1.kept q5 (by simp; omega)
    have h2' := h2.kept q5 (.inr (hne _ (by omega) (by omega)))
    have h4' := h4.grown q5 (by have := h4.size; have := HZ.out; omega) (fun k e => by cases e; omega)
    have hc1 := h1'.cell
    have hf1 := h1'.frozen
    obtain ⟨av, cv, rfl⟩ := h2'.form
    have HNM : Hid (N = M ∧ L = selG S Int.ofNat 1024) := ⟨by rw [hN.out, hL.out, h6], hL.out⟩
    have hZ5 : Z ≤ W5.heap.size := by have := h4'.size; have := HZ.out; omega
    have hK2 : W5.heap[Z + 2]? = some (.deferred (some [])) := by rw [← hz0]; exact hK
    clear hR h1 h5 hL1 hL2 h6 h2 h4 hK
    dsimp only
    rw [hz0]
    gi_wp2
    have q7 := grownBy_putObj' W5 (Z + 2) (.deferred none)
    refine ⟨by simp, .inl ⟨_, _, rfl, run_takeDeferred hK2, ?_⟩⟩
    refine ⟨_, results_tmp rfl _ _ _, _, rfl, ?_, ?_⟩
    · rw [HNM.out.1, HNM.out.2]
      exact (h2'.kept q7 (.inr (hne _ (by omega) (by omega)))).mono (by have := HZ.out; omega)
    · rw [← HZ.out]
      exact h4'.grown q7 hZ5 (fun g e => by cases e; omega)
set_option maxRecDepth 100000 in
set_option maxHeartbeats 1600000 in
theorem sectors_p (b : Nat) (S : List Nat) (w : World) (h : PM w b S) (L : List Int) (hL : Hid (L = selG S (fun i => ((S.getD i 0 : Nat) : Int)) 1024)) (N : Nat) (hN : Hid (N = L.length)) :
    Calls Try.prog 22 #[.pointer (some ⟨b, 0, none⟩)] w fun e w' => ∃ v, e = .returned v ∧ Own w' w.heap.size 1 v N (ints L) ∧ Below w.heap.size w w' := by
  refine (callsIn_wide (n := 3)).1 ?_
  refine callsIn_of_wp_marks Try.func22 rfl trivial ?_
  simp only [Try.ntmps22, List.size_toArray, List.length_cons, List.length_nil, Nat.reduceAdd, Nat.reduceSub, Array.replicate_succ, Array.replicate_zero, List.push_toArray, List.append_toArray, List.nil_append, List.cons_append]
  gi_wp2_with ((refine ⟨trivial, ?_⟩; gi_at_call 36; refine (callsIn_wide.2 (all_any _ _)).mono ?_; rintro e w3 ⟨rfl, rfl⟩))
  obtain ⟨Z, hZ⟩ : ∃ Z, Z = w.heap.size := ⟨_, rfl⟩
  have hl0 : Boxed ((w.alloc (.cells #[.slice none 0 0] 36)).alloc (.cells #[.pointer (some ⟨b, 0, none⟩)] 25)) Z 36 (.slice none 0 0) := by rw [hZ]; exact (Boxed.new w _ _).alloc _
  have hp0 : Boxed ((w.alloc (.cells #[.slice none 0 0] 36)).alloc (.cells #[.pointer (some ⟨b, 0, none⟩)] 25)) (Z + 1) 25 (.pointer (some ⟨b, 0, none⟩)) := by
    have := Boxed.new (w.alloc (.cells #[.slice none 0 0] 36)) 25 (.pointer (some ⟨b, 0, none⟩))
    rwa [World.size_alloc, ← hZ] at this
  have hB0 : Below Z w ((w.alloc (.cells #[.slice none 0 0] 36)).alloc (.cells #[.pointer (some ⟨b, 0, none⟩)] 25)) := by rw [hZ]; exact ((Below.refl _ _).alloc (Nat.le_refl _) _).alloc (by simp) _
  have hz0 : ((w.alloc (.cells #[.slice none 0 0] 36)).alloc (.cells #[.pointer (some ⟨b, 0, none⟩)] 25)).heap.size = Z + 2 := by simp; omega
  have hbZ : b < Z := by rw [hZ]; exact h.lt
  rw [← hZ]
  have HZ := Lib.hid hZ
  generalize hW2 : (w.alloc (.cells #[.slice none 0 0] 36)).alloc (.cells #[.pointer (some ⟨b, 0, none⟩)] 25) = W2 at hl0 hp0 hB0 hz0 ⊢
  clear hW2 hZ
  obtain ⟨R, hRd⟩ : ∃ R : Nat → World → Prop, R = fun k W => ∃ v M, Boxed W Z 36 v ∧ Boxed W (Z + 1) 25 (.pointer (some ⟨b, 0, none⟩)) ∧ M = (selG S (fun i => ((S.getD i 0 : Nat) : Int)) k).length ∧ Own W (Z + 4) 1 v M (ints (selG S (fun i => ((S.getD i 0 : Nat) : Int)) k)) ∧ Below Z w W := ⟨_, rfl⟩
  have HR : ∀ k W, R k W ↔ ∃ v M, Boxed W Z 36 v ∧ Boxed W (Z + 1) 25 (.pointer (some ⟨b, 0, none⟩)) ∧ M = (selG S (fun i => ((S.getD i 0 : Nat) : Int)) k).length ∧ Own W (Z + 4) 1 v M (ints (selG S (fun i => ((S.getD i 0 : Nat) : Int)) k)) ∧ Below Z w W := by
    intro k W; rw [hRd]
  clear hRd
  refine range_law (gf := 46) rfl (fun _ => by omega) rfl trivial (enters_of Try.func46 (by kernel_rfl) rfl) (R 1024) ?_ ?_
  · intro fn r hfn hr hL0
    have hY := all1_in (3 - 1) (by omega) (W2.heap.size + 1) (Z + 1) b S (fun k W => Laid (W2.heap.size + 1) W2.heap.size r W ∧ R k W) ?js ?jn ?jy _ ⟨hL0, ?r0⟩
    case js =>
      rintro k W ⟨hL, hR⟩
      obtain ⟨v, M, h1, h5, h6, h2, h4⟩ := (HR k W).1 hR
      exact ⟨h5, h.block (h4.block b hbZ)⟩
    case jn =>
      rintro k W hP ⟨hL, hR⟩
      obtain ⟨v, M, h1, h5, h6, h2, h4⟩ := (HR k W).1 hR
      have e : selG S (fun i => ((S.getD i 0 : Nat) : Int)) (k + 1) = selG S (fun i => ((S.getD i 0 : Nat) : Int)) k := by rw [selG_succ, hP]; simp
      exact ⟨hL, (HR (k + 1) _).2 ⟨v, M, h1, h5, by rw [e]; exact h6, by rw [e]; exact h2, h4⟩⟩
    case r0 =>
      exact (HR 0 _).2 ⟨_, 0, (hl0.alloc _).alloc _, (hp0.alloc _).alloc _, rfl, Own.nil _ _ _, (hB0.alloc (by omega) _).alloc (by simp; omega) _⟩
    case jy =>
      rintro k W hk hP ⟨hL, hR⟩
      obtain ⟨v, M, h1, h5, h6, h2, h4⟩ := (HR k W).1 hR
      refine (yield_rec (R := fun W' => R (k + 1) W') hr hfn hL rfl (by omega) ?_).mono (fun e W' h => ⟨h.1, h.2.1, h.2.2⟩)
      clear hr
      have hL1 := hL.1
      have hL2 := hL.2
      have hM9 : M ≤ 1024 := by rw [h6]; have := selG_len S (fun i => ((S.getD i 0 : Nat) : Int)) k; omega
      have HS : Hid (selG S (fun i => ((S.getD i 0 : Nat) : Int)) (k + 1) = selG S (fun i => ((S.getD i 0 : Nat) : Int)) k ++ [(fun i => ((S.getD i 0 : Nat) : Int)) k]) := by show _ = _; rw [selG_succ, hP]; simp
      have H6 := Lib.hid h6
      obtain ⟨y, hy⟩ : ∃ y, y = S.getD k 0 := ⟨_, rfl⟩
      have hval : ((fun i => ((S.getD i 0 : Nat) : Int)) k : Int) = ((y : Nat) : Int) := by first | rfl | (rw [hy])
      rw [hval] at HS
      rw [← hy]
      clear hR h6 hP hval hy
  
      gi_wp2
      refine ⟨hL1, ?_⟩
      have hlt := (Array.getElem?_eq_some_iff.1 hL1).1
      have q1 : ∀ b, b ≠ W2.heap.size + 1 → (W.putObj (W2.heap.size + 1) (.loop { r with state := .busy })).heap[b]? = W.heap[b]? := fun b hb => World.putObj_heap_other hb
      have q2 : (W.putObj (W2.heap.size + 1) (.loop { r with state := .busy })).heap[W2.heap.size + 1]? = some (.loop { r with state := .busy }) := World.putObj_heap_same hlt
      have q3 := grownBy_putObj' W (W2.heap.size + 1) (.loop { r with state := .busy })
      generalize W.putObj (W2.heap.size + 1) (.loop { r with state := .busy }) = W' at q1 q2 q3 ⊢
      have h1' : Boxed W' Z 36 v := (q1 Z (by omega)).trans h1
      have h5' : Boxed W' (Z + 1) 25 (.pointer (some ⟨b, 0, none⟩)) := (q1 (Z + 1) (by omega)).trans h5
      have hc1 := h1'.cell
      have hf1 := h1'.frozen
      have hne : ∀ b, Z ≤ b → b < Z + 4 → v.ownBlock ≠ some b := by
        intro b hb1 hb2 he
        have := h2.lt b he
        omega
      have h2' := h2.kept q3 (.inr (hne _ (by omega) (by omega)))
      have h4' : Below Z w W' := h4.grown q3 (by have := h4.size; have := HZ.out; omega) (fun k e => by cases e; omega)
      obtain ⟨av', cv', rfl⟩ := h2'.form
      have h2a := h2'.alloc (.cells #[.int .i64 ((y : Nat) : Int)] 3)
      have hone := Sl.one W' (.int .i64 ((y : Nat) : Int)) 3
      have h1a := h1'.alloc (.cells #[.int .i64 ((y : Nat) : Int)] 3)
      have hz' : Z + 3 < W'.heap.size := by have := (Array.getElem?_eq_some_iff.1 q2).1; omega
      have hsz' : Z + 4 ≤ (W'.alloc (.cells #[.int .i64 ((y : Nat) : Int)] 3)).heap.size := by simp; omega
      gi_wp2_with (gi_at_builtin; refine wpListIn_append etI rfl _ _ rfl h2a rfl hone rfl (by simp [Value.oneCell']) (by omega) (by simp [maxLen]; omega) hsz' ?_; intro v4 W4 hown4 hgr4 hblk4; obtain ⟨a4, c4, rfl⟩ := hown4.form; have hb4 := h1a.kept hgr4 (hne Z (by omega) (by omega)).symm; have hc4 := hb4.cell; have hf4 := hb4.frozen)
      have hz4 : Z + 3 < W4.heap.size := by have := hgr4.size; simp at this; omega
      have hq : ∀ u b, Z < b → b < Z + 4 → (W4.setCell ⟨Z, 0, none⟩ u).heap[b]? = W'.heap[b]? := fun u b hb1 hb2 =>
        (((grownBy_setCell' W4 Z u).block b (by omega) (by simp; omega)).trans (hgr4.block b (by simp; omega) (hne b (by omega) hb2).symm)).trans (Below.heap_alloc _ _ _ (by omega))
      have hB4 : Below Z w W4 := (h4'.alloc (by omega) _).grown hgr4 (by simp; omega) (fun g hg => by have := h2'.lt g hg; omega)
      obtain ⟨W6, hW6⟩ : ∃ W6, W6 = W4.setCell ⟨Z, 0, none⟩ (Value.slice a4 (M + 1) c4) := ⟨_, rfl⟩
      have hq6 : ∀ b, Z < b → b < Z + 4 → W6.heap[b]? = W'.heap[b]? := by rw [hW6]; exact hq _
      have hb6 : Boxed W6 Z 36 (Value.slice a4 (M + 1) c4) := by rw [hW6]; exact hb4.set _
      have hne4 : ∀ b, Z ≤ b → b < Z + 4 → (Value.slice a4 (M + 1) c4).ownBlock ≠ some b := by
        intro b hb1 hb2 he
        have := hown4.lt b he
        omega
      have ho6 : Own W6 (Z + 4) 1 (Value.slice a4 (M + 1) c4) (M + 1) (ints (selG S (fun i => ((S.getD i 0 : Nat) : Int)) (k + 1))) := by
        rw [hW6, HS.out, ints_append]; exact hown4.kept (grownBy_setCell' W4 Z _) (.inr (hne4 Z (by omega) (by omega)))
      have hB6 : Below Z w W6 := by rw [hW6]; exact hB4.grown (grownBy_setCell' W4 Z _) (by omega) (fun g e => by cases e; omega)
      have hl6 : W6.heap[W2.heap.size + 1]? = some (.loop { r with state := .busy }) := (hq6 _ (by omega) (by omega)).trans q2
      rw [← hW6]
      have q6 := grownBy_putObj' W6 (W2.heap.size + 1) (.loop r)
      refine ⟨hl6, (hq6 _ (by omega) (by omega)).trans ((q1 _ (by omega)).trans hL2), (HR (k + 1) _).2 ⟨_, M + 1, hb6.kept q6 (by simp; omega), ?_, by rw [HS.out, List.length_append, H6.out]; rfl, ho6.kept q6 (.inr (hne4 _ (by omega) (by omega))), hB6.grown q6 (by have := hB6.size; have := HZ.out; omega) (fun g e => by cases e; omega)⟩⟩
      exact (World.putObj_heap_other (by omega)).trans ((hq6 _ (by omega) (by omega)).trans h5')
    refine hY.mono ?_
    rintro e W ⟨he, hL, hR⟩
    exact ⟨he, hL, hR⟩
  · intro W r hR hL1 hL2
    obtain ⟨v, M, h1, h5, h6, h2, h4⟩ := (HR _ W).1 hR
    have q5 := grownBy_putObj' W (W2.heap.size + 1) (.loop { r with state := .exhausted })
    have hK : (W.putObj (W2.heap.size + 1) (.loop { r with state := .exhausted })).heap[W2.heap.size]? = some (.deferred (some [])) := (World.putObj_heap_other (by omega)).trans hL2
    generalize W.putObj (W2.heap.size + 1) (.loop { r with state := .exhausted }) = W5 at q5 hK ⊢
    have hne : ∀ b, Z ≤ b → b < Z + 4 → v.ownBlock ≠ some b := by
      intro b hb1 hb2 he
      have := h2.lt b he
      omega
    have h1' := h1.kept q5 (by simp; omega)
    have h2' := h2.kept q5 (.inr (hne _ (by omega) (by omega)))
    have h4' := h4.grown q5 (by have := h4.size; have := HZ.out; omega) (fun k e => by cases e; omega)
    have hc1 := h1'.cell
    have hf1 := h1'.frozen
    obtain ⟨av, cv, rfl⟩ := h2'.form
    have HNM : Hid (N = M ∧ L = selG S (fun i => ((S.getD i 0 : Nat) : Int)) 1024) := ⟨by rw [hN.out, hL.out, h6], hL.out⟩
    have hZ5 : Z ≤ W5.heap.size := by have := h4'.size; have := HZ.out; omega
    have hK2 : W5.heap[Z + 2]? = some (.deferred (some [])) := by rw [← hz0]; exact hK
    clear hR h1 h5 hL1 hL2 h6 h2 h4 hK
    dsimp only
    rw [hz0]
    gi_wp2
    have q7 := grownBy_putObj' W5 (Z + 2) (.deferred none)
    refine ⟨by simp, .inl ⟨_, _, rfl, run_takeDeferred hK2, ?_⟩⟩
    refine ⟨_, results_tmp rfl _ _ _, _, rfl, ?_, ?_⟩
    · rw [HNM.out.1, HNM.out.2]
      exact (h2'.kept q7 (.inr (hne _ (by omega) (by omega)))).mono (by have := HZ.out; omega)
    · rw [← HZ.out]
      exact h4'.grown q7 hZ5 (fun g e => by cases e; omega)
end Go.Proofs.Ytljbpflcnicaiaa
