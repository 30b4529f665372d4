/-
  PagesNil, walked: what no map answers.
-/
import Derived.Test.YtljbpflcnicaiaaPagK
namespace Go.Proofs.Ytljbpflcnicaiaa
open Go.RowKit
set_option linter.unusedVariables false
set_option linter.unusedSimpArgs false
attribute [local go_sem] Oper.semAt_some

theorem has_nil (p : Int) (w : World) : Calls Try.prog 31 #[.pointer none, .int .i64 p] w fun e w' => e = .returned (.bool false) ∧ w = w' := by
  go_enter Try.func31, Try.ntmps31
  go_wp2_with fail
  go_ret
  exact ⟨rfl, rfl⟩
theorem get_nil (p : Int) (w : World) : Calls Try.prog 14 #[.pointer none, .int .i64 p] w fun e w' => e = .returned (.tuple #[.int .i64 0, .bool false]) ∧ w = w' := by
  go_enter Try.func14, Try.ntmps14
  go_wp2_with fail
  refine (has_nil p w).mono ?_
  rintro e w' ⟨rfl, rfl⟩
  go_wp2_with fail
  go_ret2
  exact ⟨rfl, rfl⟩
theorem set_nil (p q : Int) (w : World) : Calls Try.prog 15 #[.pointer none, .int .i64 p, .int .i64 q] w fun e w' => e = .returned (.bool false) ∧ w = w' := by
  go_enter Try.func15, Try.ntmps15
  go_wp2_with fail
  go_ret
  exact ⟨rfl, rfl⟩
theorem clear_nil (p : Int) (w : World) : Calls Try.prog 16 #[.pointer none, .int .i64 p] w fun e w' => e = .returned (.bool false) ∧ w = w' := by
  go_enter Try.func16, Try.ntmps16
  go_wp2_with fail
  refine (has_nil p w).mono ?_
  rintro e w' ⟨rfl, rfl⟩
  go_wp2_with fail
  go_ret
  exact ⟨rfl, rfl⟩
theorem copy_nil (w : World) : Calls Try.prog 13 #[.pointer none] w fun e w' => e = .returned (.pointer none) ∧ w = w' := by
  go_enter Try.func13, Try.ntmps13
  go_wp2_with fail
  go_ret
  exact ⟨rfl, rfl⟩
set_option maxRecDepth 100000 in
theorem lay_nil (p : Int) (a : Option Addr) (n c : Nat) (w : World) : Calls Try.prog 19 #[.pointer none, .int .i64 p, .slice a n c] w fun e w' => e = .returned (.bool false) ∧ w = w' := by
  have kn := fun w => Lib.run_eql_slice_nil (P := Try.prog) w 55 50 none 0 0 0 0 Try.underlying55
  simp only [Option.isNone_none] at kn
  go_enter Try.func19, Try.ntmps19
  go_wp2_with fail
  refine (part_nil p w).mono ?_
  rintro e w' ⟨rfl, rfl⟩
  go_wp2_with fail
  go_ret
  exact ⟨rfl, rfl⟩
theorem part0_nil (p : Int) (w : World) : Calls Try.prog 20 #[.pointer none, .int .i64 p] w fun e w' => e = .returned (.slice none 0 0) ∧ w = w' := by
  go_enter Try.func20, Try.ntmps20
  go_wp2_with fail
  refine (part_nil p w).mono ?_
  rintro e w' ⟨rfl, rfl⟩
  go_wp2_with fail
  go_loop [5] (fun v5 => v5 = .slice none 0 0) (fun _ => 0)
  case atStart => rfl
  case round =>
    obtain rfl := hrel
    go_wp2_with fail
    go_loop [6, 8, 31] (fun v6 v8 v31 => v6 = .slice none 0 0 ∧ v31 = .int .i64 0) (fun _ _ _ => 0)
    case atStart => exact ⟨rfl, rfl⟩
    case round =>
      obtain ⟨rfl, rfl⟩ := hrel
      go_wp2_with fail
      go_ret
      exact ⟨rfl, rfl⟩
set_option maxRecDepth 100000 in
set_option maxHeartbeats 1600000 in
theorem all1_nil (n : Nat) (hn : 1 ≤ n) (l bS : Nat) (J : World → Prop) (hJ : ∀ W, J W → Boxed W bS 25 (.pointer none)) (W : World) (h0 : J W) :
    CallsIn Fence.wide n Try.prog 46 #[.func (.yield l) #[] #[], .pointer (some ⟨bS, 0, none⟩)] W fun e W' => (∃ v, e = .returned v) ∧ J W' := by
  refine callsIn_of_wp Try.func46 rfl trivial ?_ rfl
  simp only [Try.ntmps46, List.size_toArray, List.length_cons, List.length_nil, Nat.reduceAdd, Nat.reduceSub, Array.replicate_succ, Array.replicate_zero, List.push_toArray, List.append_toArray, List.nil_append, List.cons_append]
  have hc2 := (hJ W h0).cell
  clear hJ
  gi_wp2
  gi_loop [3, 4] (fun v3 v4 => ∃ k : Nat, k ≤ 1024 ∧ v4 = .int .i64 k) (fun _ v4 => 1024 - (intOf v4).toNat)
  case atStart => exact ⟨0, Nat.zero_le _, rfl⟩
  case round =>
    obtain ⟨k, hk, rfl⟩ := hrel
    by_cases hk4 : k = 1024
    · subst hk4
      gi_wp2
      go_end0
      exact ⟨⟨_, rfl⟩, h0⟩
    · have hlt : k < 1024 := by omega
      have hlt' : (k : Int) < 1024 := by omega
      gi_wp2_with ((refine ⟨trivial, ?_⟩; gi_at_call 31))
      refine (callsIn_wide.2 (has_nil (k : Int) _)).mono ?_
      rintro e w3 ⟨rfl, rfl⟩
      gi_wp2
      refine ⟨fun _ h => (by cases h), ?_⟩
      gi_wp2
      exact ⟨⟨k + 1, by omega, by go_num⟩, by simp [intOf]; omega⟩
set_option maxRecDepth 100000 in
set_option maxHeartbeats 1600000 in
theorem pages_nil (w : World) : Calls Try.prog 21 #[.pointer none] w fun e w' => e = .returned (.slice none 0 0) ∧ Below w.heap.size w w' := by
  refine (callsIn_wide (n := 3)).1 ?_
  refine callsIn_of_wp_marks Try.func21 rfl trivial ?_
  simp only [Try.ntmps21, List.size_toArray, List.length_cons, List.length_nil, Nat.reduceAdd, Nat.reduceSub, Array.replicate_succ, Array.replicate_zero, List.push_toArray, List.append_toArray, List.nil_append, List.cons_append]
  gi_wp2_with ((refine ⟨trivial, ?_⟩; gi_at_call 36; refine (callsIn_wide.2 (all_any _ _)).mono ?_; rintro e w3 ⟨rfl, rfl⟩))
  obtain ⟨Z, hZ⟩ : ∃ Z, Z = w.heap.size := ⟨_, rfl⟩
  have hl0 : Boxed ((w.alloc (.cells #[.slice none 0 0] 36)).alloc (.cells #[.pointer none] 25)) Z 36 (.slice none 0 0) := by rw [hZ]; exact (Boxed.new w _ _).alloc _
  have hp0 : Boxed ((w.alloc (.cells #[.slice none 0 0] 36)).alloc (.cells #[.pointer none] 25)) (Z + 1) 25 (.pointer none) := by
    have := Boxed.new (w.alloc (.cells #[.slice none 0 0] 36)) 25 (.pointer none)
    rwa [World.size_alloc, ← hZ] at this
  have hB0 : Below Z w ((w.alloc (.cells #[.slice none 0 0] 36)).alloc (.cells #[.pointer none] 25)) := by rw [hZ]; exact ((Below.refl _ _).alloc (Nat.le_refl _) _).alloc (by simp) _
  have hz0 : ((w.alloc (.cells #[.slice none 0 0] 36)).alloc (.cells #[.pointer none] 25)).heap.size = Z + 2 := by simp; omega
  rw [← hZ]
  have HZ := Lib.hid hZ
  generalize hW2 : (w.alloc (.cells #[.slice none 0 0] 36)).alloc (.cells #[.pointer none] 25) = W2 at hl0 hp0 hB0 hz0 ⊢
  clear hW2 hZ
  obtain ⟨R, hRd⟩ : ∃ R : World → Prop, R = fun W => Boxed W Z 36 (.slice none 0 0) ∧ Boxed W (Z + 1) 25 (.pointer none) ∧ Below Z w W := ⟨_, rfl⟩
  have HR : ∀ W, R W ↔ Boxed W Z 36 (.slice none 0 0) ∧ Boxed W (Z + 1) 25 (.pointer none) ∧ Below Z w W := by
    intro W; rw [hRd]
  clear hRd
  refine range_law (gf := 46) rfl (fun _ => by omega) rfl trivial (enters_of Try.func46 (by kernel_rfl) rfl) R ?_ ?_
  · intro fn r hfn hr hL0
    have hY := all1_nil (3 - 1) (by omega) (W2.heap.size + 1) (Z + 1) (fun W => Laid (W2.heap.size + 1) W2.heap.size r W ∧ R W) (fun W h => ((HR W).1 h.2).2.1) _ ⟨hL0, (HR _).2 ⟨(hl0.alloc _).alloc _, (hp0.alloc _).alloc _, (hB0.alloc (by omega) _).alloc (by simp; omega) _⟩⟩
    refine hY.mono ?_
    rintro e W ⟨he, hL, hR⟩
    exact ⟨he, hL, hR⟩
  · intro W r hR hL1 hL2
    obtain ⟨h1, h5, h4⟩ := (HR W).1 hR
    have q5 := grownBy_putObj' W (W2.heap.size + 1) (.loop { r with state := .exhausted })
    have hK : (W.putObj (W2.heap.size + 1) (.loop { r with state := .exhausted })).heap[W2.heap.size]? = some (.deferred (some [])) := (World.putObj_heap_other (by omega)).trans hL2
    generalize W.putObj (W2.heap.size + 1) (.loop { r with state := .exhausted }) = W5 at q5 hK ⊢
    have h1' := h1.kept q5 (by simp; omega)
    have h4' := h4.grown q5 (by have := h4.size; have := HZ.out; omega) (fun k e => by cases e; omega)
    have hc1 := h1'.cell
    have hf1 := h1'.frozen
    have hZ5 : Z ≤ W5.heap.size := by have := h4'.size; have := HZ.out; omega
    have hK2 : W5.heap[Z + 2]? = some (.deferred (some [])) := by rw [← hz0]; exact hK
    clear hR h1 h5 hL1 hL2 h4 hK
    dsimp only
    rw [hz0]
    gi_wp2
    have q7 := grownBy_putObj' W5 (Z + 2) (.deferred none)
    refine ⟨by simp, .inl ⟨_, _, rfl, run_takeDeferred hK2, ?_⟩⟩
    refine ⟨_, results_tmp rfl _ _ _, rfl, ?_⟩
    rw [← HZ.out]
    exact h4'.grown q7 hZ5 (fun g e => by cases e; omega)
set_option maxRecDepth 100000 in
set_option maxHeartbeats 1600000 in
theorem sectors_nil (w : World) : Calls Try.prog 22 #[.pointer none] w fun e w' => e = .returned (.slice none 0 0) ∧ Below w.heap.size w w' := by
  refine (callsIn_wide (n := 3)).1 ?_
  refine callsIn_of_wp_marks Try.func22 rfl trivial ?_
  simp only [Try.ntmps22, List.size_toArray, List.length_cons, List.length_nil, Nat.reduceAdd, Nat.reduceSub, Array.replicate_succ, Array.replicate_zero, List.push_toArray, List.append_toArray, List.nil_append, List.cons_append]
  gi_wp2_with ((refine ⟨trivial, ?_⟩; gi_at_call 36; refine (callsIn_wide.2 (all_any _ _)).mono ?_; rintro e w3 ⟨rfl, rfl⟩))
  obtain ⟨Z, hZ⟩ : ∃ Z, Z = w.heap.size := ⟨_, rfl⟩
  have hl0 : Boxed ((w.alloc (.cells #[.slice none 0 0] 36)).alloc (.cells #[.pointer none] 25)) Z 36 (.slice none 0 0) := by rw [hZ]; exact (Boxed.new w _ _).alloc _
  have hp0 : Boxed ((w.alloc (.cells #[.slice none 0 0] 36)).alloc (.cells #[.pointer none] 25)) (Z + 1) 25 (.pointer none) := by
    have := Boxed.new (w.alloc (.cells #[.slice none 0 0] 36)) 25 (.pointer none)
    rwa [World.size_alloc, ← hZ] at this
  have hB0 : Below Z w ((w.alloc (.cells #[.slice none 0 0] 36)).alloc (.cells #[.pointer none] 25)) := by rw [hZ]; exact ((Below.refl _ _).alloc (Nat.le_refl _) _).alloc (by simp) _
  have hz0 : ((w.alloc (.cells #[.slice none 0 0] 36)).alloc (.cells #[.pointer none] 25)).heap.size = Z + 2 := by simp; omega
  rw [← hZ]
  have HZ := Lib.hid hZ
  generalize hW2 : (w.alloc (.cells #[.slice none 0 0] 36)).alloc (.cells #[.pointer none] 25) = W2 at hl0 hp0 hB0 hz0 ⊢
  clear hW2 hZ
  obtain ⟨R, hRd⟩ : ∃ R : World → Prop, R = fun W => Boxed W Z 36 (.slice none 0 0) ∧ Boxed W (Z + 1) 25 (.pointer none) ∧ Below Z w W := ⟨_, rfl⟩
  have HR : ∀ W, R W ↔ Boxed W Z 36 (.slice none 0 0) ∧ Boxed W (Z + 1) 25 (.pointer none) ∧ Below Z w W := by
    intro W; rw [hRd]
  clear hRd
  refine range_law (gf := 46) rfl (fun _ => by omega) rfl trivial (enters_of Try.func46 (by kernel_rfl) rfl) R ?_ ?_
  · intro fn r hfn hr hL0
    have hY := all1_nil (3 - 1) (by omega) (W2.heap.size + 1) (Z + 1) (fun W => Laid (W2.heap.size + 1) W2.heap.size r W ∧ R W) (fun W h => ((HR W).1 h.2).2.1) _ ⟨hL0, (HR _).2 ⟨(hl0.alloc _).alloc _, (hp0.alloc _).alloc _, (hB0.alloc (by omega) _).alloc (by simp; omega) _⟩⟩
    refine hY.mono ?_
    rintro e W ⟨he, hL, hR⟩
    exact ⟨he, hL, hR⟩
  · intro W r hR hL1 hL2
    obtain ⟨h1, h5, h4⟩ := (HR W).1 hR
    have q5 := grownBy_putObj' W (W2.heap.size + 1) (.loop { r with state := .exhausted })
    have hK : (W.putObj (W2.heap.size + 1) (.loop { r with state := .exhausted })).heap[W2.heap.size]? = some (.deferred (some [])) := (World.putObj_heap_other (by omega)).trans hL2
    generalize W.putObj (W2.heap.size + 1) (.loop { r with state := .exhausted }) = W5 at q5 hK ⊢
    have h1' := h1.kept q5 (by simp; omega)
    have h4' := h4.grown q5 (by have := h4.size; have := HZ.out; omega) (fun k e => by cases e; omega)
    have hc1 := h1'.cell
    have hf1 := h1'.frozen
    have hZ5 : Z ≤ W5.heap.size := by have := h4'.size; have := HZ.out; omega
    have hK2 : W5.heap[Z + 2]? = some (.deferred (some [])) := by rw [← hz0]; exact hK
    clear hR h1 h5 hL1 hL2 h4 hK
    dsimp only
    rw [hz0]
    gi_wp2
    have q7 := grownBy_putObj' W5 (Z + 2) (.deferred none)
    refine ⟨by simp, .inl ⟨_, _, rfl, run_takeDeferred hK2, ?_⟩⟩
    refine ⟨_, results_tmp rfl _ _ _, rfl, ?_⟩
    rw [← HZ.out]
    exact h4'.grown q7 hZ5 (fun g e => by cases e; omega)
set_option maxRecDepth 100000 in
set_option maxHeartbeats 1600000 in
theorem does_nil (K p q : Int) (av : Option Addr) (n cv : Nat) (l : List UInt8) (w : World) (ho : OpIs w K p q av n cv l) (hsz : n ≤ 1024) :
    Calls Try.prog 12 #[.pointer none, .agg #[.int .i64 K, .int .i64 p, .int .i64 q, .slice av n cv]] w fun e w' => e = .returned (.bool false) ∧ Below w.heap.size w w' := by
  have hb1 := (Below.refl w.heap.size w).alloc (Nat.le_refl _) (.cells #[.int .i64 K, .int .i64 p, .int .i64 q, .slice av n cv] 30)
  have hsl := ho.sl.below hb1
  by_cases hK0 : K = 0
  · subst hK0
    go_enter Try.func12, Try.ntmps12
    go_wp2_with fail
    refine (set_nil p q _).mono ?_
    rintro e w2 ⟨rfl, rfl⟩
    go_wp2_with fail
    go_ret
    exact ⟨rfl, hb1⟩
  have hK0' : (K == 0) = false := by rw [beq_eq_false_iff_ne]; exact hK0
  by_cases hK1 : K = 1
  · subst hK1
    go_enter Try.func12, Try.ntmps12
    go_wp2_with fail
    refine (clear_nil p _).mono ?_
    rintro e w2 ⟨rfl, rfl⟩
    go_wp2_with fail
    go_ret
    exact ⟨rfl, hb1⟩
  have hK1' : (K == 1) = false := by rw [beq_eq_false_iff_ne]; exact hK1
  by_cases hK2 : K = 2
  · subst hK2
    have hnl := hsl.len.1
    have HNL := Lib.hid hnl
    clear hnl
    have hcell : ∀ j u, #[Value.int .i64 2, .int .i64 p, .int .i64 q, .slice av n cv][j]? = some u → (w.alloc (.cells #[.int .i64 2, .int .i64 p, .int .i64 q, .slice av n cv] 30)).cell? ⟨w.heap.size, j, none⟩ = some u := by
      intro j u hu
      have := (Sl.litS w [.int .i64 2, .int .i64 p, .int .i64 q, .slice av n cv] 30 1 4 rfl (by decide)).addr (by decide)
      obtain ⟨b', o', e1, e2, e3⟩ := this
      cases e1
      simpa using e3 j u (by simpa using hu)
    have C1 := Lib.hid (hcell 1 _ rfl)
    have HL := Lib.hid hsl
    clear hcell hsl
    go_enter Try.func12, Try.ntmps12
    go_wp2_with (at_builtin; refine wpL_append0 etB rfl _ _ rfl w.heap.size (show Value.slice (some ⟨w.heap.size + 1, 0, none⟩) 0 0 = Value.slice (some ⟨(w.alloc _).heap.size, 0, none⟩) 0 0 by rw [World.size_alloc]) HL.out rfl (bvs_one _) (by omega) (by simp [maxLen]; omega) (by simp) ?_; intro v5 w5 ho5 hb5; obtain ⟨a5, c5, rfl⟩ := ho5.form; have d1 := (hb5.cell (p := ⟨w.heap.size, 1, none⟩) (lt_of_cell C1.out)).trans C1.out)
    refine (lay_nil p a5 n c5 w5).mono ?_
    rintro e w6 ⟨rfl, rfl⟩
    have hB5 := hb1.trans (hb5.mono hb1.size)
    clear d1 C1 HL hb5 hb1
    go_wp2_with fail
    go_loopw [7] (fun v7 wr => ∃ (k : Nat) (xs : List Value), k ≤ n ∧ v7 = .int .i64 k ∧ Below w.heap.size w wr ∧ Own wr w.heap.size 1 (.slice a5 n c5) n xs) (fun v7 _ => n - (intOf v7).toNat)
    case atStart => exact ⟨0, _, Nat.zero_le _, rfl, hB5, ho5⟩
    case round =>
      clear hB5 ho5
      obtain ⟨k, xs, hk, rfl, hB, ho6⟩ := hrel
      by_cases hkn : k = n
      · subst hkn
        go_wp2_with fail
        go_ret
        exact ⟨rfl, hB⟩
      · have hlt : k < n := by omega
        have hlt' : (k : Int) < n := by omega
        obtain ⟨g, off, cap, e6, g1, g2, g3, g4, g5⟩ := ho6.open (by omega) (by decide)
        cases e6
        have hxl : k < xs.length := by omega
        have hc := ho6.get k hxl
        rw [List.getElem?_eq_getElem hxl] at hc
        have hf := ho6.free k hxl
        generalize xs[k] = old at hc
        have hs := ho6.set k (.int .u8 85)
        have hB7 := hB.setCell (p := ⟨g, off + k, none⟩) g1 (.int .u8 85)
        clear g5
        go_wp2_with fail
        exact ⟨⟨k + 1, _, by omega, by go_num, hB7, hs⟩, by simp [intOf]; omega⟩
  · have hK2' : (K == 2) = false := by rw [beq_eq_false_iff_ne]; exact hK2
    clear hK0 hK1 hK2
    go_enter Try.func12, Try.ntmps12
    go_wp2_with fail
    go_ret
    exact ⟨rfl, hb1⟩

theorem nil_turned (S : List Nat) : [] = turnedL S S := by
  have : ∀ n, sel (otherP S S) n = [] := by
    intro n
    induction n with
    | zero => rfl
    | succ n ih => rw [sel_succ, ih]; simp [otherP]
  exact (this 9).symm
theorem one_op (w : World) (cs : List Value) (d : Int × Int × Int × List UInt8) (h : VOp w cs d) (hl : cs.length = 4) : SlOf VOp 4 (w.alloc (.cells cs.toArray 30)) (.slice (some ⟨w.heap.size, 0, none⟩) 1 1) [d] := by
  refine ⟨_, 1, rfl, Nat.le_refl _, by decide, by simp, fun i hi => ?_⟩
  have h0 : i = 0 := by simp at hi; omega
  subst h0
  refine ⟨_, 0, cs, rfl, hl, stabOp _ _ _ _ ((Below.refl _ _).alloc (Nat.le_refl _) _) h, fun j hj => ?_⟩
  rw [show 0 + 0 * 4 + j = j by omega]
  exact (Row.new w cs 30).cell j
set_option maxRecDepth 100000 in
set_option maxHeartbeats 4000000 in
theorem pagesNil_walk (cs : Array Value) (d : Int × Int × Int × List UInt8) (z : Int) (w : World) (h : VOp w cs.toList d) :
    Calls Try.prog 8 #[.agg cs, .int .i64 z] w fun e w' => e = .returned (.bool true) ∧ Below w.heap.size w w' := by
  obtain ⟨K, p, q, l⟩ := d
  obtain ⟨av, cv, hcs, ho⟩ := op_rec h
  obtain rfl : cs = #[.int .i64 K, .int .i64 p, .int .i64 q, .slice av l.length cv] := by
    rw [← Array.toArray_toList (xs := cs), hcs]
  go_enter Try.func8, Try.ntmps8
  have hs0 := one_op (w.alloc (.cells #[.int .i64 K, .int .i64 p, .int .i64 q, .slice av l.length cv] 30)) _ (K, p, q, l) (stabOp _ _ _ _ ((Below.refl _ _).alloc (Nat.le_refl _) _) h) rfl
  have hb0 := ((Below.refl w.heap.size w).alloc (Nat.le_refl _) (.cells #[.int .i64 K, .int .i64 p, .int .i64 q, .slice av l.length cv] 30)).alloc (by simp) (.cells #[.int .i64 K, .int .i64 p, .int .i64 q, .slice av l.length cv] 30)
  have hcell : ∀ j u, #[Value.int .i64 K, .int .i64 p, .int .i64 q, .slice av l.length cv][j]? = some u → ∀ W, Below (w.heap.size + 1) (w.alloc (.cells #[.int .i64 K, .int .i64 p, .int .i64 q, .slice av l.length cv] 30)) W → W.cell? ⟨w.heap.size, j, none⟩ = some u := by
    intro j u hu W hW
    have := (Sl.litS w [.int .i64 K, .int .i64 p, .int .i64 q, .slice av l.length cv] 30 1 4 rfl (by decide)).addr (by decide)
    obtain ⟨b', o', e1, e2, e3⟩ := this
    cases e1
    refine (hW.cell (p := ⟨w.heap.size, j, none⟩) (Nat.lt_succ_self _)).trans ?_
    simpa using e3 j u (by simpa using hu)
  have HCELL := Lib.hid hcell
  obtain ⟨n, hn⟩ : ∃ n, n = l.length := ⟨_, rfl⟩
  rw [World.size_alloc] at hs0
  have hbx : Below (w.heap.size + 1) (w.alloc (.cells #[.int .i64 K, .int .i64 p, .int .i64 q, .slice av l.length cv] 30)) ((w.alloc (.cells #[.int .i64 K, .int .i64 p, .int .i64 q, .slice av l.length cv] 30)).alloc (.cells #[.int .i64 K, .int .i64 p, .int .i64 q, .slice av l.length cv] 30)) := (Below.refl _ _).alloc (by simp) _
  rw [← hn] at hs0 hb0 HCELL hbx ho ⊢
  have HN := Lib.hid hn
  have HH := Lib.hid hs0
  clear hcell hn hs0 hcs h
  go_wp2_with fail
  refine (vast_any _ 1 1 [(K, p, q, l)] _ HH.out).mono ?_
  rintro e w2 ⟨B, rfl, HV, hb2⟩
  have hB2 := hb0.trans (hb2.mono hb0.size)
  have hbx2 := hbx.trans (hb2.mono (by simp))
  cases B with
  | true =>
    go_wp2_with fail
    refine (works_any w2).mono ?_
    rintro e wq ⟨rfl, hbq⟩
    go_wp2_with fail
    go_ret
    exact ⟨rfl, (hB2).trans (hbq.mono (hB2).size)⟩
  | false =>
  have hn1024 : n ≤ 1024 := by
    have := (HV.out rfl).2 0 K p q l rfl
    rw [← HN.out] at this
    exact this
  clear HH HV hb0 hbx hb2
  have e0 := HCELL.out 0 _ rfl _ hbx2
  have e1 := HCELL.out 1 _ rfl _ hbx2
  have e2 := HCELL.out 2 _ rfl _ hbx2
  have e3 := HCELL.out 3 _ rfl _ hbx2
  simp only [List.getElem_toArray, List.getElem_cons_zero, List.getElem_cons_succ] at e0 e1 e2 e3
  have hop : OpIs w2 K p q av n cv l := ⟨ho.sl.below hB2, ho.K1, ho.p1, ho.q1⟩
  clear hbx2 HCELL ho
  go_wp2_with fail
  refine (get_nil z w2).mono ?_
  rintro e w3 ⟨rfl, rfl⟩
  go_wp2_with fail
  refine (does_nil K p q av n cv l w2 hop hn1024).mono ?_
  rintro e w3 ⟨rfl, hb3⟩
  have hB3 := hB2.trans (hb3.mono hB2.size)
  clear e0 e1 e2 e3 hop
  go_wp2_with fail
  refine (pages_nil w3).mono ?_
  rintro e w4 ⟨rfl, hb4⟩
  have hB4 := hB3.trans (hb4.mono hB3.size)
  go_wp2_with fail
  refine (sectors_nil w4).mono ?_
  rintro e w5 ⟨rfl, hb5⟩
  have hB5 := hB4.trans (hb5.mono hB4.size)
  go_wp2_with fail
  refine (part0_nil z w5).mono ?_
  rintro e w6 ⟨rfl, rfl⟩
  go_wp2_with fail
  refine (copy_nil w5).mono ?_
  rintro e w6 ⟨rfl, rfl⟩
  go_wp2_with fail
  refine (new_h w5).mono ?_
  rintro e w7 ⟨rfl, hm7, hb7⟩
  have hB7 := hB5.trans (hb7.mono hB5.size)
  obtain ⟨b, hb⟩ : ∃ b, b = w5.heap.size := ⟨_, rfl⟩
  rw [← hb] at hm7 ⊢
  clear hb
  go_wp2_with fail
  refine (turned_o b _ _ w7 hm7 rfl [] (Lib.hid (nil_turned _)) 0 (Lib.hid rfl)).mono ?_
  rintro e w8 ⟨v8, rfl, ho8, hb8⟩
  obtain ⟨a8, c8, rfl⟩ := ho8.form
  have hB8 := hB7.trans (hb8.mono hB7.size)
  go_wp2_with fail
  refine (works_any w8).mono ?_
  rintro e wq ⟨rfl, hbq⟩
  go_wp2_with fail
  go_ret
  exact ⟨rfl, (hB8).trans (hbq.mono (hB8).size)⟩
end Go.Proofs.Ytljbpflcnicaiaa
