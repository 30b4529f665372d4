/-
  RecordWrites, RecordOids, RecordCuts, walked.
-/
import Derived.Test.YtgcohalmfigjpaaRecW
import Derived.Test.YtgcohalmfigjpaaRecM
import Derived.Test.YtgcohalmfigjpaaRecN
import Derived.Test.YtgcohalmfigjpaaApartC
import Derived.Test.YtgcohalmfigjpaaRecO
namespace Go.Proofs.Ytgcohalmfigjpaa
open Go.RowKit
set_option linter.unusedVariables false
set_option linter.unusedSimpArgs false

set_option maxRecDepth 100000 in
set_option maxHeartbeats 4000000 in
theorem recordWrites_walk (K : UInt8) (t : Int) (a : Option Addr) (n c : Nat) (l : List (UInt8 × Int)) (S : List UInt8) (w : World) (hl : Sl w 2 (.slice a n c) n (wcells l)) (m : Nat) (hm : S.length = m) (hm9 : m ≤ 9223372036854775807) :
    Calls Try.prog 3 #[.agg #[.int .u8 (K.toNat : Int), .int .i64 t, .slice a n c, .string (str S)]] w fun e w' => e = .returned (.bool true) ∧ Below w.heap.size w w' := by
  have HN := Lib.hid hl.wordLen.1
  obtain ⟨k, hk⟩ : ∃ k : Nat, k = K.toNat := ⟨_, rfl⟩
  rw [← hk]
  have hk9 : k < 256 := by rw [hk]; exact K.toNat_lt
  have HK : Hid (K.toNat = k) := hk.symm
  clear hk
  have hsz : (str S).size = m := by rw [← hm]; exact str_size S
  have HM := Lib.hid hm
  clear hm
  obtain ⟨X, hX⟩ : ∃ X, X = decide (2048 < n ∨ 32768 < m) := ⟨_, rfl⟩
  have HX := Lib.hid hX
  clear hX
  have hb0 : Below w.heap.size w (w.alloc (.cells #[.int .u8 (k : Int), .int .i64 t, .slice a n c, .string (str S)] 24)) := (Below.refl _ _).alloc (Nat.le_refl _) _
  have hr0 := Row.new w [.int .u8 (k : Int), .int .i64 t, .slice a n c, .string (str S)] 24
  have hl0 := hl.below hb0
  go_enter Try.func3, Try.ntmps3
  go_wp2_with (refine wpL_loadRow rfl _ _ rfl rfl hr0 Try.underlying24 rfl (by kernel_rfl) ?_)
  refine (large_any k t a n c l S _ hl0 m HM.out hm9 X HX).mono ?_
  rintro e w1 ⟨rfl, hb1⟩
  have hr1 := hr0.after hb1
  have hB1 := hb0.trans (hb1.mono hb0.size)
  have hl1 := hl.below hB1
  obtain ⟨A, hA⟩ : ∃ A, A = w.heap.size := ⟨_, rfl⟩
  rw [← hA] at hr1 ⊢
  have hAw : w.heap.size ≤ A := by omega
  clear hb0 hr0 hl0 hb1 hA
  cases X with
  | true =>
    go_wp2_with fail
    refine (works_any w1).mono ?_
    rintro e wZ ⟨rfl, hbZ⟩
    go_wp2_with fail
    go_ret
    exact ⟨rfl, (hB1).trans (hbZ.mono (hB1).size)⟩
  | false =>
  have hX := HX.out.symm
  rw [decide_eq_false_iff_not] at hX
  have hn9 : n ≤ 2048 := by omega
  have hm8 : m ≤ 32768 := by omega
  clear hX HX
  go_upto_region 4 with (refine wpL_loadRow rfl _ _ rfl rfl hr1 Try.underlying24 rfl (by kernel_rfl) ?_)
  refine (copy_any k t a n c l S w1 hl1 (by omega)).mono ?_
  rintro e w2 ⟨v2, rfl, ho2, hb2⟩
  obtain ⟨a2, c2, rfl⟩ := ho2.form
  have hr2 := hr1.after hb2
  have hB2 := hB1.trans (hb2.mono hB1.size)
  clear hr1 hl1 hb2
  have hrZ := Row.new w2 [.int .u8 0, .int .i64 0, .slice none 0 0, .string ⟨#[]⟩] 24
  have hbZ : Below w2.heap.size w2 (w2.alloc (.cells #[.int .u8 0, .int .i64 0, .slice none 0 0, .string ⟨#[]⟩] 24)) := (Below.refl _ _).alloc (Nat.le_refl _) _
  go_upto_region 4 with (refine wpL_storeRow rfl _ _ _ rfl (cs := [.int .u8 (k : Int), .int .i64 t, .slice a2 n c2, .string (str S)]) rfl rfl hrZ (by kernel_rfl) rfl rfl ?_; intro w3 hg3 hr3)
  have hb3 : Below w2.heap.size w2 w3 := hbZ.grown hg3 hbZ.size (fun g e => by cases e; exact Nat.le_refl _)
  obtain ⟨C, hC⟩ : ∃ C, C = w2.heap.size := ⟨_, rfl⟩
  rw [← hC] at hr3 ⊢
  have hrA3 := hr2.after hb3
  have ho3 := ho2.below hb3
  have hB3 := hB2.trans (hb3.mono hB2.size)
  clear hC hrZ hbZ hg3 hb3 hr2 ho2 hB2
  obtain ⟨Q, hQ⟩ : ∃ Q, Q = wrQ K t l S := ⟨_, rfl⟩
  obtain ⟨N, hN⟩ : ∃ N, N = Q.length := ⟨_, rfl⟩
  obtain ⟨E, hE⟩ : ∃ E, E = wrE K t l S := ⟨_, rfl⟩
  have hN9 : N ≤ 8192 := by rw [hN, hQ]; exact wrQ_le _ _ _ _
  have HQ : Hid (Q = wrQ K t l S ∧ N = Q.length ∧ E = wrE K t l S) := ⟨hQ, hN, hE⟩
  clear hQ hN hE
  have HW : Hid (∀ (a : Option Addr) (c : Nat) (w : World), Sl w 2 (.slice a n c) n (wcells l) → Calls Try.prog 12 #[.agg #[.int .u8 (k : Int), .int .i64 t, .slice a n c, .string (str S)]] w fun e w' => ∃ v, e = .returned (.tuple #[v, .int .i64 E]) ∧ Own w' w.heap.size 1 v N (bvs Q) ∧ Below w.heap.size w w') := by
    intro a c w hl
    have := write_p K t a n c l S w hl (by omega) m HM.out (by omega) Q N E HQ
    rw [HK.out] at this
    exact this
  have HR : Hid (∀ (a : Option Addr) (c : Nat) (w : World), Sl w 2 (.slice a n c) n (wcells l) → Calls Try.prog 13 #[.agg #[.int .u8 (k : Int), .int .i64 t, .slice a n c, .string (str S)]] w fun e w' => ∃ v, e = .returned (.tuple #[v, .int .i64 E]) ∧ Own w' w.heap.size 1 v N (bvs Q) ∧ Below w.heap.size w w') := by
    intro a c w hl
    have := rwrite_p K t a n c l S w hl (by omega) m HM.out (by omega) Q N E HQ
    rw [HK.out] at this
    exact this
  go_upto_region 5 with (refine wpL_loadRow rfl _ _ rfl rfl hr3 Try.underlying24 rfl (by kernel_rfl) ?_)
  refine (HW.out a2 c2 w3 ho3.sl).mono ?_
  rintro e w4 ⟨v4, rfl, ho4, hb4⟩
  obtain ⟨a4, c4, rfl⟩ := ho4.form
  have hr4 := hr3.after hb4
  have hrA4 := hrA3.after hb4
  have hoC4 := ho3.below hb4
  have hB4 := hB3.trans (hb4.mono hB3.size)
  have hw34 := hb4.size
  replace ho4 := ho4.mono (base' := w.heap.size) hB3.size
  clear hr3 hrA3 ho3 hb4
  go_upto_region 5 with fail
  go_upto_region 6 with (refine wpL_loadRow rfl _ _ rfl rfl hrA4 Try.underlying24 rfl (by kernel_rfl) ?_)
  refine (HR.out a c w4 (hl.below hB4)).mono ?_
  rintro e w5 ⟨v5, rfl, ho5, hb5⟩
  obtain ⟨a5, c5, rfl⟩ := ho5.form
  have hr5 := hr4.after hb5
  have hrA5 := hrA4.after hb5
  have hoC5 := hoC4.below hb5
  have ho45 := ho4.below hb5
  have hB5 := hB4.trans (hb5.mono hB4.size)
  clear hr4 hrA4 hoC4 ho4 hb5
  go_upto_region 6 with fail
  have hEE : (E == E) = true := by simp
  go_wp2_with fail
  refine (eqb_any a4 N c4 a5 N c5 Q Q w5 ho45.sl ho5.sl (by omega) (by omega)).mono ?_
  rintro e w6 ⟨rfl, hb6⟩
  rw [decide_eq_true rfl]
  have hr6 := hr5.after hb6
  have hrA6 := hrA5.after hb6
  have hoC6 := hoC5.below hb6
  have ho46 := ho45.below hb6
  have hB6 := hB5.trans (hb6.mono hB5.size)
  clear hr5 hrA5 hoC5 ho45 ho5 hb6
  have d0 := hr6.cell 0
  have d1 := hr6.cell 1
  have d2 := hr6.cell 2
  have d3 := hr6.cell 3
  have p0 := hrA6.cell 0
  have p1 := hrA6.cell 1
  have p2 := hrA6.cell 2
  have p3 := hrA6.cell 3
  simp only [List.getElem?_cons_zero, List.getElem?_cons_succ] at d0 d1 d2 d3 p0 p1 p2 p3
  go_wp2_with fail
  refine (same_t k t a2 n c2 a c l S w6 hoC6.sl (hl.below hB6)).mono ?_
  rintro e w7 ⟨rfl, hb7⟩
  have hr7 := hr6.after hb7
  have hoC7 := hoC6.below hb7
  have ho47 := ho46.below hb7
  have hB7 := hB6.trans (hb7.mono hB6.size)
  clear hr6 hrA6 hoC6 ho46 hb7 d0 d1 d2 d3 p0 p1 p2 p3
  go_upto_region 9 with (refine wpL_loadRow rfl _ _ rfl rfl hr7 Try.underlying24 rfl (by kernel_rfl) ?_)
  refine (HW.out a2 c2 w7 hoC7.sl).mono ?_
  rintro e w8 ⟨v8, rfl, ho8, hb8⟩
  obtain ⟨a8, c8, rfl⟩ := ho8.form
  have ho48 := ho47.below hb8
  have hB8 := hB7.trans (hb8.mono hB7.size)
  have l8 := ho8.lt
  have l4 := ho47.lives
  have hap := apart2 (.slice a4 N c4) (.slice a8 N c8) N N Q Q w.heap.size w8 hB8.size ho48 (ho8.mono hB7.size) (by omega) (by omega) (fun g h1 h2 => by have := l8 g h2; have := l4 g h1; omega)
  have HAP := Lib.hid hap
  clear hap l8 l4 hr7 hoC7 ho47 hb8 ho48 ho8
  go_wp2_with fail
  refine HAP.out.mono ?_
  rintro e w9 ⟨rfl, hb9⟩
  have hB9 := hB8.trans hb9
  clear HAP hb9
  go_wp2_with fail
  refine (works_any w9).mono ?_
  rintro e wZ ⟨rfl, hbZ⟩
  go_wp2_with fail
  go_ret
  exact ⟨rfl, (hB9).trans (hbZ.mono (hB9).size)⟩
set_option maxHeartbeats 4000000 in
theorem recordOids_walk (K : UInt8) (t : Int) (a : Option Addr) (n c : Nat) (l : List (UInt8 × Int)) (S : List UInt8) (w : World) (hl : Sl w 2 (.slice a n c) n (wcells l)) (m : Nat) (hm : S.length = m) (hm9 : m ≤ 9223372036854775807) :
    Calls Try.prog 5 #[.agg #[.int .u8 (K.toNat : Int), .int .i64 t, .slice a n c, .string (str S)]] w fun e w' => e = .returned (.bool true) ∧ Below w.heap.size w w' := by
  have HN := Lib.hid hl.wordLen.1
  obtain ⟨k, hk⟩ : ∃ k : Nat, k = K.toNat := ⟨_, rfl⟩
  rw [← hk]
  have hk9 : k < 256 := by rw [hk]; exact K.toNat_lt
  have HK : Hid (K.toNat = k) := hk.symm
  clear hk
  have hsz : (str S).size = m := by rw [← hm]; exact str_size S
  have HM := Lib.hid hm
  clear hm
  obtain ⟨X, hX⟩ : ∃ X, X = decide (2048 < n ∨ 32768 < m) := ⟨_, rfl⟩
  have HX := Lib.hid hX
  clear hX
  have hb0 : Below w.heap.size w (w.alloc (.cells #[.int .u8 (k : Int), .int .i64 t, .slice a n c, .string (str S)] 24)) := (Below.refl _ _).alloc (Nat.le_refl _) _
  have hr0 := Row.new w [.int .u8 (k : Int), .int .i64 t, .slice a n c, .string (str S)] 24
  have hl0 := hl.below hb0
  go_enter Try.func5, Try.ntmps5
  go_wp2_with (refine wpL_loadRow rfl _ _ rfl rfl hr0 Try.underlying24 rfl (by kernel_rfl) ?_)
  refine (large_any k t a n c l S _ hl0 m HM.out hm9 X HX).mono ?_
  rintro e w1 ⟨rfl, hb1⟩
  have hr1 := hr0.after hb1
  have hB1 := hb0.trans (hb1.mono hb0.size)
  have hl1 := hl.below hB1
  obtain ⟨A, hA⟩ : ∃ A, A = w.heap.size := ⟨_, rfl⟩
  rw [← hA] at hr1 ⊢
  have hAw : w.heap.size ≤ A := by omega
  clear hb0 hr0 hl0 hb1 hA
  cases X with
  | true =>
    go_wp2_with fail
    refine (works_any w1).mono ?_
    rintro e wZ ⟨rfl, hbZ⟩
    go_wp2_with fail
    go_ret
    exact ⟨rfl, (hB1).trans (hbZ.mono (hB1).size)⟩
  | false =>
  have hX := HX.out.symm
  rw [decide_eq_false_iff_not] at hX
  have hn9 : n ≤ 2048 := by omega
  clear hX HX
  obtain ⟨L, hL⟩ : ∃ L, L = oidsL l := ⟨_, rfl⟩
  obtain ⟨N, hN⟩ : ∃ N, N = L.length := ⟨_, rfl⟩
  have HL : Hid (L = oidsL l ∧ N = L.length) := ⟨hL, hN⟩
  clear hL hN
  go_upto_region 4 with (refine wpL_loadRow rfl _ _ rfl rfl hr1 Try.underlying24 rfl (by kernel_rfl) ?_)
  refine (oids_p k t a n c l S w1 hl1 (by omega) L N HL).mono ?_
  rintro e w2 ⟨v2, rfl, ho2, hb2⟩
  obtain ⟨a2, c2, rfl⟩ := ho2.form
  have hr2 := hr1.after hb2
  have hB2 := hB1.trans (hb2.mono hB1.size)
  clear hr1 hl1 hb2
  go_upto_region 5 with (refine wpL_loadRow rfl _ _ rfl rfl hr2 Try.underlying24 rfl (by kernel_rfl) ?_)
  refine (roids_p k t a n c l S w2 (hl.below hB2) (by omega) L N HL).mono ?_
  rintro e w3 ⟨v3, rfl, ho3, hb3⟩
  obtain ⟨a3, c3, rfl⟩ := ho3.form
  have ho23 := (ho2.below hb3).sl
  have hB3 := hB2.trans (hb3.mono hB2.size)
  have ho33 := ho3.sl
  have hN9 := ho33.intLen.2
  clear hr2 ho2 ho3 hb3
  go_wp2_with fail
  go_loopw [5] (fun v5 wr => ∃ i : Nat, i ≤ N ∧ v5 = .int .i64 i ∧ Sl wr 1 (.slice a2 N c2) N (ints L) ∧ Sl wr 1 (.slice a3 N c3) N (ints L) ∧ Below w.heap.size w wr) (fun v5 _ => N - (intOf v5).toNat)
  case atStart => exact ⟨0, Nat.zero_le _, rfl, ho23, ho33, hB3⟩
  case round =>
    obtain ⟨i, hi, rfl, h2, h3, hb⟩ := hrel
    by_cases hin : i = N
    · subst hin
      go_wp2_with fail
      refine (works_any wr).mono ?_
      rintro e wZ ⟨rfl, hbZ⟩
      go_wp2_with fail
      go_ret
      exact ⟨rfl, (hb).trans (hbZ.mono (hb).size)⟩
    · have hlt : i < N := by omega
      have hlt' : (i : Int) < N := by omega
      obtain ⟨b2, o2, rfl, p2⟩ := h2.intAt hlt
      obtain ⟨b3, o3, rfl, p3⟩ := h3.intAt hlt
      generalize L.getD i 0 = y at p2 p3
      have hyy : (y == y) = true := by simp
      go_wp2_with fail
      go_quiet (fail)
      go_wp2_with fail
      rename_i nq
      exact ⟨⟨i + 1, by omega, by go_num, h2.below (below_drewN (Below.refl _ _) nq), h3.below (below_drewN (Below.refl _ _) nq), below_drewN hb nq⟩, by simp [intOf]; omega⟩
theorem recordWrites_top (cs : Array Value) (d : UInt8 × Int × List (UInt8 × Int) × List UInt8) (w : World) (h : VObj w cs.toList d) : Calls Try.prog 3 #[.agg cs] w fun e w' => e = .returned (.bool true) ∧ Below w.heap.size w w' := by
  obtain ⟨K, t, a, n, c, l, S, rfl, hl, hS⟩ := obj_open h
  exact recordWrites_walk K t a n c l S w hl _ rfl hS
theorem recordOids_top (cs : Array Value) (d : UInt8 × Int × List (UInt8 × Int) × List UInt8) (w : World) (h : VObj w cs.toList d) : Calls Try.prog 5 #[.agg cs] w fun e w' => e = .returned (.bool true) ∧ Below w.heap.size w w' := by
  obtain ⟨K, t, a, n, c, l, S, rfl, hl, hS⟩ := obj_open h
  exact recordOids_walk K t a n c l S w hl _ rfl hS
end Go.Proofs.Ytgcohalmfigjpaa
