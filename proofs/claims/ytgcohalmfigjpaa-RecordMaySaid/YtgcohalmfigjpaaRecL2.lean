/-
  RecordCuts, RecordBack, RecordReads, walked.
-/
import Derived.Test.YtgcohalmfigjpaaRecL1
namespace Go.Proofs.Ytgcohalmfigjpaa
open Go.RowKit
set_option linter.unusedVariables false
set_option linter.unusedSimpArgs false

theorem rd_none {b : List UInt8} (h : rdOk b = false) : RdIs b 0 0 [] [] 0 8 := by
  refine ⟨?_, ?_, ?_, ?_, rfl, ?_⟩ <;> rw [h] <;> rfl
theorem rd_some {b : List UInt8} (h : rdOk b = true) : RdIs b (rdK b).toNat (rdT b) (rdL b) (rdS b) (rdL b).length 0 := by
  refine ⟨?_, ?_, ?_, ?_, rfl, ?_⟩ <;> rw [h] <;> rfl
theorem read_none (a : Option Addr) (n c : Nat) (b : List UInt8) (w : World) (hl : Sl w 1 (.slice a n c) n (bvs b)) (hsz : n ≤ 1073741824) (h : rdOk b = false) :
    Calls Try.prog 18 #[.slice a n c] w fun e w' => ∃ v, e = .returned (.tuple #[.agg #[.int .u8 0, .int .i64 0, v, .string ⟨#[]⟩], .int .i64 8]) ∧ Own w' w.heap.size 2 v 0 (wcells []) ∧ Below w.heap.size w w' :=
  read_p a n c b w hl hsz 0 0 [] [] 0 8 (rd_none h)
theorem cut_no {K : UInt8} {t : Int} {l : List (UInt8 × Int)} {S : List UInt8} (hE : wrE K t l S = 0) (r : Nat) (hr : r < (writeL K t l S).length) : rdOk ((writeL K t l S).take r) = false := by
  by_cases h5 : r < 5
  · rw [rdOk, decide_eq_false (by rw [List.length_take]; omega)]; rfl
  · refine wr_other K t l S hE _ ?_ ?_
    · rw [List.take_take, Nat.min_eq_left (by omega)]
    · rw [List.length_take]; omega
theorem more_no {K : UInt8} {t : Int} {l : List (UInt8 × Int)} {S : List UInt8} (hE : wrE K t l S = 0) (x : UInt8) : rdOk (writeL K t l S ++ [x]) = false := by
  refine wr_other K t l S hE _ ?_ ?_
  · rw [List.take_append_of_le_length (by rw [writeL_len]; omega)]
  · simp
theorem wrE_zero {K : UInt8} {t : Int} {l : List (UInt8 × Int)} {S : List UInt8} {Q : List UInt8} {N : Nat} {E : Int} (H : Q = wrQ K t l S ∧ N = Q.length ∧ E = wrE K t l S) (h0 : E = 0) : wrE K t l S = 0 ∧ Q = writeL K t l S ∧ N = 5 + 9 * l.length + S.length ∧ N ≤ 8192 := by
  obtain ⟨h1, h2, h3⟩ := H
  have e : wrE K t l S = 0 := by rw [← h3, h0]
  have e2 : Q = writeL K t l S := by rw [h1, wrQ, if_pos e]
  refine ⟨e, e2, by rw [h2, e2, writeL_len], by rw [h2, h1]; exact wrQ_le _ _ _ _⟩
theorem wrE_not {K : UInt8} {t : Int} {l : List (UInt8 × Int)} {S : List UInt8} {Q : List UInt8} {N : Nat} {E : Int} (H : Q = wrQ K t l S ∧ N = Q.length ∧ E = wrE K t l S) (h0 : ¬ E = 0) : Q = [] ∧ N = 0 := by
  obtain ⟨h1, h2, h3⟩ := H
  have e : Q = [] := by rw [h1, wrQ, if_neg (fun h => h0 (by rw [h3, h]))]
  exact ⟨e, by rw [h2, e]; rfl⟩

set_option maxRecDepth 100000 in
set_option maxHeartbeats 4000000 in
theorem recordCuts_walk (K : UInt8) (t : Int) (a : Option Addr) (n c : Nat) (l : List (UInt8 × Int)) (S : List UInt8) (w : World) (hl : Sl w 2 (.slice a n c) n (wcells l)) (m : Nat) (hm : S.length = m) (hm9 : m ≤ 9223372036854775807) (cut x : Nat) (hcut : cut < 65536) (hx : x < 256) :
    Calls Try.prog 8 #[.agg #[.int .u8 (K.toNat : Int), .int .i64 t, .slice a n c, .string (str S)], .int .u16 cut, .int .u8 x] w fun e w' => e = .returned (.bool true) ∧ Below w.heap.size w w' := by
  have HN := Lib.hid hl.wordLen.1
  obtain ⟨k, hk⟩ : ∃ k : Nat, k = K.toNat := ⟨_, rfl⟩
  rw [← hk]
  have hk9 : k < 256 := by rw [hk]; exact K.toNat_lt
  have HK : Hid (K.toNat = k) := hk.symm
  clear hk
  have hsz : (str S).size = m := by rw [← hm]; exact str_size S
  have HM := Lib.hid hm
  clear hm
  obtain ⟨X, hX⟩ : ∃ X, X = decide (2048 < n ∨ 32768 < m) := ⟨_, rfl⟩
  have HX := Lib.hid hX
  clear hX
  have hb0 : Below w.heap.size w (w.alloc (.cells #[.int .u8 (k : Int), .int .i64 t, .slice a n c, .string (str S)] 24)) := (Below.refl _ _).alloc (Nat.le_refl _) _
  have hr0 := Row.new w [.int .u8 (k : Int), .int .i64 t, .slice a n c, .string (str S)] 24
  have hl0 := hl.below hb0
  go_enter Try.func8, Try.ntmps8
  go_wp2_with (refine wpL_loadRow rfl _ _ rfl rfl hr0 Try.underlying24 rfl (by kernel_rfl) ?_)
  refine (large_any k t a n c l S _ hl0 m HM.out hm9 X HX).mono ?_
  rintro e w1 ⟨rfl, hb1⟩
  have hr1 := hr0.after hb1
  have hB1 := hb0.trans (hb1.mono hb0.size)
  have hl1 := hl.below hB1
  obtain ⟨A, hA⟩ : ∃ A, A = w.heap.size := ⟨_, rfl⟩
  rw [← hA] at hr1 ⊢
  have hAw : w.heap.size ≤ A := by omega
  clear hb0 hr0 hl0 hb1 hA
  cases X with
  | true =>
    go_wp2_with fail
    refine (works_any w1).mono ?_
    rintro e wZ ⟨rfl, hbZ⟩
    go_wp2_with fail
    go_ret
    exact ⟨rfl, (hB1).trans (hbZ.mono (hB1).size)⟩
  | false =>
  have hX := HX.out.symm
  rw [decide_eq_false_iff_not] at hX
  have hn9 : n ≤ 2048 := by omega
  have hm8 : m ≤ 32768 := by omega
  clear hX HX
  obtain ⟨Q, hQ⟩ : ∃ Q, Q = wrQ K t l S := ⟨_, rfl⟩
  obtain ⟨N, hN⟩ : ∃ N, N = Q.length := ⟨_, rfl⟩
  obtain ⟨E, hE⟩ : ∃ E, E = wrE K t l S := ⟨_, rfl⟩
  have hN9 : N ≤ 8192 := by rw [hN, hQ]; exact wrQ_le _ _ _ _
  have HQ : Hid (Q = wrQ K t l S ∧ N = Q.length ∧ E = wrE K t l S) := ⟨hQ, hN, hE⟩
  clear hQ hN hE
  have HW : Hid (∀ (a : Option Addr) (c : Nat) (w : World), Sl w 2 (.slice a n c) n (wcells l) → Calls Try.prog 12 #[.agg #[.int .u8 (k : Int), .int .i64 t, .slice a n c, .string (str S)]] w fun e w' => ∃ v, e = .returned (.tuple #[v, .int .i64 E]) ∧ Own w' w.heap.size 1 v N (bvs Q) ∧ Below w.heap.size w w') := by
    intro a c w hl
    have := write_p K t a n c l S w hl (by omega) m HM.out (by omega) Q N E HQ
    rw [HK.out] at this
    exact this
  go_upto_region 4 with (refine wpL_loadRow rfl _ _ rfl rfl hr1 Try.underlying24 rfl (by kernel_rfl) ?_)
  refine (HW.out a c w1 hl1).mono ?_
  rintro e w2 ⟨v2, rfl, ho2, hb2⟩
  obtain ⟨a2, c2, rfl⟩ := ho2.form
  have hB2 := hB1.trans (hb2.mono hB1.size)
  replace ho2 := ho2.mono (base' := w.heap.size) hB1.size
  clear hr1 hl1 hb2 HW
  by_cases hE0 : E = 0
  rotate_left
  · have hE1 : (E == 0) = false := by rw [beq_eq_false_iff_ne]; exact hE0
    go_wp2_with fail
    refine (works_any w2).mono ?_
    rintro e wZ ⟨rfl, hbZ⟩
    go_wp2_with fail
    go_ret
    exact ⟨rfl, (hB2).trans (hbZ.mono (hB2).size)⟩
  obtain ⟨g1, g2, g3, g4⟩ := wrE_zero HQ.out hE0
  have HG := Lib.hid (And.intro g1 g2)
  have hN5 : 5 ≤ N := by omega
  subst hE0
  clear g1 g2 g3 g4 HQ
  have hrN : cut % N < N := Nat.mod_lt _ (by omega)
  have hlen2 := ho2.len
  have HQL := Lib.hid hlen2.1
  have hN0 : ¬ (N : Int) = 0 := by omega
  have hN1 : ((N : Int) == 0) = false := by rw [beq_eq_false_iff_ne]; exact hN0
  have hcr : cut % N ≤ c2 := by have := ho2.sl.len.2.2; omega
  have hf := ho2.sl.front (m := cut % N) (by omega)
  rw [Nat.mul_one, bvs_take] at hf
  have HR1 := Lib.hid (read_none a2 (cut % N) c2 (Q.take (cut % N)) w2 hf (by omega) (by have := HG.out; rw [this.2]; exact cut_no this.1 _ (by rw [← this.2, HQL.out]; exact hrN)))
  clear hlen2 hf
  go_wp2_with fail
  refine HR1.out.mono ?_
  rintro e w3 ⟨v3, rfl, ho3, hb3⟩
  obtain ⟨a3, c3, rfl⟩ := ho3.form
  have ho23 := ho2.below hb3
  have hB3 := hB2.trans (hb3.mono hB2.size)
  have hrZ := Row.new w3 [.int .u8 0, .int .i64 0, .slice none 0 0, .string ⟨#[]⟩] 24
  have hbZ : Below w3.heap.size w3 (w3.alloc (.cells #[.int .u8 0, .int .i64 0, .slice none 0 0, .string ⟨#[]⟩] 24)) := (Below.refl _ _).alloc (Nat.le_refl _) _
  clear ho2 hB2 hb3 HR1
  go_upto_region 9 with (refine wpL_storeRow rfl _ _ _ rfl (cs := [.int .u8 0, .int .i64 0, .slice a3 0 c3, .string ⟨#[]⟩]) rfl rfl hrZ (by kernel_rfl) rfl rfl ?_; intro w4 hg4 hr4)
  have hb4 : Below w3.heap.size w3 w4 := hbZ.grown hg4 hbZ.size (fun g e => by cases e; exact Nat.le_refl _)
  have ho4 := ho23.below hb4
  have hB4 := hB3.trans (hb4.mono hB3.size)
  clear hrZ hbZ hg4 hr4 hb4 ho23 hB3 ho3
  have hs5 := Sl.one w4 (.int .u8 (x : Int)) 5
  have ho5 := ho4.alloc (.cells #[.int .u8 (x : Int)] 5)
  have hB5 := hB4.alloc hB4.size (.cells #[.int .u8 (x : Int)] 5)
  go_upto_region 10 with (at_builtin; refine wpL_append etB rfl _ _ rfl ho5 rfl hs5 rfl (by simp [Value.oneCell']) (by omega) (by simp [maxLen]; omega) hB5.size ?_; intro v6 w6 ho6 hg6; have hB6 := below_own hB5 ho5 hg6 (Nat.le_refl _) hB5.size; clear hg6)
  obtain ⟨a6, c6, rfl⟩ := ho6.form
  have hx6 : Hid ([Value.int .u8 (x : Int)] = bvs [UInt8.ofNat x]) := by show _ = _; simp [bvs, UInt8.toNat_ofNat', Nat.mod_eq_of_lt hx]
  rw [hx6.out, ← bvs_append] at ho6
  clear hs5 ho5 hB5 ho4 hB4
  go_wp2_with fail
  refine (read_none a6 (N + 1) c6 (Q ++ [UInt8.ofNat x]) w6 ho6.sl (by omega) (by have := HG.out; rw [this.2]; exact more_no this.1 _)).mono ?_
  rintro e w7 ⟨v7, rfl, ho7, hb7⟩
  obtain ⟨a7, c7, rfl⟩ := ho7.form
  have hB7 := hB6.trans (hb7.mono hB6.size)
  have hrZ := Row.new w7 [.int .u8 0, .int .i64 0, .slice none 0 0, .string ⟨#[]⟩] 24
  have hbZ : Below w7.heap.size w7 (w7.alloc (.cells #[.int .u8 0, .int .i64 0, .slice none 0 0, .string ⟨#[]⟩] 24)) := (Below.refl _ _).alloc (Nat.le_refl _) _
  clear hb7 hB6 ho6
  go_upto_region 11 with (refine wpL_storeRow rfl _ _ _ rfl (cs := [.int .u8 0, .int .i64 0, .slice a7 0 c7, .string ⟨#[]⟩]) rfl rfl hrZ (by kernel_rfl) rfl rfl ?_; intro w8 hg8 hr8)
  have hb8 : Below w7.heap.size w7 w8 := hbZ.grown hg8 hbZ.size (fun g e => by cases e; exact Nat.le_refl _)
  have hB8 := hB7.trans (hb8.mono hB7.size)
  clear hrZ hbZ hg8 hr8 hb8 hB7
  go_wp2_with fail
  refine (works_any w8).mono ?_
  rintro e wZ ⟨rfl, hbZ⟩
  go_wp2_with fail
  go_ret
  exact ⟨rfl, (hB8).trans (hbZ.mono (hB8).size)⟩
theorem recordCuts_top (cs : Array Value) (d : UInt8 × Int × List (UInt8 × Int) × List UInt8) (cut x : Int) (h1 : (Lit.int .u16 cut).wf = true) (h2 : (Lit.int .u8 x).wf = true) (w : World) (h : VObj w cs.toList d) : Calls Try.prog 8 #[.agg cs, .int .u16 cut, .int .u8 x] w fun e w' => e = .returned (.bool true) ∧ Below w.heap.size w w' := by
  obtain ⟨K, t, a, n, c, l, S, rfl, hl, hS⟩ := obj_open h
  obtain ⟨q, hq, rfl⟩ := nat_u16 h1
  obtain ⟨y, hy, rfl⟩ := nat_u8 h2
  exact recordCuts_walk K t a n c l S w hl _ rfl hS q y hq hy
set_option maxRecDepth 100000 in
set_option maxHeartbeats 8000000 in
theorem recordBack_walk (K : UInt8) (t : Int) (a : Option Addr) (n c : Nat) (l : List (UInt8 × Int)) (S : List UInt8) (w : World) (hl : Sl w 2 (.slice a n c) n (wcells l)) (m : Nat) (hm : S.length = m) (hm9 : m ≤ 9223372036854775807) (a2 : Option Addr) (n2 c2 : Nat) (b : List UInt8) (hb2 : Sl w 1 (.slice a2 n2 c2) n2 (bvs b)) :
    Calls Try.prog 6 #[.agg #[.int .u8 (K.toNat : Int), .int .i64 t, .slice a n c, .string (str S)], .slice a2 n2 c2] w fun e w' => e = .returned (.bool true) ∧ Below w.heap.size w w' := by
  have HBN := Lib.hid hb2.len.1
  have hn2m := hb2.len.2
  have HN := Lib.hid hl.wordLen.1
  obtain ⟨k, hk⟩ : ∃ k : Nat, k = K.toNat := ⟨_, rfl⟩
  rw [← hk]
  have hk9 : k < 256 := by rw [hk]; exact K.toNat_lt
  have HK : Hid (K.toNat = k) := hk.symm
  clear hk
  have hsz : (str S).size = m := by rw [← hm]; exact str_size S
  have HM := Lib.hid hm
  clear hm
  obtain ⟨X, hX⟩ : ∃ X, X = decide (2048 < n ∨ 32768 < m) := ⟨_, rfl⟩
  have HX := Lib.hid hX
  clear hX
  have hb0 : Below w.heap.size w (w.alloc (.cells #[.int .u8 (k : Int), .int .i64 t, .slice a n c, .string (str S)] 24)) := (Below.refl _ _).alloc (Nat.le_refl _) _
  have hr0 := Row.new w [.int .u8 (k : Int), .int .i64 t, .slice a n c, .string (str S)] 24
  have hl0 := hl.below hb0
  go_enter Try.func6, Try.ntmps6
  go_wp2_with (refine wpL_loadRow rfl _ _ rfl rfl hr0 Try.underlying24 rfl (by kernel_rfl) ?_)
  refine (large_any k t a n c l S _ hl0 m HM.out hm9 X HX).mono ?_
  rintro e w1 ⟨rfl, hb1⟩
  have hr1 := hr0.after hb1
  have hB1 := hb0.trans (hb1.mono hb0.size)
  have hl1 := hl.below hB1
  obtain ⟨A, hA⟩ : ∃ A, A = w.heap.size := ⟨_, rfl⟩
  rw [← hA] at hr1 ⊢
  have hAw : w.heap.size ≤ A := by omega
  clear hb0 hr0 hl0 hb1 hA
  cases X with
  | true =>
    go_wp2_with fail
    refine (works_any w1).mono ?_
    rintro e wZ ⟨rfl, hbZ⟩
    go_wp2_with fail
    go_ret
    exact ⟨rfl, (hB1).trans (hbZ.mono (hB1).size)⟩
  | false =>
  by_cases hbig : 16384 < n2
  · have hbigi : (16384 : Int) < n2 := by omega
    go_wp2_with fail
    refine (works_any w1).mono ?_
    rintro e wZ ⟨rfl, hbZ⟩
    go_wp2_with fail
    go_ret
    exact ⟨rfl, (hB1).trans (hbZ.mono (hB1).size)⟩
  have hbigi : ¬ (16384 : Int) < n2 := by omega
  have hX := HX.out.symm
  rw [decide_eq_false_iff_not] at hX
  have hn9 : n ≤ 2048 := by omega
  have hm8 : m ≤ 32768 := by omega
  clear hX HX
  obtain ⟨Q, hQ⟩ : ∃ Q, Q = wrQ K t l S := ⟨_, rfl⟩
  obtain ⟨N, hN⟩ : ∃ N, N = Q.length := ⟨_, rfl⟩
  obtain ⟨E, hE⟩ : ∃ E, E = wrE K t l S := ⟨_, rfl⟩
  have hN9 : N ≤ 8192 := by rw [hN, hQ]; exact wrQ_le _ _ _ _
  have HQ : Hid (Q = wrQ K t l S ∧ N = Q.length ∧ E = wrE K t l S) := ⟨hQ, hN, hE⟩
  clear hQ hN hE
  have HW : Hid (∀ (a : Option Addr) (c : Nat) (w : World), Sl w 2 (.slice a n c) n (wcells l) → Calls Try.prog 12 #[.agg #[.int .u8 (k : Int), .int .i64 t, .slice a n c, .string (str S)]] w fun e w' => ∃ v, e = .returned (.tuple #[v, .int .i64 E]) ∧ Own w' w.heap.size 1 v N (bvs Q) ∧ Below w.heap.size w w') := by
    intro a c w hl
    have := write_p K t a n c l S w hl (by omega) m HM.out (by omega) Q N E HQ
    rw [HK.out] at this
    exact this
  go_upto_region 4 with (refine wpL_loadRow rfl _ _ rfl rfl hr1 Try.underlying24 rfl (by kernel_rfl) ?_)
  refine (HW.out a c w1 hl1).mono ?_
  rintro e w2 ⟨v2, rfl, ho2, hb2'⟩
  obtain ⟨a3, c3, rfl⟩ := ho2.form
  have hr2 := hr1.after hb2'
  have hB2 := hB1.trans (hb2'.mono hB1.size)
  clear hr1 hl1 hb2' HW
  by_cases hE0 : E = 0
  rotate_left
  · have hE1 : (E == 0) = false := by rw [beq_eq_false_iff_ne]; exact hE0
    obtain ⟨rfl, rfl⟩ := wrE_not HQ.out hE0
    go_upto_region 10 with fail
    as_aux_lemma =>
      cases hok : rdOk b with
      | false =>
        go_wp2_with fail
        refine (read_none a2 n2 c2 b w2 (hb2.below hB2) (by omega) hok).mono ?_
        rintro e wa ⟨va, rfl, hoa, hba⟩
        obtain ⟨aa, ca, rfl⟩ := hoa.form
        have hBa := (hB2).trans (hba.mono (hB2).size)
        have hrZ := Row.new wa [.int .u8 0, .int .i64 0, .slice none 0 0, .string ⟨#[]⟩] 24
        have hbZ : Below wa.heap.size wa (wa.alloc (.cells #[.int .u8 0, .int .i64 0, .slice none 0 0, .string ⟨#[]⟩] 24)) := (Below.refl _ _).alloc (Nat.le_refl _) _
        go_upto_region 11 with (refine wpL_storeRow rfl _ _ _ rfl (cs := [.int .u8 0, .int .i64 0, .slice aa 0 ca, .string ⟨#[]⟩]) rfl rfl hrZ (by kernel_rfl) rfl rfl ?_; intro wc hgc hrc)
        have hbc : Below wa.heap.size wa wc := hbZ.grown hgc hbZ.size (fun g e => by cases e; exact Nat.le_refl _)
        have hoc := hoa.below hbc
        have hBc := hBa.trans (hbc.mono hBa.size)
        have d0 := hrc.cell 0
        have d1 := hrc.cell 1
        have d2 := hrc.cell 2
        have d3 := hrc.cell 3
        simp only [List.getElem?_cons_zero, List.getElem?_cons_succ] at d0 d1 d2 d3
        clear hrZ hbZ hgc hbc hoa hBa hba
        go_wp2_with fail
        refine (same_t 0 0 aa 0 ca none 0 [] [] wc hoc.sl (Sl.nil _ _)).mono ?_
        rintro e wd ⟨rfl, hbd⟩
        have hBd := hBc.trans (hbd.mono hBc.size)
        clear d0 d1 d2 d3 hrc hoc hBc hbd
        go_wp2_with fail
        refine (works_any wd).mono ?_
        rintro e wZ ⟨rfl, hbZ⟩
        go_wp2_with fail
        go_ret
        exact ⟨rfl, (hBd).trans (hbZ.mono (hBd).size)⟩
      | true =>
        obtain ⟨q1, q2⟩ := rd_write b hok
        obtain ⟨K2, hK2⟩ : ∃ K2, K2 = rdK b := ⟨_, rfl⟩
        obtain ⟨T2, hT2⟩ : ∃ T2, T2 = rdT b := ⟨_, rfl⟩
        obtain ⟨L2, hL2⟩ : ∃ L2, L2 = rdL b := ⟨_, rfl⟩
        obtain ⟨S2, hS2⟩ : ∃ S2, S2 = rdS b := ⟨_, rfl⟩
        obtain ⟨N2, hN2⟩ : ∃ N2, N2 = L2.length := ⟨_, rfl⟩
        obtain ⟨M2, hM2⟩ : ∃ M2, M2 = S2.length := ⟨_, rfl⟩
        obtain ⟨k2, hk2⟩ : ∃ k2, k2 = K2.toNat := ⟨_, rfl⟩
        have hlb := congrArg List.length q2
        rw [wrQ, if_pos q1, writeL_len] at hlb
        rw [← hK2, ← hT2, ← hL2, ← hS2] at q1 q2
        rw [← hL2, ← hS2, ← hN2, ← hM2, HBN.out] at hlb
        have hrd := fun (w : World) (hl : Sl w 1 (.slice a2 n2 c2) n2 (bvs b)) => read_p a2 n2 c2 b w hl (by omega) _ _ _ _ _ _ (rd_some hok)
        rw [← hK2, ← hT2, ← hL2, ← hS2, ← hN2, ← hk2] at hrd
        have hwr := fun (a : Option Addr) (c : Nat) (w : World) (hl : Sl w 2 (.slice a N2 c) N2 (wcells L2)) => write_p K2 T2 a N2 c L2 S2 w hl (by omega) M2 hM2.symm (by omega) b n2 0 ⟨q2.symm, HBN.out.symm, q1.symm⟩
        rw [← hk2] at hwr
        have HRD := Lib.hid hrd
        have HWR := Lib.hid hwr
        clear hrd hwr q1 q2 hlb hK2 hT2 hL2 hS2 hN2 hM2 hk2 hok
        go_wp2_with fail
        refine (HRD.out w2 (hb2.below hB2)).mono ?_
        rintro e wa ⟨va, rfl, hoa, hba⟩
        obtain ⟨aa, ca, rfl⟩ := hoa.form
        have hBa := (hB2).trans (hba.mono (hB2).size)
        have hrZ := Row.new wa [.int .u8 0, .int .i64 0, .slice none 0 0, .string ⟨#[]⟩] 24
        have hbZ : Below wa.heap.size wa (wa.alloc (.cells #[.int .u8 0, .int .i64 0, .slice none 0 0, .string ⟨#[]⟩] 24)) := (Below.refl _ _).alloc (Nat.le_refl _) _
        go_upto_region 11 with (refine wpL_storeRow rfl _ _ _ rfl (cs := [.int .u8 (k2 : Int), .int .i64 T2, .slice aa N2 ca, .string (str S2)]) rfl rfl hrZ (by kernel_rfl) rfl rfl ?_; intro wc hgc hrc)
        have hbc : Below wa.heap.size wa wc := hbZ.grown hgc hbZ.size (fun g e => by cases e; exact Nat.le_refl _)
        have hoc := hoa.below hbc
        have hBc := hBa.trans (hbc.mono hBa.size)
        clear hrZ hbZ hgc hbc hoa hBa hba
        go_upto_region 14 with (refine wpL_loadRow rfl _ _ rfl rfl hrc Try.underlying24 rfl (by kernel_rfl) ?_)
        refine (HWR.out aa ca wc hoc.sl).mono ?_
        rintro e wd ⟨vd, rfl, hod, hbd⟩
        obtain ⟨ad, cd, rfl⟩ := hod.form
        have hBd := hBc.trans (hbd.mono hBc.size)
        clear hrc hoc hBc hbd
        go_wp2_with fail
        refine (eqb_any a2 n2 c2 ad n2 cd b b wd (hb2.below hBd) hod.sl (by omega) (by omega)).mono ?_
        rintro e we ⟨rfl, hbe⟩
        rw [decide_eq_true rfl]
        have hBe := hBd.trans (hbe.mono hBd.size)
        clear hBd hbe hod
        go_wp2_with fail
        refine (works_any we).mono ?_
        rintro e wZ ⟨rfl, hbZ⟩
        go_wp2_with fail
        go_ret
        exact ⟨rfl, (hBe).trans (hbZ.mono (hBe).size)⟩
  obtain ⟨g1, g2, g3, g4⟩ := wrE_zero HQ.out hE0
  rw [HN.out, HM.out] at g3
  have hrd : RdIs Q k t l S n 0 := by
    obtain ⟨h1, h2, h3, h4, h5⟩ := wr_read K t l S g1
    rw [← g2] at h1 h2 h3 h4 h5
    have := rd_some h1
    rw [h2, h3, h4, h5, HK.out, HN.out] at this
    exact this
  have HRQ := Lib.hid hrd
  subst hE0
  subst g3
  clear g1 g2 hrd HQ
  go_wp2_with fail
  refine (read_p a3 _ c3 Q w2 ho2.sl (by omega) k t l S n 0 HRQ.out).mono ?_
  rintro e w3 ⟨v3, rfl, ho3, hb3⟩
  obtain ⟨a4, c4, rfl⟩ := ho3.form
  have hr3 := hr2.after hb3
  have hB3 := hB2.trans (hb3.mono hB2.size)
  have hrZ := Row.new w3 [.int .u8 0, .int .i64 0, .slice none 0 0, .string ⟨#[]⟩] 24
  have hbZ : Below w3.heap.size w3 (w3.alloc (.cells #[.int .u8 0, .int .i64 0, .slice none 0 0, .string ⟨#[]⟩] 24)) := (Below.refl _ _).alloc (Nat.le_refl _) _
  clear hr2 hB2 hb3
  go_upto_region 6 with (refine wpL_storeRow rfl _ _ _ rfl (cs := [.int .u8 (k : Int), .int .i64 t, .slice a4 n c4, .string (str S)]) rfl rfl hrZ (by kernel_rfl) rfl rfl ?_; intro w4 hg4 hr4)
  have hb4 : Below w3.heap.size w3 w4 := hbZ.grown hg4 hbZ.size (fun g e => by cases e; exact Nat.le_refl _)
  have hrA := hr3.after hb4
  have ho4 := ho3.below hb4
  have hB4 := hB3.trans (hb4.mono hB3.size)
  clear hrZ hbZ hg4 hb4 hr3 ho3 hB3 ho2
  have d0 := hr4.cell 0
  have d1 := hr4.cell 1
  have d2 := hr4.cell 2
  have d3 := hr4.cell 3
  have p0 := hrA.cell 0
  have p1 := hrA.cell 1
  have p2 := hrA.cell 2
  have p3 := hrA.cell 3
  simp only [List.getElem?_cons_zero, List.getElem?_cons_succ] at d0 d1 d2 d3 p0 p1 p2 p3
  go_wp2_with fail
  refine (same_t k t a n c a4 c4 l S w4 (hl.below hB4) ho4.sl).mono ?_
  rintro e w5 ⟨rfl, hb5⟩
  have hrA5 := hrA.after hb5
  have hB5 := hB4.trans (hb5.mono hB4.size)
  clear d0 d1 d2 d3 p0 p1 p2 p3 hr4 hrA ho4 hB4 hb5
  have p2 := hrA5.cell 2
  have p3 := hrA5.cell 3
  simp only [List.getElem?_cons_zero, List.getElem?_cons_succ] at p2 p3
  go_upto_region 10 with fail
  clear p2 p3
  as_aux_lemma =>
    cases hok : rdOk b with
    | false =>
      go_wp2_with fail
      refine (read_none a2 n2 c2 b w5 (hb2.below hB5) (by omega) hok).mono ?_
      rintro e wa ⟨va, rfl, hoa, hba⟩
      obtain ⟨aa, ca, rfl⟩ := hoa.form
      have hBa := (hB5).trans (hba.mono (hB5).size)
      have hrZ := Row.new wa [.int .u8 0, .int .i64 0, .slice none 0 0, .string ⟨#[]⟩] 24
      have hbZ : Below wa.heap.size wa (wa.alloc (.cells #[.int .u8 0, .int .i64 0, .slice none 0 0, .string ⟨#[]⟩] 24)) := (Below.refl _ _).alloc (Nat.le_refl _) _
      go_upto_region 11 with (refine wpL_storeRow rfl _ _ _ rfl (cs := [.int .u8 0, .int .i64 0, .slice aa 0 ca, .string ⟨#[]⟩]) rfl rfl hrZ (by kernel_rfl) rfl rfl ?_; intro wc hgc hrc)
      have hbc : Below wa.heap.size wa wc := hbZ.grown hgc hbZ.size (fun g e => by cases e; exact Nat.le_refl _)
      have hoc := hoa.below hbc
      have hBc := hBa.trans (hbc.mono hBa.size)
      have d0 := hrc.cell 0
      have d1 := hrc.cell 1
      have d2 := hrc.cell 2
      have d3 := hrc.cell 3
      simp only [List.getElem?_cons_zero, List.getElem?_cons_succ] at d0 d1 d2 d3
      clear hrZ hbZ hgc hbc hoa hBa hba
      go_wp2_with fail
      refine (same_t 0 0 aa 0 ca none 0 [] [] wc hoc.sl (Sl.nil _ _)).mono ?_
      rintro e wd ⟨rfl, hbd⟩
      have hBd := hBc.trans (hbd.mono hBc.size)
      clear d0 d1 d2 d3 hrc hoc hBc hbd
      go_wp2_with fail
      refine (works_any wd).mono ?_
      rintro e wZ ⟨rfl, hbZ⟩
      go_wp2_with fail
      go_ret
      exact ⟨rfl, (hBd).trans (hbZ.mono (hBd).size)⟩
    | true =>
      obtain ⟨q1, q2⟩ := rd_write b hok
      obtain ⟨K2, hK2⟩ : ∃ K2, K2 = rdK b := ⟨_, rfl⟩
      obtain ⟨T2, hT2⟩ : ∃ T2, T2 = rdT b := ⟨_, rfl⟩
      obtain ⟨L2, hL2⟩ : ∃ L2, L2 = rdL b := ⟨_, rfl⟩
      obtain ⟨S2, hS2⟩ : ∃ S2, S2 = rdS b := ⟨_, rfl⟩
      obtain ⟨N2, hN2⟩ : ∃ N2, N2 = L2.length := ⟨_, rfl⟩
      obtain ⟨M2, hM2⟩ : ∃ M2, M2 = S2.length := ⟨_, rfl⟩
      obtain ⟨k2, hk2⟩ : ∃ k2, k2 = K2.toNat := ⟨_, rfl⟩
      have hlb := congrArg List.length q2
      rw [wrQ, if_pos q1, writeL_len] at hlb
      rw [← hK2, ← hT2, ← hL2, ← hS2] at q1 q2
      rw [← hL2, ← hS2, ← hN2, ← hM2, HBN.out] at hlb
      have hrd := fun (w : World) (hl : Sl w 1 (.slice a2 n2 c2) n2 (bvs b)) => read_p a2 n2 c2 b w hl (by omega) _ _ _ _ _ _ (rd_some hok)
      rw [← hK2, ← hT2, ← hL2, ← hS2, ← hN2, ← hk2] at hrd
      have hwr := fun (a : Option Addr) (c : Nat) (w : World) (hl : Sl w 2 (.slice a N2 c) N2 (wcells L2)) => write_p K2 T2 a N2 c L2 S2 w hl (by omega) M2 hM2.symm (by omega) b n2 0 ⟨q2.symm, HBN.out.symm, q1.symm⟩
      rw [← hk2] at hwr
      have HRD := Lib.hid hrd
      have HWR := Lib.hid hwr
      clear hrd hwr q1 q2 hlb hK2 hT2 hL2 hS2 hN2 hM2 hk2 hok
      go_wp2_with fail
      refine (HRD.out w5 (hb2.below hB5)).mono ?_
      rintro e wa ⟨va, rfl, hoa, hba⟩
      obtain ⟨aa, ca, rfl⟩ := hoa.form
      have hBa := (hB5).trans (hba.mono (hB5).size)
      have hrZ := Row.new wa [.int .u8 0, .int .i64 0, .slice none 0 0, .string ⟨#[]⟩] 24
      have hbZ : Below wa.heap.size wa (wa.alloc (.cells #[.int .u8 0, .int .i64 0, .slice none 0 0, .string ⟨#[]⟩] 24)) := (Below.refl _ _).alloc (Nat.le_refl _) _
      go_upto_region 11 with (refine wpL_storeRow rfl _ _ _ rfl (cs := [.int .u8 (k2 : Int), .int .i64 T2, .slice aa N2 ca, .string (str S2)]) rfl rfl hrZ (by kernel_rfl) rfl rfl ?_; intro wc hgc hrc)
      have hbc : Below wa.heap.size wa wc := hbZ.grown hgc hbZ.size (fun g e => by cases e; exact Nat.le_refl _)
      have hoc := hoa.below hbc
      have hBc := hBa.trans (hbc.mono hBa.size)
      clear hrZ hbZ hgc hbc hoa hBa hba
      go_upto_region 14 with (refine wpL_loadRow rfl _ _ rfl rfl hrc Try.underlying24 rfl (by kernel_rfl) ?_)
      refine (HWR.out aa ca wc hoc.sl).mono ?_
      rintro e wd ⟨vd, rfl, hod, hbd⟩
      obtain ⟨ad, cd, rfl⟩ := hod.form
      have hBd := hBc.trans (hbd.mono hBc.size)
      clear hrc hoc hBc hbd
      go_wp2_with fail
      refine (eqb_any a2 n2 c2 ad n2 cd b b wd (hb2.below hBd) hod.sl (by omega) (by omega)).mono ?_
      rintro e we ⟨rfl, hbe⟩
      rw [decide_eq_true rfl]
      have hBe := hBd.trans (hbe.mono hBd.size)
      clear hBd hbe hod
      go_wp2_with fail
      refine (works_any we).mono ?_
      rintro e wZ ⟨rfl, hbZ⟩
      go_wp2_with fail
      go_ret
      exact ⟨rfl, (hBe).trans (hbZ.mono (hBe).size)⟩

theorem recordBack_top (cs : Array Value) (d : UInt8 × Int × List (UInt8 × Int) × List UInt8) (a : Option Addr) (n c : Nat) (b : List UInt8) (w : World) (h : VObj w cs.toList d) (hb : Sl w 1 (.slice a n c) n (bvs b)) : Calls Try.prog 6 #[.agg cs, .slice a n c] w fun e w' => e = .returned (.bool true) ∧ Below w.heap.size w w' := by
  obtain ⟨K, t, a', n', c', l, S, rfl, hl, hS⟩ := obj_open h
  exact recordBack_walk K t a' n' c' l S w hl _ rfl hS a n c b hb
end Go.Proofs.Ytgcohalmfigjpaa
