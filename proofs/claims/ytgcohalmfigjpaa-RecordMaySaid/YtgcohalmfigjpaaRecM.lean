/-
  The document's Read, walked.
-/
import Derived.Test.YtgcohalmfigjpaaRecP
import Derived.Test.YtgcohalmfigjpaaRecG
import Derived.Test.YtgcohalmfigjpaaRef00
import Derived.Test.YtgcohalmfigjpaaRecL
namespace Go.Proofs.Ytgcohalmfigjpaa
open Go.RowKit
set_option linter.unusedVariables false
set_option linter.unusedSimpArgs false

theorem piece_get (b : List UInt8) (k : Nat) (h : 5 + 9 * k + 9 ≤ b.length) : getN b ((5 + 9 * k : Nat) + 1 : Int) 8 = getN (piece (b.drop 5) k) 1 8 ∧ b.getD (5 + 9 * k) 0 = (piece (b.drop 5) k).getD 0 0 := by
  have hp : piece (b.drop 5) k = (b.drop (5 + 9 * k)).take 9 := by rw [piece, List.drop_drop]
  have h1 := getN_at b (5 + 9 * k + 1) 8 rfl (by omega)
  have h2 := getN_at (piece (b.drop 5) k) 1 8 rfl (by rw [piece_len _ _ (by rw [List.length_drop]; omega)]; omega)
  refine ⟨?_, ?_⟩
  · have e : ((5 + 9 * k : Nat) + 1 : Int) = ((5 + 9 * k + 1 : Nat) : Int) := by omega
    rw [e]
    refine h1.trans (Eq.trans ?_ h2.symm)
    rw [hp, List.drop_take, List.take_take, List.drop_drop]
    rfl
  · rw [hp, List.getD_eq_getElem?_getD, List.getD_eq_getElem?_getD, List.getElem?_take_of_lt (by omega), List.getElem?_drop, Nat.add_zero]
theorem wrQ_le (K : UInt8) (t : Int) (l : List (UInt8 × Int)) (S : List UInt8) : (wrQ K t l S).length ≤ 8192 := by
  unfold wrQ
  split
  · rename_i h
    rw [writeL_len]
    unfold wrE at h
    split at h
    · cases h
    · split at h
      · cases h
      · omega
  · simp
set_option maxHeartbeats 8000000 in
theorem rread_p (a : Option Addr) (n c : Nat) (b : List UInt8) (w : World) (hl : Sl w 1 (.slice a n c) n (bvs b)) (hsz : n ≤ 1073741824)
    (K : Nat) (T : Int) (L : List (UInt8 × Int)) (S : List UInt8) (N : Nat) (E : Int) (H : RdIs b K T L S N E) :
    Calls Try.prog 19 #[.slice a n c] w fun e w' => ∃ v, e = .returned (.tuple #[.agg #[.int .u8 (K : Int), .int .i64 T, v, .string (str S)], .int .i64 E]) ∧ Own w' w.heap.size 2 v N (wcells L) ∧ Below w.heap.size w w' := by
  have hn := hl.len
  have HN := Lib.hid hn.1
  have hnc := hn.2.2
  clear hn
  have HH := Lib.hid H
  clear H
  go_enter Try.func19, Try.ntmps19
  have hr0 : Row (w.alloc (.cells #[.int .u8 0, .int .i64 0, .slice none 0 0, .string ByteArray.empty] 24)) w.heap.size 24 [.int .u8 0, .int .i64 0, .slice none 0 0, .string ByteArray.empty] := Row.new w _ _
  have hb0 : Below w.heap.size w (w.alloc (.cells #[.int .u8 0, .int .i64 0, .slice none 0 0, .string ByteArray.empty] 24)) := (Below.refl _ _).alloc (Nat.le_refl _) _
  by_cases h5 : n < 5
  · have h5i : (n : Int) < 5 := by omega
    have hno : Hid (rdOk b = false) := by show _ = _; rw [rdOk, decide_eq_false (by rw [HN.out]; omega)]; rfl
    go_wp2_with (refine wpL_storeRow rfl _ _ _ rfl rfl rfl hr0 (by kernel_rfl) rfl rfl ?_; intro w2 hg2 hr2)
    obtain ⟨e1, e2, e3, e4, e5, e6⟩ := HH.out.no hno.out
    rw [e1, e2, e3, e4, e5, e6]
    try simp only [Exit.inBlock, Exit.then]
    refine bodyPost_ret (results_cell_obj rfl rfl hr2) rfl ?_
    exact ⟨_, rfl, Own.nil _ _ _, hb0.grown hg2 hb0.size (fun g e => by cases e; exact Nat.le_refl _)⟩
  by_cases h6 : 8192 < n
  · have h5i : ¬ (n : Int) < 5 := by omega
    have h6i : (8192 : Int) < n := by omega
    have hno : Hid (rdOk b = false) := by show _ = _; rw [rdOk, decide_eq_false (by rw [HN.out]; omega)]; rfl
    go_wp2_with (refine wpL_storeRow rfl _ _ _ rfl rfl rfl hr0 (by kernel_rfl) rfl rfl ?_; intro w2 hg2 hr2)
    obtain ⟨e1, e2, e3, e4, e5, e6⟩ := HH.out.no hno.out
    rw [e1, e2, e3, e4, e5, e6]
    try simp only [Exit.inBlock, Exit.then]
    refine bodyPost_ret (results_cell_obj rfl rfl hr2) rfl ?_
    exact ⟨_, rfl, Own.nil _ _ _, hb0.grown hg2 hb0.size (fun g e => by cases e; exact Nat.le_refl _)⟩
  have h5i : ¬ (n : Int) < 5 := by omega
  have h6i : ¬ (8192 : Int) < n := by omega
  obtain ⟨b1, o1, rfl, _⟩ := hl.byte (k := 0) (by omega)
  obtain ⟨B, hB⟩ : ∃ B, B = w.heap.size := ⟨_, rfl⟩
  go_wp2_with fail
  refine (rget_any _ n c b _ 1 2 (hl.below hb0) (by omega)).mono ?_
  rintro e w3 ⟨rfl, hw3⟩
  rw [hw3, ← hB] at hr0
  have hr3 := hr0
  have hB3 : Below w.heap.size w w3 := by rw [← hw3]; exact hb0
  obtain ⟨TT, hT⟩ : ∃ TT : Nat, TT = getN b 1 2 := ⟨_, rfl⟩
  have hT9 : TT < 65536 := by rw [hT]; exact getN_lt2 b 1
  rw [← hT]
  have HT : Hid (rdT b = (TT : Int)) := by show _ = _; rw [rdT, hT]
  generalize getE b 1 2 = X1
  obtain ⟨kb, hkb⟩ : ∃ kb, kb = (b.getD 0 0).toNat := ⟨_, rfl⟩
  have hk9 : kb < 256 := by rw [hkb]; exact UInt8.toNat_lt _
  have HK : Hid ((rdK b).toNat = kb) := by show _ = _; rw [rdK, hkb]
  have hl3 := hl.below hB3
  obtain ⟨_, _, e9, hq3⟩ := hl3.byte (k := 0) (by omega)
  cases e9
  rw [← hkb, Nat.add_zero] at hq3
  have hBl : B < w3.heap.size := hr3.lt
  have hBw : w.heap.size ≤ B := by omega
  rw [← hB]
  clear hT hkb hw3 hr0 hb0 hl3 hB
  have hrC := Row.new w3 [.int .u8 0, .int .i64 0, .slice none 0 0, .string ByteArray.empty] 24
  have hb4 : Below w3.heap.size w3 (w3.alloc (.cells #[.int .u8 0, .int .i64 0, .slice none 0 0, .string ByteArray.empty] 24)) := (Below.refl _ _).alloc (Nat.le_refl _) _
  go_upto_region 5 with (refine wpL_storeRow rfl _ _ _ rfl (cs := [.int .u8 (kb : Int), .int .i64 (TT : Int), .slice none 0 0, .string ByteArray.empty]) rfl rfl hrC (by kernel_rfl) rfl rfl ?_; intro w5 hg5 hr5)
  have hb5 : Below w3.heap.size w3 w5 := hb4.grown hg5 hb4.size (fun g e => by cases e; exact Nat.le_refl _)
  have hz5 := hr3.after hb5
  have hB5 := hB3.trans (hb5.mono hB3.size)
  obtain ⟨O, hO⟩ : ∃ O, O = w3.heap.size := ⟨_, rfl⟩
  rw [← hO] at hr5 ⊢
  have hBO : B < O := by omega
  have hO5 := hr5.lt
  clear hO hg5 hb5 hb4 hrC hr3 hB3 hBl hq3
  have c0 := hr5.cell 0
  simp only [List.getElem?_cons_zero] at c0
  by_cases hk5 : kb = 5
  · have hk5i : ((kb : Int) = 5) = True := eq_true (by omega)
    have hk5j : ((kb : Int) == 5) = true := by rw [beq_iff_eq]; omega
    have HK5 := Lib.hid hk5
    clear hk5
    go_upto_region 12 with (first
      | (refine wpL_cutW etB rfl (.tmp 35) _ none none rfl 5 n c rfl (bounds_5 _ n c (by omega)) (by omega) (Nat.le_refl _) (by omega) (by omega) ?_; intro av hav0; have hav := hav0 w _ hl; rw [bvs_drop, List.take_of_length_le (by rw [bvs_length, List.length_drop, HN.out]; exact Nat.le_refl _)] at hav; replace hav := hav.below hB5; clear hav0)
      | refine wpL_toString rfl 28 9 (.tmp 36) rfl Try.underlying28 Try.underlying5 Try.underlying9 hav rfl ?_
      | (refine wpL_storeAt rfl _ _ _ rfl (v := .string (str (b.drop 5))) rfl rfl rfl rfl (by kernel_rfl) hr5 rfl ?_; intro w7 hg7 hr7; have hB7 := hB5.grown hg7 hB5.size (fun g e => by cases e; omega); have hz7 := hz5.grown hg7 (by simp; omega); simp only [List.set_cons_zero, List.set_cons_succ] at hr7; clear hg7))
    obtain ⟨S2, hS2⟩ : ∃ S2, S2 = b.drop 5 := ⟨_, rfl⟩
    obtain ⟨L2, hL2⟩ : ∃ L2 : List (UInt8 × Int), L2 = [] := ⟨_, rfl⟩
    have hm2 : S2.length = n - 5 := by rw [hS2, List.length_drop, HN.out]
    have HL2 : Hid (rdL0 b = L2 ∧ rdS b = S2 ∧ L2.length = 0) := by
      show _ ∧ _
      have hk : rdK b = 5 := by rw [← UInt8.toNat_inj, HK.out, HK5.out]; rfl
      rw [rdL0, rdS, if_pos hk, if_pos hk, hL2, hS2]; exact ⟨rfl, rfl, rfl⟩
    have ho7 : Own w7 (O + 1) 2 (.slice none 0 0) 0 (wcells L2) := by rw [hL2]; exact Own.nil _ _ _
    rw [← hS2] at hr7
    have HM2 := Lib.hid hm2
    clear hS2 hL2 hav hr5 hB5 hz5 c0
    as_aux_lemma =>
      obtain ⟨Q, hQ⟩ : ∃ Q, Q = wrQ (rdK b) TT L2 S2 := ⟨_, rfl⟩
      obtain ⟨NQ, hNQ⟩ : ∃ NQ, NQ = Q.length := ⟨_, rfl⟩
      obtain ⟨E1, hE1⟩ : ∃ E1, E1 = wrE (rdK b) TT L2 S2 := ⟨_, rfl⟩
      have hNQ9 : NQ ≤ 8192 := by rw [hNQ, hQ]; exact wrQ_le _ _ _ _
      have hcall := rwrite_p (rdK b) TT none 0 0 L2 S2 w7 ho7.sl (by omega) (n - 5) hm2 (by omega) Q NQ E1 ⟨hQ, hNQ, hE1⟩
      rw [HK.out] at hcall
      have HLAW : Hid (rdOk b = (decide (E1 = 0) && decide (Q = b)) ∧ (rdOk b = true → rdL b = L2)) := by
        obtain ⟨g1, g2⟩ := rd_law b (by rw [HN.out]; omega) (by rw [HN.out]; omega)
        rw [HL2.out.1, HL2.out.2.1, HT.out] at g1
        rw [HL2.out.1] at g2
        show _ ∧ _
        rw [hE1, hQ]
        exact ⟨g1, g2⟩
      have HC := Lib.hid hcall
      clear hcall hQ hNQ hE1
      go_upto_region 13 with (refine wpL_loadRow rfl _ _ rfl rfl hr7 Try.underlying24 rfl (by kernel_rfl) ?_)
      refine HC.out.mono ?_
      rintro e w8 ⟨v8, rfl, ho8, hb8⟩
      have hr8 := hr7.after hb8
      have hz8 := hz7.after hb8
      have ho8b := ho7.below hb8
      have hB8 := hB7.trans (hb8.mono hB7.size)
      obtain ⟨a8, c8, rfl⟩ := ho8.form
      have hl8 := hl.below hB8
      clear hr7 hz7 ho7 hB7 HC hb8
      by_cases hE0 : E1 = 0
      · subst hE0
        by_cases hqb : Q = b
        · have hyes : Hid (rdOk b = true) := by show _ = _; rw [HLAW.out.1, decide_eq_true hqb]; rfl
          have hrl : Hid (rdL b = L2) := HLAW.out.2 hyes.out
          have heq := eqb_any a8 NQ c8 (some ⟨b1, o1, none⟩) n c Q b w8 ho8.sl hl8 (by omega) (by omega)
          rw [decide_eq_true hqb] at heq
          have HEQ := Lib.hid heq
          clear heq hqb
          go_wp2_with fail
          refine HEQ.out.mono ?_
          rintro e w9 ⟨rfl, hb9⟩
          have hr9 := hr8.after hb9
          have hz9 := hz8.after hb9
          have ho9 := ho8b.below hb9
          have hB9 := hB8.trans (hb9.mono hB8.size)
          clear hr8 hz8 ho8b hB8 hl8 ho8 HEQ hb9
          go_wp2_with (first | refine wpL_loadRow rfl _ _ rfl rfl hr9 Try.underlying24 rfl (by kernel_rfl) ?_ | (refine wpL_storeRow rfl _ _ _ rfl rfl rfl hz9 (by kernel_rfl) rfl rfl ?_; intro w10 hg10 hr10))
          have hB10 := hB9.grown hg10 hB9.size (fun g e => by cases e; exact hBw)
          have ho10 := ho9.kept hg10 (own_ne ho9 (by omega))
          obtain ⟨e1, e2, e3, e4, e5, e6⟩ := HH.out.yes hyes.out
          rw [e1, e2, e3, e4, e5, e6, HK.out, HT.out, hrl.out, HL2.out.2.2, HL2.out.2.1]
          try simp only [Exit.inBlock, Exit.then]
          refine bodyPost_ret (results_cell_obj rfl rfl hr10) rfl ?_
          exact ⟨_, rfl, ho10.mono (by omega), hB10⟩
        · have hno : Hid (rdOk b = false) := by show _ = _; rw [HLAW.out.1, decide_eq_false hqb]; simp
          have heq := eqb_any a8 NQ c8 (some ⟨b1, o1, none⟩) n c Q b w8 ho8.sl hl8 (by omega) (by omega)
          rw [decide_eq_false hqb] at heq
          have HEQ := Lib.hid heq
          clear heq hqb
          go_wp2_with fail
          refine HEQ.out.mono ?_
          rintro e w9 ⟨rfl, hb9⟩
          replace hz8 := hz8.after hb9
          replace hB8 := hB8.trans (hb9.mono hB8.size)
          clear hr8 ho8b hl8 ho8 HEQ hb9
          obtain ⟨w8, rfl⟩ : ∃ x, x = w9 := ⟨_, rfl⟩
          go_wp2_with (refine wpL_storeRow rfl _ _ _ rfl rfl rfl hz8 (by kernel_rfl) rfl rfl ?_; intro w9 hg9 hr9)
          have hB9 := hB8.grown hg9 hB8.size (fun g e => by cases e; exact hBw)
          obtain ⟨e1, e2, e3, e4, e5, e6⟩ := HH.out.no hno.out
          rw [e1, e2, e3, e4, e5, e6]
          try simp only [Exit.inBlock, Exit.then]
          refine bodyPost_ret (results_cell_obj rfl rfl hr9) rfl ?_
          exact ⟨_, rfl, Own.nil _ _ _, hB9⟩
      · have hno : Hid (rdOk b = false) := by show _ = _; rw [HLAW.out.1, decide_eq_false hE0]; rfl
        go_wp2_with (refine wpL_storeRow rfl _ _ _ rfl rfl rfl hz8 (by kernel_rfl) rfl rfl ?_; intro w9 hg9 hr9)
        have hB9 := hB8.grown hg9 hB8.size (fun g e => by cases e; exact hBw)
        obtain ⟨e1, e2, e3, e4, e5, e6⟩ := HH.out.no hno.out
        rw [e1, e2, e3, e4, e5, e6]
        try simp only [Exit.inBlock, Exit.then]
        refine bodyPost_ret (results_cell_obj rfl rfl hr9) rfl ?_
        exact ⟨_, rfl, Own.nil _ _ _, hB9⟩
  · have hk5i : ¬ (kb : Int) = 5 := by omega
    have hk5j : ((kb : Int) == 5) = false := by rw [beq_eq_false_iff_ne]; omega
    have HK5 := Lib.hid hk5
    clear hk5
    go_wp2_with fail
    obtain ⟨rst, hrst⟩ : ∃ rst, rst = b.drop 5 := ⟨_, rfl⟩
    have HRST := Lib.hid hrst
    clear hrst
    go_loopw [7] (fun v7 wr => ∃ (k q : Nat) (v : Value), q ≤ n ∧ v7 = .int .i64 q ∧ Row wr O 24 [.int .u8 (kb : Int), .int .i64 (TT : Int), v, .string ByteArray.empty] ∧ Own wr (O + 1) 2 v k (wcells (wordsR rst k)) ∧ Row wr B 24 [.int .u8 0, .int .i64 0, .slice none 0 0, .string ByteArray.empty] ∧ Below w.heap.size w wr ∧ Hid (q = 5 + 9 * k)) (fun v7 _ => n - (intOf v7).toNat)
    case atStart => exact ⟨0, 5, .slice none 0 0, by omega, rfl, hr5, Own.nil _ _ _, hz5, hB5, Lib.hid rfl⟩
    case round =>
      clear hr5 hz5 hB5 hO5 c0
      obtain ⟨k, q, v, hq, rfl, hr7, ho7, hz7, hB7, HQ⟩ := hrel
      obtain ⟨va, vc, rfl⟩ := ho7.form
      by_cases hqn : n < q + 9
      · have hqi : ¬ (q : Int) + 9 ≤ n := by omega
        obtain ⟨S2, hS2⟩ : ∃ S2 : List UInt8, S2 = [] := ⟨_, rfl⟩
        obtain ⟨L2, hL2⟩ : ∃ L2, L2 = wordsR rst k := ⟨_, rfl⟩
        have hm2 : S2.length = 0 := by rw [hS2]; rfl
        have hk9' : k ≤ 1000 := by have := HQ.out; omega
        have HL2 : Hid (rdL0 b = L2 ∧ rdS b = S2 ∧ L2.length = k) := by
          show _ ∧ _
          have hk : ¬ rdK b = 5 := fun h => HK5.out (by rw [← HK.out, h]; rfl)
          have e : (b.drop 5).length / 9 = k := by
            have := HQ.out
            rw [List.length_drop, HN.out]; omega
          rw [rdL0, rdS, if_neg hk, if_neg hk, hL2, hS2, e, ← HRST.out]
          exact ⟨rfl, rfl, wordsR_len _ _⟩
        rw [← hL2] at ho7
        replace hr7 : Row wr O 24 [.int .u8 (kb : Int), .int .i64 (TT : Int), .slice va k vc, .string (str S2)] := by rw [hS2]; exact hr7
        clear hS2 hL2
        obtain ⟨w7, rfl⟩ : ∃ x, x = wr := ⟨_, rfl⟩
        as_aux_lemma =>
          obtain ⟨Q, hQ⟩ : ∃ Q, Q = wrQ (rdK b) TT L2 S2 := ⟨_, rfl⟩
          obtain ⟨NQ, hNQ⟩ : ∃ NQ, NQ = Q.length := ⟨_, rfl⟩
          obtain ⟨E1, hE1⟩ : ∃ E1, E1 = wrE (rdK b) TT L2 S2 := ⟨_, rfl⟩
          have hNQ9 : NQ ≤ 8192 := by rw [hNQ, hQ]; exact wrQ_le _ _ _ _
          have hcall := rwrite_p (rdK b) TT va k vc L2 S2 w7 ho7.sl (by omega) 0 hm2 (by omega) Q NQ E1 ⟨hQ, hNQ, hE1⟩
          rw [HK.out] at hcall
          have HLAW : Hid (rdOk b = (decide (E1 = 0) && decide (Q = b)) ∧ (rdOk b = true → rdL b = L2)) := by
            obtain ⟨g1, g2⟩ := rd_law b (by rw [HN.out]; omega) (by rw [HN.out]; omega)
            rw [HL2.out.1, HL2.out.2.1, HT.out] at g1
            rw [HL2.out.1] at g2
            show _ ∧ _
            rw [hE1, hQ]
            exact ⟨g1, g2⟩
          have HC := Lib.hid hcall
          clear hcall hQ hNQ hE1
          go_upto_region 13 with (refine wpL_loadRow rfl _ _ rfl rfl hr7 Try.underlying24 rfl (by kernel_rfl) ?_)
          refine HC.out.mono ?_
          rintro e w8 ⟨v8, rfl, ho8, hb8⟩
          have hr8 := hr7.after hb8
          have hz8 := hz7.after hb8
          have ho8b := ho7.below hb8
          have hB8 := hB7.trans (hb8.mono hB7.size)
          obtain ⟨a8, c8, rfl⟩ := ho8.form
          have hl8 := hl.below hB8
          clear hr7 hz7 ho7 hB7 HC hb8
          by_cases hE0 : E1 = 0
          · subst hE0
            by_cases hqb : Q = b
            · have hyes : Hid (rdOk b = true) := by show _ = _; rw [HLAW.out.1, decide_eq_true hqb]; rfl
              have hrl : Hid (rdL b = L2) := HLAW.out.2 hyes.out
              have heq := eqb_any a8 NQ c8 (some ⟨b1, o1, none⟩) n c Q b w8 ho8.sl hl8 (by omega) (by omega)
              rw [decide_eq_true hqb] at heq
              have HEQ := Lib.hid heq
              clear heq hqb
              go_wp2_with fail
              refine HEQ.out.mono ?_
              rintro e w9 ⟨rfl, hb9⟩
              have hr9 := hr8.after hb9
              have hz9 := hz8.after hb9
              have ho9 := ho8b.below hb9
              have hB9 := hB8.trans (hb9.mono hB8.size)
              clear hr8 hz8 ho8b hB8 hl8 ho8 HEQ hb9
              go_wp2_with (first | refine wpL_loadRow rfl _ _ rfl rfl hr9 Try.underlying24 rfl (by kernel_rfl) ?_ | (refine wpL_storeRow rfl _ _ _ rfl rfl rfl hz9 (by kernel_rfl) rfl rfl ?_; intro w10 hg10 hr10))
              have hB10 := hB9.grown hg10 hB9.size (fun g e => by cases e; exact hBw)
              have ho10 := ho9.kept hg10 (own_ne ho9 (by omega))
              obtain ⟨e1, e2, e3, e4, e5, e6⟩ := HH.out.yes hyes.out
              rw [e1, e2, e3, e4, e5, e6, HK.out, HT.out, hrl.out, HL2.out.2.2, HL2.out.2.1]
              try simp only [Exit.inBlock, Exit.then]
              refine bodyPost_ret (results_cell_obj rfl rfl hr10) rfl ?_
              exact ⟨_, rfl, ho10.mono (by omega), hB10⟩
            · have hno : Hid (rdOk b = false) := by show _ = _; rw [HLAW.out.1, decide_eq_false hqb]; simp
              have heq := eqb_any a8 NQ c8 (some ⟨b1, o1, none⟩) n c Q b w8 ho8.sl hl8 (by omega) (by omega)
              rw [decide_eq_false hqb] at heq
              have HEQ := Lib.hid heq
              clear heq hqb
              go_wp2_with fail
              refine HEQ.out.mono ?_
              rintro e w9 ⟨rfl, hb9⟩
              replace hz8 := hz8.after hb9
              replace hB8 := hB8.trans (hb9.mono hB8.size)
              clear hr8 ho8b hl8 ho8 HEQ hb9
              obtain ⟨w8, rfl⟩ : ∃ x, x = w9 := ⟨_, rfl⟩
              go_wp2_with (refine wpL_storeRow rfl _ _ _ rfl rfl rfl hz8 (by kernel_rfl) rfl rfl ?_; intro w9 hg9 hr9)
              have hB9 := hB8.grown hg9 hB8.size (fun g e => by cases e; exact hBw)
              obtain ⟨e1, e2, e3, e4, e5, e6⟩ := HH.out.no hno.out
              rw [e1, e2, e3, e4, e5, e6]
              try simp only [Exit.inBlock, Exit.then]
              refine bodyPost_ret (results_cell_obj rfl rfl hr9) rfl ?_
              exact ⟨_, rfl, Own.nil _ _ _, hB9⟩
          · have hno : Hid (rdOk b = false) := by show _ = _; rw [HLAW.out.1, decide_eq_false hE0]; rfl
            go_wp2_with (refine wpL_storeRow rfl _ _ _ rfl rfl rfl hz8 (by kernel_rfl) rfl rfl ?_; intro w9 hg9 hr9)
            have hB9 := hB8.grown hg9 hB8.size (fun g e => by cases e; exact hBw)
            obtain ⟨e1, e2, e3, e4, e5, e6⟩ := HH.out.no hno.out
            rw [e1, e2, e3, e4, e5, e6]
            try simp only [Exit.inBlock, Exit.then]
            refine bodyPost_ret (results_cell_obj rfl rfl hr9) rfl ?_
            exact ⟨_, rfl, Own.nil _ _ _, hB9⟩
      · have hqi : (q : Int) + 9 ≤ n := by omega
        have hqn' : q < n := by omega
        have hpg := piece_get b k (by rw [HN.out]; have := HQ.out; omega)
        rw [← HQ.out, ← HRST.out] at hpg
        have hWS : Hid (wordsR rst (k + 1) = wordsR rst k ++ [wordR (piece rst k)]) := wordsR_succ rst k
        obtain ⟨x0, hx0⟩ : ∃ x0, x0 = b.getD q 0 := ⟨_, rfl⟩
        obtain ⟨gn, hgn⟩ : ∃ gn, gn = getN b ((q : Int) + 1) 8 := ⟨_, rfl⟩
        have hWR : Hid (wordR (piece rst k) = (x0, i64W gn)) := by show _ = _; rw [wordR, ← hpg.1, ← hpg.2, hx0, hgn]
        have hk9' : k ≤ 1000 := by have := HQ.out; omega
        have HQ2 : Hid (q + 9 = 5 + 9 * (k + 1)) := by show _ = _; have := HQ.out; omega
        have hgn9 : gn < 18446744073709551616 := by
          rw [hgn]
          unfold getN
          split
          · rename_i h
            have h1 := leN_lt (cutL b ((q : Int) + 1) 8)
            have h2 : (cutL b ((q : Int) + 1) 8).length ≤ 8 := by
              unfold cutL
              split
              · simp; omega
              · simp
            have : 256 ^ (cutL b ((q : Int) + 1) 8).length ≤ 256 ^ 8 := Nat.pow_le_pow_right (by decide) h2
            omega
          · omega
        have hget := rget_any (some ⟨b1, o1, none⟩) n c b wr ((q : Int) + 1) 8 (hl.below hB7) (by omega)
        rw [← hgn] at hget
        generalize getE b ((q : Int) + 1) 8 = X2 at hget
        have HGET := Lib.hid hget
        obtain ⟨_, _, e9, hq3⟩ := (hl.below hB7).byte hqn'
        cases e9
        rw [← hx0] at hq3
        clear hpg hx0 hgn hget
        go_wp2_with fail
        refine HGET.out.mono ?_
        rintro e w3 ⟨rfl, rfl⟩
        have c2 := hr7.cell 2
        simp only [List.getElem?_cons_zero, List.getElem?_cons_succ] at c2
        have hb1w : b1 < O + 1 := by
          obtain ⟨b', o', e1, e2, _⟩ := hl.addr (by omega)
          cases e1
          omega
        have hOw := hr7.lt
        have l1 := laterL_cell (B := O + 1) c2 (by omega)
        have l2 := laterL_cell (B := O + 1) hq3 (by omega)
        clear c2 hq3 HGET
        go_wp2_with fail
        refine wp_region_idx (RbL (O + 1)) (RbL_refl _) (RbL_trans _) [(0,0),(0,1),(0,2),(0,3),(0,4),(0,5),(0,6),(0,7),(0,8),(1,9),(1,10),(0,11),(2,12)] (by kernel_rfl) (by kernel_rfl) (by kernel_rfl) ?_
        simp only [pickO, List.getD_cons_succ, List.getD_cons_zero]
        refine wpCan_seg 9 (by kernel_rfl) ?_
        simp only [List.take_succ_cons, List.take_zero, List.drop_succ_cons, List.drop_zero, List.map_cons, List.map_nil]
        iterate 9 (go_big_quiet_step (fail))
        refine wpQuiet_nil ?_
        clear l1 l2
        refine wpCan_list (k := 0) (fun KK hK => ?_) (fun _ => RbL_refl _ _)
        go_wp2_with fail
        obtain ⟨z, hz⟩ : ∃ z, z = wrap64 (gn : Int) := ⟨_, rfl⟩
        rw [← hz]
        have hzW : Hid (wordR (piece rst k) = (x0, z)) := by show _ = _; rw [hWR.out, hz]; rfl
        clear hz hWR
        have hb7 : Below wr.heap.size wr.drew (wr.alloc (.cells #[.int .u8 (x0.toNat : Int), .int .i64 z] 44)).drew := ((Below.refl wr.heap.size wr.drew).alloc (Nat.le_refl _) _)
        have hs7 : Sl (wr.alloc (.cells #[.int .u8 (x0.toNat : Int), .int .i64 z] 44)).drew 2 (.slice (some ⟨wr.heap.size, 0, none⟩) 1 1) 1 (wcells [(x0, z)]) := by
          refine Sl.drew ⟨rfl, _, _, rfl, Nat.le_refl _, by decide, by simp, fun j u hu => ⟨_, 0, rfl, ?_⟩⟩
          rw [Nat.zero_add]
          exact ((Row.new wr [.int .u8 (x0.toNat : Int), .int .i64 z] 44).cell j).trans hu
        refine hK _ _ (fun _ => hb7.mono (by omega)) ?_
        clear hK KK
        have t1 := (hr7.drew).after hb7
        have t2 := (ho7.drew).below hb7
        have t3 := (hz7.drew).after hb7
        have t5 := (hB7.drew).trans (hb7.mono hB7.size)
        have hz7' : O < (wr.alloc (.cells #[.int .u8 (x0.toNat : Int), .int .i64 z] 44)).drew.heap.size := Nat.lt_of_lt_of_le hOw hb7.size
        generalize (wr.alloc (.cells #[.int .u8 (x0.toNat : Int), .int .i64 z] 44)).drew = W7 at hb7 hs7 t1 t2 t3 t5 hz7' ⊢
        clear hr7 ho7 hz7 hB7 hb7
        refine wpCan_list (k := 0) (fun KK hK => ?_) (fun _ => RbL_refl _ _)
        go_wp2_with (at_builtin; refine wpL_appendX2 etW rfl _ _ rfl t2 rfl hs7 rfl (by simp [wcells, Value.oneCell']) (by omega) (by simp [maxLen]; omega) (by omega) ?_; intro v8 W8 ho8 hg8 hc8)
        have hne : ∀ b, b < O + 1 → some b ≠ (Value.slice va k vc).ownBlock := fun b hb e => by have := t2.lt b e.symm; omega
        have hb8 : Below (O + 1) W7 W8 := ⟨hg8.os, hg8.tape, hg8.output, hg8.size, fun q hq => hg8.block q (by omega) (hne q hq)⟩
        refine hK _ _ (fun _ => hb8) ?_
        clear hK KK
        have u1 := t1.below hb8 (by omega)
        have u3 := t3.below hb8 (by omega)
        have u5 := t5.trans (hb8.mono (by omega))
        rw [← wcells_append, ← hzW.out, ← hWS.out] at ho8
        obtain ⟨va8, vc8, rfl⟩ := ho8.form
        clear t1 t2 t3 t5 hs7 hg8 hc8 hb8 hne
        refine wpCan_seg 1 (by kernel_rfl) ?_
        simp only [List.take_succ_cons, List.take_zero, List.drop_succ_cons, List.drop_zero, List.map_cons, List.map_nil]
        iterate 1 (go_big_quiet_step (fail))
        refine wpQuiet_nil ?_
        refine wpCan_list (k := 1) (fun KK hK => ?_) (fun h => by cases h)
        go_wp2_with (refine wpL_storeAt rfl _ _ _ rfl (v := .slice va8 (k + 1) vc8) rfl rfl rfl rfl (by kernel_rfl) u1 rfl ?_; intro W9 hg9 hr9; simp only [List.set_cons_zero, List.set_cons_succ] at hr9)
        refine hK _ _ (fun h => by cases h) ?_
        clear hK KK
        unfold wpCan
        go_wp2_with fail
        exact ⟨⟨k + 1, q + 9, .slice va8 (k + 1) vc8, by omega, by go_num, hr9, ho8.kept hg9 (own_ne ho8 (by omega)), u3.grown hg9 (by simp; omega), u5.grown hg9 u5.size (fun g e => by cases e; omega), HQ2⟩, by simp [intOf]; omega⟩
end Go.Proofs.Ytgcohalmfigjpaa
