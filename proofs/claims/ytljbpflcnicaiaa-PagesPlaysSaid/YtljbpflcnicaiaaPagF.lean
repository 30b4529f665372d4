/-
  The document's Part, walked. Conditions: a map reads as one.
-/
import Derived.Test.YtljbpflcnicaiaaPagE
namespace Go.Proofs.Ytljbpflcnicaiaa
open Go.RowKit
set_option linter.unusedVariables false
set_option linter.unusedSimpArgs false

theorem digs_cells (v : Nat) (h : v < 65536) : [Value.int .u8 ((v : Int) % 256), Value.int .u8 ((v : Int) / 256)] = bvs (digs v 2) := by
  rw [digs2]
  have h1 : ((UInt8.ofNat (v % 256)).toNat : Int) = (v : Int) % 256 := by simp
  have h2 : ((UInt8.ofNat (v / 256 % 256)).toNat : Int) = (v : Int) / 256 := by simp; omega
  rw [← h1, ← h2]; rfl
set_option maxRecDepth 100000 in
set_option maxHeartbeats 2000000 in
theorem rpart_p (b : Nat) (S : List Nat) (i : Int) (w : World) (h : RM w b S) (Q : List UInt8) (hQ : Hid (Q = partB S i)) :
    Calls Try.prog 30 #[.pointer (some ⟨b, 0, none⟩), .int .i64 i] w fun e w' => ∃ v, e = .returned v ∧ Own w' w.heap.size 1 v Q.length (bvs Q) ∧ Below w.heap.size w w' := by
  rcases part_cases S i with ⟨h1, h2⟩ | ⟨k, rfl, hk, h2⟩
  · obtain rfl : Q = [] := hQ.out.trans h2
    clear h2 hQ
    rcases h1 with h1 | h1
    · go_enter Try.func30, Try.ntmps30
      go_wp2_with fail
      go_ret
      exact ⟨_, rfl, Own.nil _ _ _, Below.refl _ _⟩
    · have h0 : ¬ i < 0 := by omega
      go_enter Try.func30, Try.ntmps30
      go_wp2_with fail
      go_ret
      exact ⟨_, rfl, Own.nil _ _ _, Below.refl _ _⟩
  · obtain ⟨P, hP⟩ : ∃ P, P = partN k := ⟨_, rfl⟩
    obtain ⟨O, hO⟩ : ∃ O, O = 124 * k := ⟨_, rfl⟩
    obtain ⟨C, hC⟩ : ∃ C, C = 1024 - 124 * k := ⟨_, rfl⟩
    obtain ⟨L, hL⟩ : ∃ L, L = partL S k := ⟨_, rfl⟩
    have hP2 := partN_le k
    have hO2 := part_end k hk
    have hs := part_row h.1 h.2 k hk
    have HL : Hid (L.length = P) := by show _ = _; rw [hL, hP]; exact part_len h.2 k hk
    have HV : Hid (∀ j, L.getD j 0 < 65536) := fun j => by rw [hL]; exact part_lt h.2 k j
    have HQ : Hid (Q = bytes2 (trimZ L)) := by rw [hL]; exact hQ.out.trans h2
    have hP8 : (O = 992 ∧ P = 32) ∨ P = 124 := by
      rw [hO, hP, partN]
      split <;> omega
    rw [← hL, ← hC, ← hP, ← hO] at hs
    rw [← hP] at hP2 hO2
    rw [← hO] at hO2
    have hkO : (k : Int) * 124 = (O : Int) := by omega
    have hkO2 : ((k : Int) + 1) * 124 = (O : Int) + 124 := by omega
    have hk0 : ¬ (k : Int) < 0 := by omega
    have hk9 : ¬ (9 : Int) ≤ k := by omega
    clear hP hO hC h2 hL hQ
    go_enter Try.func30, Try.ntmps30
    go_wp2_with fail
    go_loopw [5, 6] (fun v5 v6 wr => ∃ q N : Nat, q ≤ P ∧ v6 = .int .i64 ((O + q : Nat) : Int) ∧ N = 2 * q ∧ Own wr w.heap.size 1 v5 N (bvs (bytes2 (L.take q))) ∧ Below w.heap.size w wr) (fun _ v6 _ => O + P - (intOf v6).toNat)
    case atStart => exact ⟨0, 0, Nat.zero_le _, rfl, rfl, by simpa [bytes2, bvs] using Own.nil w w.heap.size 1, Below.refl _ _⟩
    case round =>
      obtain ⟨q, N, hq, rfl, hN, ho, hb⟩ := hrel
      obtain ⟨a5, c5, rfl⟩ := ho.form
      by_cases hqP : q = P
      · subst hN
        have hPq := hqP.symm
        clear hqP
        subst hPq
        rcases hP8 with ⟨e1, e2⟩ | e1
        · have hx1 : (O : Int) + (P : Int) < (O : Int) + 124 := by omega
          have hx2 : ¬ (O : Int) + (P : Int) < 1024 := by omega
          clear e1 e2
          go_wp2_with fail
          go_loop [5] (fun v5 => ∃ t a c, t ≤ P ∧ v5 = .slice a (2 * t) c ∧ Own wr w.heap.size 1 (.slice a (2 * t) c) (2 * t) (bvs (bytes2 (L.take t))) ∧ trimZ L = trimZ (L.take t)) (fun v5 => match v5 with | .slice _ t _ => t | _ => 0)
          case atStart => exact ⟨P, a5, c5, Nat.le_refl _, rfl, ho, by rw [List.take_of_length_le (by rw [HL.out]; exact Nat.le_refl _)]⟩
          case round =>
            clear ho
            obtain ⟨t, a6, c6, ht, rfl, ho, htr⟩ := hrel
            cases t with
            | zero =>
              have HTT : Hid (trimZ L = L.take 0) := by show _ = _; rw [htr]; rfl
              clear htr
              rw [Nat.mul_zero] at ho
              go_wp2_with fail
              go_ret
              rw [HQ.out, HTT.out, ho.len.1]
              exact ⟨_, rfl, ho, hb⟩
            | succ t =>
              have htl := nats_snoc L t (by rw [HL.out]; omega)
              have hbg := bytes2_get (L.take (t + 1)) t (by rw [List.length_take, HL.out]; omega)
              have hgd : (L.take (t + 1)).getD t 0 = L.getD t 0 := by rw [List.getD_eq_getElem?_getD, List.getElem?_take_of_lt (by omega), ← List.getD_eq_getElem?_getD]
              rw [hgd] at hbg
              have hv := HV.out t
              have hfr : (bytes2 (L.take (t + 1))).take (2 * t) = bytes2 (L.take t) := by rw [bytes2_take, List.take_take, Nat.min_eq_left (by omega)]
              obtain ⟨s, hs0⟩ : ∃ s, s = L.getD t 0 := ⟨_, rfl⟩
              rw [← hs0] at hbg htl hv
              obtain ⟨M, hM⟩ : ∃ M, M = 2 * t := ⟨_, rfl⟩
              rw [show 2 * (t + 1) = M + 2 by omega] at ho ⊢
              rw [← hM] at hbg hfr
              obtain ⟨g, off, cap, e6, g1, g2, g3, g4, g5⟩ := ho.open (by omega) (by decide)
              cases e6
              have hlen := ho.len.1
              have hc1 := ho.get (M + 1) (by rw [bvs_length]; omega)
              have hc2 := ho.get M (by rw [bvs_length]; omega)
              rw [bvs_get _ _ (by omega), hbg.2] at hc1
              rw [bvs_get _ _ (by omega), hbg.1] at hc2
              have ex : (((UInt8.ofNat (s % 256)).toNat : Nat) : Int) = ((s % 256 : Nat) : Int) := by simp
              have ey : (((UInt8.ofNat (s / 256 % 256)).toNat : Nat) : Int) = ((s / 256 : Nat) : Int) := by simp; omega
              rw [ey] at hc1
              rw [ex] at hc2
              obtain ⟨x, hx⟩ : ∃ x, x = s % 256 := ⟨_, rfl⟩
              obtain ⟨y, hy⟩ : ∃ y, y = s / 256 := ⟨_, rfl⟩
              rw [← hy] at hc1
              rw [← hx] at hc2
              have hfront := ho.front (m := M) (by omega)
              rw [Nat.mul_one, bvs_take, hfr] at hfront
              have h0s : s = 0 ∨ (s ≠ 0 ∧ y = 0 ∧ x ≠ 0) ∨ (s ≠ 0 ∧ y ≠ 0) := by omega
              have hM9 : M ≤ 248 := by omega
              have HM := Lib.hid hM
              have HX : Hid (s = 0 → x = 0 ∧ y = 0) := fun h => by rw [hx, hy, h]; exact ⟨rfl, rfl⟩
              have HLEN := Lib.hid hlen
              clear hs0 hgd hbg hfr ex ey hx hy hlen hM hv
              rcases h0s with h0 | ⟨h0, h1, h2⟩ | ⟨h0, h1⟩
              · obtain ⟨hx0, hy0⟩ := HX.out h0
                subst h0 hx0 hy0
                rw [htl, trimZ_zero] at htr
                have HTR := Lib.hid htr
                clear htr htl HX g5
                go_wp2_with fail
                rw [HM.out] at hfront ⊢
                exact ⟨⟨t, _, _, by omega, rfl, hfront, HTR.out⟩, by simp⟩
              · have HTT : Hid (trimZ L = L.take (t + 1)) := by show _ = _; rw [htr, htl, trimZ_snoc _ _ h0]
                have h2' : ((x : Int) == 0) = false := by rw [beq_eq_false_iff_ne]; omega
                subst h1
                clear htr htl HX g5 h0
                go_wp2_with fail
                go_ret
                rw [HQ.out, HTT.out, HLEN.out]
                exact ⟨_, rfl, ho, hb⟩
              · have HTT : Hid (trimZ L = L.take (t + 1)) := by show _ = _; rw [htr, htl, trimZ_snoc _ _ h0]
                have h1' : ((y : Int) == 0) = false := by rw [beq_eq_false_iff_ne]; omega
                clear htr htl HX g5 h0
                go_wp2_with fail
                go_ret
                rw [HQ.out, HTT.out, HLEN.out]
                exact ⟨_, rfl, ho, hb⟩
        · have hx1 : ¬ (O : Int) + (P : Int) < (O : Int) + 124 := by omega
          clear e1
          go_wp2_with fail
          go_loop [5] (fun v5 => ∃ t a c, t ≤ P ∧ v5 = .slice a (2 * t) c ∧ Own wr w.heap.size 1 (.slice a (2 * t) c) (2 * t) (bvs (bytes2 (L.take t))) ∧ trimZ L = trimZ (L.take t)) (fun v5 => match v5 with | .slice _ t _ => t | _ => 0)
          case atStart => exact ⟨P, a5, c5, Nat.le_refl _, rfl, ho, by rw [List.take_of_length_le (by rw [HL.out]; exact Nat.le_refl _)]⟩
          case round =>
            clear ho
            obtain ⟨t, a6, c6, ht, rfl, ho, htr⟩ := hrel
            cases t with
            | zero =>
              have HTT : Hid (trimZ L = L.take 0) := by show _ = _; rw [htr]; rfl
              clear htr
              rw [Nat.mul_zero] at ho
              go_wp2_with fail
              go_ret
              rw [HQ.out, HTT.out, ho.len.1]
              exact ⟨_, rfl, ho, hb⟩
            | succ t =>
              have htl := nats_snoc L t (by rw [HL.out]; omega)
              have hbg := bytes2_get (L.take (t + 1)) t (by rw [List.length_take, HL.out]; omega)
              have hgd : (L.take (t + 1)).getD t 0 = L.getD t 0 := by rw [List.getD_eq_getElem?_getD, List.getElem?_take_of_lt (by omega), ← List.getD_eq_getElem?_getD]
              rw [hgd] at hbg
              have hv := HV.out t
              have hfr : (bytes2 (L.take (t + 1))).take (2 * t) = bytes2 (L.take t) := by rw [bytes2_take, List.take_take, Nat.min_eq_left (by omega)]
              obtain ⟨s, hs0⟩ : ∃ s, s = L.getD t 0 := ⟨_, rfl⟩
              rw [← hs0] at hbg htl hv
              obtain ⟨M, hM⟩ : ∃ M, M = 2 * t := ⟨_, rfl⟩
              rw [show 2 * (t + 1) = M + 2 by omega] at ho ⊢
              rw [← hM] at hbg hfr
              obtain ⟨g, off, cap, e6, g1, g2, g3, g4, g5⟩ := ho.open (by omega) (by decide)
              cases e6
              have hlen := ho.len.1
              have hc1 := ho.get (M + 1) (by rw [bvs_length]; omega)
              have hc2 := ho.get M (by rw [bvs_length]; omega)
              rw [bvs_get _ _ (by omega), hbg.2] at hc1
              rw [bvs_get _ _ (by omega), hbg.1] at hc2
              have ex : (((UInt8.ofNat (s % 256)).toNat : Nat) : Int) = ((s % 256 : Nat) : Int) := by simp
              have ey : (((UInt8.ofNat (s / 256 % 256)).toNat : Nat) : Int) = ((s / 256 : Nat) : Int) := by simp; omega
              rw [ey] at hc1
              rw [ex] at hc2
              obtain ⟨x, hx⟩ : ∃ x, x = s % 256 := ⟨_, rfl⟩
              obtain ⟨y, hy⟩ : ∃ y, y = s / 256 := ⟨_, rfl⟩
              rw [← hy] at hc1
              rw [← hx] at hc2
              have hfront := ho.front (m := M) (by omega)
              rw [Nat.mul_one, bvs_take, hfr] at hfront
              have h0s : s = 0 ∨ (s ≠ 0 ∧ y = 0 ∧ x ≠ 0) ∨ (s ≠ 0 ∧ y ≠ 0) := by omega
              have hM9 : M ≤ 248 := by omega
              have HM := Lib.hid hM
              have HX : Hid (s = 0 → x = 0 ∧ y = 0) := fun h => by rw [hx, hy, h]; exact ⟨rfl, rfl⟩
              have HLEN := Lib.hid hlen
              clear hs0 hgd hbg hfr ex ey hx hy hlen hM hv
              rcases h0s with h0 | ⟨h0, h1, h2⟩ | ⟨h0, h1⟩
              · obtain ⟨hx0, hy0⟩ := HX.out h0
                subst h0 hx0 hy0
                rw [htl, trimZ_zero] at htr
                have HTR := Lib.hid htr
                clear htr htl HX g5
                go_wp2_with fail
                rw [HM.out] at hfront ⊢
                exact ⟨⟨t, _, _, by omega, rfl, hfront, HTR.out⟩, by simp⟩
              · have HTT : Hid (trimZ L = L.take (t + 1)) := by show _ = _; rw [htr, htl, trimZ_snoc _ _ h0]
                have h2' : ((x : Int) == 0) = false := by rw [beq_eq_false_iff_ne]; omega
                subst h1
                clear htr htl HX g5 h0
                go_wp2_with fail
                go_ret
                rw [HQ.out, HTT.out, HLEN.out]
                exact ⟨_, rfl, ho, hb⟩
              · have HTT : Hid (trimZ L = L.take (t + 1)) := by show _ = _; rw [htr, htl, trimZ_snoc _ _ h0]
                have h1' : ((y : Int) == 0) = false := by rw [beq_eq_false_iff_ne]; omega
                clear htr htl HX g5 h0
                go_wp2_with fail
                go_ret
                rw [HQ.out, HTT.out, HLEN.out]
                exact ⟨_, rfl, ho, hb⟩
      · have hlt : q < P := by omega
        have hx1 : (O : Int) + (q : Int) < (O : Int) + 124 := by omega
        have hx2 : (O : Int) + (q : Int) < 1024 := by omega
        have hc3 := secs_at (hs.below hb) hlt
        have hv := HV.out q
        have HT3 : Hid (L.take (q + 1) = L.take q ++ [L.getD q 0]) := nats_snoc L q (by rw [HL.out]; omega)
        obtain ⟨v, hv0⟩ : ∃ v, v = L.getD q 0 := ⟨_, rfl⟩
        rw [← hv0] at hc3 hv HT3
        have HC3 := Lib.hid hc3
        clear hv0 hc3
        have HN := Lib.hid hN
        have hN9 : N ≤ 248 := by omega
        clear hN
        have hm1 : (v : Int) % 256 < 256 := by omega
        have hm2 : (v : Int) / 256 < 256 := by omega
        go_wp2_with fail
        have q1 := later_cell HC3.out
        refine wp_region_lex Rb Rb_refl Rb_trans [0,0,0,0,0,0,0,0,0,0,0,0,0,0,0,0,0,1,2,2] (by kernel_rfl) (by kernel_rfl) ?_
        refine wpCan_seg 17 (by kernel_rfl) ?_
        simp only [List.zip_cons_cons, List.zip_nil_left, List.take_succ_cons, List.take_zero, List.drop_succ_cons, List.drop_zero, List.map_cons, List.map_nil]
        iterate 17 (go_big_quiet_step (fail))
        refine wpQuiet_nil ?_
        clear q1
        refine wpCan_list (k := 0) (fun K hK => ?_) (fun _ => Rb_refl _)
        go_wp2_with fail
        refine hK _ _ (fun _ => ⟨rfl, rfl, rfl, by simp, fun k hk => Below.heap_alloc wr _ k hk⟩) ?_
        clear hK K
        have hs3 := Sl.lit wr [.int .u8 ((v : Int) % 256), .int .u8 ((v : Int) / 256)] 5 2 rfl (by decide)
        rw [digs_cells v hv] at hs3
        have ho3 := ho.alloc (.cells [.int .u8 ((v : Int) % 256), .int .u8 ((v : Int) / 256)].toArray 5)
        have hb3 := hb.alloc hb.size (.cells [.int .u8 ((v : Int) % 256), .int .u8 ((v : Int) / 256)].toArray 5)
        rw [digs_cells v hv] at ho3 hb3
        have e9 : (wr.alloc (.cells #[.int .u8 ((v : Int) % 256), .int .u8 ((v : Int) / 256)] 5)) = wr.alloc (.cells (bvs (digs v 2)).toArray 5) := by rw [← digs_cells v hv]
        rw [e9]
        clear e9
        generalize wr.alloc (.cells (bvs (digs v 2)).toArray 5) = w3 at hs3 ho3 hb3 ⊢
        refine wpCan_list (k := 1) (fun K hK => ?_) (fun h => by cases h)
        go_wp2_with (at_builtin; refine wpL_append etB rfl _ _ rfl ho3.drew rfl hs3.drew rfl (bvs_one _) (by omega) (by simp [maxLen]; omega) hb3.size ?_; intro v7 w7 ho7 hg7; have hb7 := below_own hb3.drew ho3.drew hg7 (Nat.le_refl _) hb3.size; clear hg7)
        refine hK _ _ (fun h => by cases h) ?_
        clear hK K
        refine wpCan_list (k := 1) (fun K hK => ?_) (fun h => by cases h)
        go_wp2_with fail
        refine hK _ _ (fun h => by cases h) ?_
        clear hK K
        unfold wpCan
        go_wp2_with fail
        refine ⟨⟨q + 1, N + 2, by omega, by go_num, by rw [HN.out]; omega, ?_, hb7⟩, by simp [intOf]; omega⟩
        rw [HT3.out, bytes2_snoc, bvs_append]
        exact ho7
end Go.Proofs.Ytljbpflcnicaiaa
