/-
  HeapUsed walked. Conditions: what is handed in reads.
-/
import Derived.Test.YtekmgffjdheifaaHpY
namespace Go.Proofs.Ytekmgffjdheifaa
open Go Go.RowKit
set_option linter.unusedVariables false
set_option linter.unusedSimpArgs false
set_option maxRecDepth 100000

theorem allocE_is {H : List Th} {m : Nat} {o : Ob} : allocE H m o = 1 ∨ allocE H m o = 3 ∨ (allocE H m o = 6 ∧ m < usedH H + sizeO o) ∨ (allocE H m o = 0 ∧ usedH H + sizeO o ≤ m) := by
  unfold allocE
  split
  · exact .inl rfl
  split
  · exact .inr (.inl rfl)
  split
  · rename_i h; exact .inr (.inr (.inl ⟨rfl, h⟩))
  · rename_i h; exact .inr (.inr (.inr ⟨rfl, by omega⟩))
def UsR (m b : Nat) (w0 : World) (n : Nat) (v8 v9 : Value) (w : World) : Prop :=
  ∃ (i k : Nat) (H : List Th) (col : Nat → Nat), i ≤ n ∧ k ≤ i ∧ v9 = .int .i64 (i : Nat) ∧ v8 = .int .i64 (k : Nat) ∧ Hid (Pl m b w0 H (i + 1) col w ∧ H.length = k + 1)
theorem UsR.mk {m b : Nat} {w0 : World} {n : Nat} {v8 v9 : Value} {w : World} (i k : Nat) (H : List Th) (col : Nat → Nat) (h1 : i ≤ n) (h2 : k ≤ i) (h3 : v9 = .int .i64 (i : Nat)) (h4 : v8 = .int .i64 (k : Nat)) (h5 : Pl m b w0 H (i + 1) col w ∧ H.length = k + 1) : UsR m b w0 n v8 v9 w := ⟨i, k, H, col, h1, h2, h3, h4, Lib.hid h5⟩
def SmR (m b : Nat) (w0 : World) (H : List Th) (i k : Nat) (v12 v13 v14 : Value) (w : World) : Prop :=
  ∃ (j S C : Nat) (col : Nat → Nat), 1 ≤ j ∧ j ≤ k + 1 ∧ S ≤ 16777216 ∧ C ≤ j ∧ v14 = .int .i64 (j : Nat) ∧ v12 = .int .i64 (S : Nat) ∧ v13 = .int .i64 (C : Nat) ∧ Hid (Pl m b w0 H (i + 2) col w ∧ S = usedH (H.take j) ∧ C = countH (H.take j))
theorem SmR.mk {m b : Nat} {w0 : World} {H : List Th} {i k : Nat} {v12 v13 v14 : Value} {w : World} (j S C : Nat) (col : Nat → Nat) (h1 : 1 ≤ j) (h2 : j ≤ k + 1) (h3 : S ≤ 16777216) (h4 : C ≤ j) (h5 : v14 = .int .i64 (j : Nat)) (h6 : v12 = .int .i64 (S : Nat)) (h7 : v13 = .int .i64 (C : Nat)) (h8 : Pl m b w0 H (i + 2) col w ∧ S = usedH (H.take j) ∧ C = countH (H.take j)) : SmR m b w0 H i k v12 v13 v14 w := ⟨j, S, C, col, h1, h2, h3, h4, h5, h6, h7, Lib.hid h8⟩
set_option maxHeartbeats 8000000 in
theorem heapUsed_walk (m : Nat) (h1m : 1 ≤ m) (h2m : m ≤ 256) (a : Option Addr) (n c : Nat) (L : List Opn) (w : World) (h : OpsIn w a n c L) :
    Calls Try.prog 5 #[.int .u8 ((m : Int) - 1), .slice a n c] w fun e w' => e = .returned (.bool true) ∧ Below w.heap.size w w' := by
  have HN := Lib.hid h.len
  have hb9 := h.bnd
  have HI := Lib.hid h
  clear h
  go_enter Try.func5, Try.ntmps5
  go_wp2_with fail
  refine (vast_any a n c L w HI.out).mono ?_
  rintro e w1 ⟨B, rfl, HB, hb1⟩
  cases B with
  | true =>
    go_wp2_with fail
    refine (works_any w1).mono ?_
    rintro e w2 ⟨rfl, hb2⟩
    go_wp2_with fail
    go_ret
    exact ⟨rfl, hb1.trans (hb2.mono hb1.size)⟩
  | false =>
    have HF := Lib.hid (HB.out rfl)
    have hn1 : n ≤ 100 := by have := HF.out.1; rw [HN.out] at this; exact this
    clear HB
    go_upto_region 4 with fail
    rw [show (1 : Int) + ((m : Int) - 1) = (m : Nat) by omega]
    go_wp2_with fail
    refine (Pl.starts (w0 := w) ⟨h1m, by omega⟩ w1 hb1).mono ?_
    rintro e w2 ⟨b, rfl, col2, P2⟩
    clear hb1
    go_wp2_with fail
    go_loopw [8, 9] (fun v8 v9 wr => UsR m b w n v8 v9 wr) (fun _ v9 _ => n - (intOf v9).toNat)
    case atStart => exact UsR.mk 0 0 _ _ (Nat.zero_le _) (Nat.le_refl _) rfl rfl ⟨P2.out, rfl⟩
    case round =>
      clear P2
      obtain ⟨i, k, H, col, hi, hki, rfl, rfl, P⟩ := hrel
      by_cases hin : i = n
      · subst hin
        go_wp2_with fail
        refine (works_any wr).mono ?_
        rintro e w3 ⟨rfl, hb3⟩
        go_wp2_with fail
        go_ret
        exact ⟨rfl, P.out.1.below.trans (hb3.mono P.out.1.below.size)⟩
      have hlt : i < n := by omega
      have hlt' : (i : Int) < n := by omega
      obtain ⟨b1, o1, q, aO, nO, cO, aR, nR, cR, rfl, hq, hc⟩ := ops_at HI.out i hlt
      have HC := Lib.hid hc
      have HT := Lib.hid (show totO q ≤ 16384 by rw [hq]; exact HF.out.2 i (by rw [HN.out]; exact hlt))
      clear hq hc
      have OC := Lib.hid (HC.out.below P.out.1.below)
      obtain ⟨d0, d1, d2, d3, d4, d5, d6, d7, d8, d9⟩ := OC.out.all
      obtain ⟨U, hU0⟩ : ∃ U, U = usedH H := ⟨_, rfl⟩
      have HU0 := Lib.hid hU0
      have hUm : U ≤ m := by rw [hU0]; exact P.out.1.L.good.room
      clear hU0
      go_wp2_with fail
      refine (pl_used P.out.1 U HU0).mono ?_
      rintro e w3 ⟨rfl, rfl⟩
      go_wp2_with fail
      refine (pl_does P.out.1 (by omega) (by omega) OC.out HT.out).mono ?_
      rintro e w4 ⟨t, aT, nT, cT, rfl, Ht, col4, H4⟩
      have P4 := Lib.hid H4.out.1
      have HL4 : Hid ((doH m H q).length = k + 1 + if q.K = 0 ∧ (tell m H q).e = 0 then 1 else 0) := Lib.hid (by rw [do_more, P.out.2])
      have HU : Hid (q.K = 0 → (tell m H q).e = allocE H m q.o) := Lib.hid (fun h0 => by unfold tell; rw [if_pos h0])
      clear P H4 OC d0 d1 d2 d3 d4 d5 d6 d7 d8 d9
      obtain ⟨o', x', n', is', E⟩ := t
      go_upto_region 13 with (refine wpL_storeRow rfl _ _ _ rfl (cs := [.int .u8 (o'.k.toNat : Int), .int .i64 o'.t, .slice aT nT cT, .string (str o'.s), .int .u8 (x'.1.toNat : Int), .int .i64 x'.2, .int .i64 n', .bool is', .int .i64 E]) rfl rfl (Row.new _ _ _) (by kernel_rfl) rfl rfl ?_; intro w5 hg5 hr5)
      have hb5 : Below w4.heap.size w4 w5 := below_grown ((Below.refl _ _).alloc (Nat.le_refl _) _) hg5 (Nat.le_refl _) (by simp)
      have P5 := Lib.hid (P4.out.down hb5)
      have e4 : w5.cell? ⟨w4.heap.size, 8, none⟩ = some (.int .i64 E) := hr5.cell 8
      have OC := Lib.hid (HC.out.below P5.out.below)
      obtain ⟨d0, d1, d2, d3, d4, d5, d6, d7, d8, d9⟩ := OC.out.all
      clear P4 hg5 hr5 hb5
      generalize hqK : q.K = K at d0
      have HQK := Lib.hid hqK
      clear hqK
      by_cases hK : K = 0
      · subst hK
        have HA : Hid (E = allocE H m q.o) := Lib.hid (by rw [← HU.out HQK.out, ← Ht.out.1])
        obtain ⟨Z, hZ⟩ : ∃ Z, Z = sizeO q.o := ⟨_, rfl⟩
        have HZ := Lib.hid hZ
        have hEs := allocE_is (H := H) (m := m) (o := q.o)
        rw [← HA.out, ← HU0.out, ← hZ] at hEs
        clear hZ
        have HE9 : Hid (E = 0 → (doH m H q).length = k + 1 + 1) := Lib.hid (fun h0 => by rw [HL4.out, if_pos ⟨HQK.out, by rw [← Ht.out.1]; exact h0⟩])
        have HE8 : Hid (E ≠ 0 → (doH m H q).length = k + 1) := Lib.hid (fun h0 => by rw [HL4.out, if_neg (fun h => h0 (by rw [← Ht.out.1] at h; exact h.2))])
        have hsmT := HT.out
        have hn16 : nO ≤ 16384 := by obtain ⟨cs2, hob⟩ := OC.out.oq.ob; have := hob.len; unfold totO at hsmT; omega
        have hs16 : q.o.s.length ≤ 16384 := by unfold totO at hsmT; omega
        have HS9 := Lib.hid hs16
        have HL9 : Hid (q.o.l.length = nO) := Lib.hid (by obtain ⟨cs2, hob⟩ := OC.out.oq.ob; exact hob.len)
        clear hsmT hs16
        rcases hEs with rfl | rfl | ⟨rfl, hle⟩ | ⟨rfl, hle⟩
        · have hE0 := Lib.hid (HE8.out (by decide))
          go_upto_region 15 with fail
          have q0 := later_cell d0
          have q8 := later_cell e4
          have HW5 := Lib.hid (Nat.le_refl w5.heap.size)
          clear d0 d1 d2 d3 d4 d5 d6 d7 d8 d9 e4
          try go_frame
          refine wp_region_idx Rb Rb_refl Rb_trans [(0,0),(0,1),(0,2),(0,3),(0,4),(0,5),(0,6),(0,7),(0,8),(0,9),(0,10),(0,11),(0,12),(0,13),(0,14),(0,15),(0,16),(0,17),(0,18),(0,19),(0,20),(0,21),(0,22),(0,23),(0,24),(0,25),(0,28),(1,26),(0,27),(0,29),(0,30),(0,31)] (by kernel_rfl) (by kernel_rfl) (by kernel_rfl) ?_
          simp only [pickO, List.getD_cons_succ, List.getD_cons_zero]
          refine wpCan_seg 27 (by kernel_rfl) ?_
          simp only [List.take_succ_cons, List.take_zero, List.drop_succ_cons, List.drop_zero, List.map_cons, List.map_nil]
          iterate 27 (go_big_quiet_step (fail))
          refine wpQuiet_nil ?_
          clear q0 q8
          refine wpCan_list (k := 0) (fun KK hK => ?_) (fun _ => Rb_refl _)
          go_wp2_with fail
          refine hK _ _ (fun _ => Rb_refl _) ?_
          clear hK KK
          refine wpCan_seg 4 (by kernel_rfl) ?_
          simp only [List.take_succ_cons, List.take_zero, List.drop_succ_cons, List.drop_zero, List.map_cons, List.map_nil]
          iterate 4 (go_big_quiet_step (fail))
          refine wpQuiet_nil ?_
          unfold wpCan
          obtain ⟨w6, hw6⟩ : ∃ x, x = w5.drew := ⟨_, rfl⟩
          rw [← hw6]
          have P6 : Hid (Pl m b w (doH m H q) (i + 2) col4 w6) := Lib.hid (by rw [hw6]; exact P5.out.down (Below.refl _ _).drew)
          have HE := hE0
          clear hw6 P5 hE0 OC
          have hnm : Hid ((doH m H q).length ≤ 200) := Lib.hid (by rw [HE.out]; omega)
          generalize doH m H q = H' at P6 HE hnm
          go_wp2_with fail
          go_loopw [12, 13, 14] (fun v12 v13 v14 wr => SmR m b w H' i k v12 v13 v14 wr) (fun _ _ v14 _ => k + 1 - (intOf v14).toNat)
          case atStart => exact SmR.mk 1 0 0 _ (Nat.le_refl _) (by omega) (by decide) (by decide) rfl rfl rfl ⟨P6.out, (used_take1 P6.out.L.good).1.symm, (used_take1 P6.out.L.good).2.symm⟩
          case round =>
            clear P6
            obtain ⟨j, S, C, col6, hj1, hjk, hS, hCj, rfl, rfl, rfl, P⟩ := hrel
            by_cases hjn : j = k + 1
            · subst hjn
              have hnj : ¬ (((k + 1 : Nat) : Int)) ≤ ((k : Nat) : Int) := by omega
              have hSu : Hid (S = usedH H') := Lib.hid (by rw [P.out.2.1, List.take_of_length_le (by rw [HE.out]; exact Nat.le_refl _)])
              have hCu : Hid (C = countH H') := Lib.hid (by rw [P.out.2.2, List.take_of_length_le (by rw [HE.out]; exact Nat.le_refl _)])
              have hSm : ¬ (m : Int) < (S : Int) := by have := P.out.1.L.good.room; rw [← hSu.out] at this; omega
              have HE9 := HE
              clear HE hnm
              go_wp2_with fail
              refine (pl_used P.out.1 S hSu).mono ?_
              rintro e w7 ⟨rfl, rfl⟩
              go_wp2_with fail
              refine (pl_count P.out.1 C hCu).mono ?_
              rintro e w8 ⟨rfl, rfl⟩
              go_wp2_with fail
              exact ⟨UsR.mk (i + 1) k H' col6 hlt (by omega) (by go_num) (by first | rfl | (rw [hk']; go_num)) ⟨P.out.1, HE9.out⟩, by simp [intOf]; omega⟩
            have hjk' : (j : Int) ≤ ((k : Nat) : Int) := by omega
            have HST : Hid (usedH (H'.take (j + 1)) = S + sz (thAt H' j) ∧ usedH (H'.take (j + 1)) ≤ 16777216) := Lib.hid ⟨by rw [used_take (by rw [HE.out]; omega), P.out.2.1], Nat.le_trans (used_few _) (Nat.le_trans P.out.1.L.good.room (by omega))⟩
            have HCT : Hid (countH (H'.take (j + 1)) = C + if (thAt H' j).is then 1 else 0) := Lib.hid (by rw [count_take (by rw [HE.out]; omega), P.out.2.2])
            go_wp2_with fail
            refine (pl_get P.out.1 (by omega) j (wf64 (by omega) (by omega))).mono ?_
            rintro e w7 ⟨o7, is7, a7, n7, c7, rfl, H7, P7, hb7⟩
            go_upto_region 23 with (refine wpL_storeRow rfl _ _ _ rfl (cs := [.int .u8 (o7.k.toNat : Int), .int .i64 o7.t, .slice a7 n7 c7, .string (str o7.s)]) rfl rfl (Row.new _ _ _) (by kernel_rfl) rfl rfl ?_; intro w8 hg8 hr8)
            have hb8 : Below w7.heap.size w7 w8 := below_grown ((Below.refl _ _).alloc (Nat.le_refl _) _) hg8 (Nat.le_refl _) (by simp)
            have P8 := Lib.hid (P7.out.down hb8)
            have g0 : w8.cell? ⟨w7.heap.size, 0, none⟩ = some (.int .u8 (o7.k.toNat : Int)) := hr8.cell 0
            have g1 : w8.cell? ⟨w7.heap.size, 1, none⟩ = some (.int .i64 o7.t) := hr8.cell 1
            have g2 : w8.cell? ⟨w7.heap.size, 2, none⟩ = some (.slice a7 n7 c7) := hr8.cell 2
            have g3 : w8.cell? ⟨w7.heap.size, 3, none⟩ = some (.string (str o7.s)) := hr8.cell 3
            have HSM : Hid (o7.l.length ≤ 16777216 ∧ o7.s.length ≤ 134217728) := Lib.hid (by rw [H7.out.1]; exact P.out.1.L.good.small (by omega) j)
            clear hg8 hr8 hb7 hb8 P7
            cases is7 with
            | false =>
              go_wp2_with fail
              exact ⟨SmR.mk (j + 1) S C _ (by omega) (by omega) hS (by omega) (by go_num) rfl rfl ⟨P8.out, by rw [HST.out.1, sz, ← H7.out.2.1]; rfl, by rw [HCT.out, ← H7.out.2.1]; rfl⟩, by simp [intOf]; omega⟩
            | true =>
              obtain ⟨Z, hZ⟩ : ∃ Z, Z = sizeO o7 := ⟨_, rfl⟩
              have HZ := Lib.hid hZ
              have HSZ : Hid (usedH (H'.take (j + 1)) = S + Z) := Lib.hid (by rw [HST.out.1, sz, ← H7.out.2.1, if_pos rfl, ← H7.out.1, hZ])
              have hSZ9 : S + Z ≤ 16777216 := by rw [← HSZ.out]; exact HST.out.2
              clear hZ
              go_wp2_with fail
              refine (size_any o7 a7 n7 c7 _ w8 H7.out.2.2.1 rfl (by have := HSM.out.1; have := H7.out.2.2.1; omega) (by have := HSM.out.2; omega) Z HZ).mono ?_
              rintro e w9 ⟨rfl, hb9'⟩
              have P9 := Lib.hid (P8.out.down hb9')
              clear P8 hb9' g0 g1 g2 g3
              go_wp2_with fail
              exact ⟨SmR.mk (j + 1) (S + Z) (C + 1) _ (by omega) (by omega) hSZ9 (by omega) (by go_num) (by go_num) (by go_num) ⟨P9.out, HSZ.out.symm, by rw [HCT.out, ← H7.out.2.1]; rfl⟩, by simp [intOf]; omega⟩
        · have hE0 := Lib.hid (HE8.out (by decide))
          go_upto_region 15 with fail
          have q0 := later_cell d0
          have q8 := later_cell e4
          have HW5 := Lib.hid (Nat.le_refl w5.heap.size)
          clear d0 d1 d2 d3 d4 d5 d6 d7 d8 d9 e4
          try go_frame
          refine wp_region_idx Rb Rb_refl Rb_trans [(0,0),(0,1),(0,2),(0,3),(0,4),(0,5),(0,6),(0,7),(0,8),(0,9),(0,10),(0,11),(0,12),(0,13),(0,14),(0,15),(0,16),(0,17),(0,18),(0,19),(0,20),(0,21),(0,22),(0,23),(0,24),(0,25),(0,28),(1,26),(0,27),(0,29),(0,30),(0,31)] (by kernel_rfl) (by kernel_rfl) (by kernel_rfl) ?_
          simp only [pickO, List.getD_cons_succ, List.getD_cons_zero]
          refine wpCan_seg 27 (by kernel_rfl) ?_
          simp only [List.take_succ_cons, List.take_zero, List.drop_succ_cons, List.drop_zero, List.map_cons, List.map_nil]
          iterate 27 (go_big_quiet_step (fail))
          refine wpQuiet_nil ?_
          clear q0 q8
          refine wpCan_list (k := 0) (fun KK hK => ?_) (fun _ => Rb_refl _)
          go_wp2_with fail
          refine hK _ _ (fun _ => Rb_refl _) ?_
          clear hK KK
          refine wpCan_seg 4 (by kernel_rfl) ?_
          simp only [List.take_succ_cons, List.take_zero, List.drop_succ_cons, List.drop_zero, List.map_cons, List.map_nil]
          iterate 4 (go_big_quiet_step (fail))
          refine wpQuiet_nil ?_
          unfold wpCan
          obtain ⟨w6, hw6⟩ : ∃ x, x = w5.drew := ⟨_, rfl⟩
          rw [← hw6]
          have P6 : Hid (Pl m b w (doH m H q) (i + 2) col4 w6) := Lib.hid (by rw [hw6]; exact P5.out.down (Below.refl _ _).drew)
          have HE := hE0
          clear hw6 P5 hE0 OC
          have hnm : Hid ((doH m H q).length ≤ 200) := Lib.hid (by rw [HE.out]; omega)
          generalize doH m H q = H' at P6 HE hnm
          go_wp2_with fail
          go_loopw [12, 13, 14] (fun v12 v13 v14 wr => SmR m b w H' i k v12 v13 v14 wr) (fun _ _ v14 _ => k + 1 - (intOf v14).toNat)
          case atStart => exact SmR.mk 1 0 0 _ (Nat.le_refl _) (by omega) (by decide) (by decide) rfl rfl rfl ⟨P6.out, (used_take1 P6.out.L.good).1.symm, (used_take1 P6.out.L.good).2.symm⟩
          case round =>
            clear P6
            obtain ⟨j, S, C, col6, hj1, hjk, hS, hCj, rfl, rfl, rfl, P⟩ := hrel
            by_cases hjn : j = k + 1
            · subst hjn
              have hnj : ¬ (((k + 1 : Nat) : Int)) ≤ ((k : Nat) : Int) := by omega
              have hSu : Hid (S = usedH H') := Lib.hid (by rw [P.out.2.1, List.take_of_length_le (by rw [HE.out]; exact Nat.le_refl _)])
              have hCu : Hid (C = countH H') := Lib.hid (by rw [P.out.2.2, List.take_of_length_le (by rw [HE.out]; exact Nat.le_refl _)])
              have hSm : ¬ (m : Int) < (S : Int) := by have := P.out.1.L.good.room; rw [← hSu.out] at this; omega
              have HE9 := HE
              clear HE hnm
              go_wp2_with fail
              refine (pl_used P.out.1 S hSu).mono ?_
              rintro e w7 ⟨rfl, rfl⟩
              go_wp2_with fail
              refine (pl_count P.out.1 C hCu).mono ?_
              rintro e w8 ⟨rfl, rfl⟩
              go_wp2_with fail
              exact ⟨UsR.mk (i + 1) k H' col6 hlt (by omega) (by go_num) (by first | rfl | (rw [hk']; go_num)) ⟨P.out.1, HE9.out⟩, by simp [intOf]; omega⟩
            have hjk' : (j : Int) ≤ ((k : Nat) : Int) := by omega
            have HST : Hid (usedH (H'.take (j + 1)) = S + sz (thAt H' j) ∧ usedH (H'.take (j + 1)) ≤ 16777216) := Lib.hid ⟨by rw [used_take (by rw [HE.out]; omega), P.out.2.1], Nat.le_trans (used_few _) (Nat.le_trans P.out.1.L.good.room (by omega))⟩
            have HCT : Hid (countH (H'.take (j + 1)) = C + if (thAt H' j).is then 1 else 0) := Lib.hid (by rw [count_take (by rw [HE.out]; omega), P.out.2.2])
            go_wp2_with fail
            refine (pl_get P.out.1 (by omega) j (wf64 (by omega) (by omega))).mono ?_
            rintro e w7 ⟨o7, is7, a7, n7, c7, rfl, H7, P7, hb7⟩
            go_upto_region 23 with (refine wpL_storeRow rfl _ _ _ rfl (cs := [.int .u8 (o7.k.toNat : Int), .int .i64 o7.t, .slice a7 n7 c7, .string (str o7.s)]) rfl rfl (Row.new _ _ _) (by kernel_rfl) rfl rfl ?_; intro w8 hg8 hr8)
            have hb8 : Below w7.heap.size w7 w8 := below_grown ((Below.refl _ _).alloc (Nat.le_refl _) _) hg8 (Nat.le_refl _) (by simp)
            have P8 := Lib.hid (P7.out.down hb8)
            have g0 : w8.cell? ⟨w7.heap.size, 0, none⟩ = some (.int .u8 (o7.k.toNat : Int)) := hr8.cell 0
            have g1 : w8.cell? ⟨w7.heap.size, 1, none⟩ = some (.int .i64 o7.t) := hr8.cell 1
            have g2 : w8.cell? ⟨w7.heap.size, 2, none⟩ = some (.slice a7 n7 c7) := hr8.cell 2
            have g3 : w8.cell? ⟨w7.heap.size, 3, none⟩ = some (.string (str o7.s)) := hr8.cell 3
            have HSM : Hid (o7.l.length ≤ 16777216 ∧ o7.s.length ≤ 134217728) := Lib.hid (by rw [H7.out.1]; exact P.out.1.L.good.small (by omega) j)
            clear hg8 hr8 hb7 hb8 P7
            cases is7 with
            | false =>
              go_wp2_with fail
              exact ⟨SmR.mk (j + 1) S C _ (by omega) (by omega) hS (by omega) (by go_num) rfl rfl ⟨P8.out, by rw [HST.out.1, sz, ← H7.out.2.1]; rfl, by rw [HCT.out, ← H7.out.2.1]; rfl⟩, by simp [intOf]; omega⟩
            | true =>
              obtain ⟨Z, hZ⟩ : ∃ Z, Z = sizeO o7 := ⟨_, rfl⟩
              have HZ := Lib.hid hZ
              have HSZ : Hid (usedH (H'.take (j + 1)) = S + Z) := Lib.hid (by rw [HST.out.1, sz, ← H7.out.2.1, if_pos rfl, ← H7.out.1, hZ])
              have hSZ9 : S + Z ≤ 16777216 := by rw [← HSZ.out]; exact HST.out.2
              clear hZ
              go_wp2_with fail
              refine (size_any o7 a7 n7 c7 _ w8 H7.out.2.2.1 rfl (by have := HSM.out.1; have := H7.out.2.2.1; omega) (by have := HSM.out.2; omega) Z HZ).mono ?_
              rintro e w9 ⟨rfl, hb9'⟩
              have P9 := Lib.hid (P8.out.down hb9')
              clear P8 hb9' g0 g1 g2 g3
              go_wp2_with fail
              exact ⟨SmR.mk (j + 1) (S + Z) (C + 1) _ (by omega) (by omega) hSZ9 (by omega) (by go_num) (by go_num) (by go_num) ⟨P9.out, HSZ.out.symm, by rw [HCT.out, ← H7.out.2.1]; rfl⟩, by simp [intOf]; omega⟩
        · have hE0 := Lib.hid (HE8.out (by decide))
          have hle' : ¬ (U : Int) + (Z : Int) ≤ (m : Int) := by omega
          have hZ9 : Z ≤ 100000 := by rw [HZ.out]; have := HS9.out; have := HL9.out; unfold sizeO; split <;> omega
          go_upto_region 15 with fail
          have q0 := later_cell d0
          have q3 := later_cell d3
          have q4 := later_cell d4
          have q5 := later_cell d5
          have q6 := later_cell d6
          have q8 := later_cell e4
          have HW5 := Lib.hid (Nat.le_refl w5.heap.size)
          clear d0 d1 d2 d3 d4 d5 d6 d7 d8 d9 e4
          try go_frame
          refine wp_region_idx Rb Rb_refl Rb_trans [(0,0),(0,1),(0,2),(0,3),(0,4),(0,5),(0,6),(0,7),(0,8),(0,9),(0,10),(0,11),(0,12),(0,13),(0,14),(0,15),(0,16),(0,17),(0,18),(0,19),(0,20),(0,21),(0,22),(0,23),(0,24),(0,25),(0,28),(1,26),(0,27),(0,29),(0,30),(0,31)] (by kernel_rfl) (by kernel_rfl) (by kernel_rfl) ?_
          simp only [pickO, List.getD_cons_succ, List.getD_cons_zero]
          refine wpCan_seg 27 (by kernel_rfl) ?_
          simp only [List.take_succ_cons, List.take_zero, List.drop_succ_cons, List.drop_zero, List.map_cons, List.map_nil]
          iterate 27 (go_big_quiet_step (fail))
          refine wpQuiet_nil ?_
          clear q0 q3 q4 q5 q6 q8
          refine wpCan_list (k := 0) (fun KK hK => ?_) (fun _ => Rb_refl _)
          go_wp2_with fail
          refine (size_any q.o aO nO cO _ w5.drew HL9.out rfl (by omega) (by have := HS9.out; omega) Z HZ).mono ?_
          rintro e w50 ⟨rfl, hb50⟩
          go_wp2_with fail
          refine hK _ _ (fun _ => hb50) ?_
          clear hK KK
          refine wpCan_seg 4 (by kernel_rfl) ?_
          simp only [List.take_succ_cons, List.take_zero, List.drop_succ_cons, List.drop_zero, List.map_cons, List.map_nil]
          iterate 4 (go_big_quiet_step (fail))
          refine wpQuiet_nil ?_
          unfold wpCan
          obtain ⟨w6, hw6⟩ : ∃ x, x = w50 := ⟨_, rfl⟩
          rw [← hw6]
          have P6 : Hid (Pl m b w (doH m H q) (i + 2) col4 w6) := Lib.hid (by rw [hw6]; exact P5.out.down ((Below.refl _ _).drew.trans hb50))
          have HE := hE0
          clear hw6 P5 hE0 OC hb50
          have hnm : Hid ((doH m H q).length ≤ 200) := Lib.hid (by rw [HE.out]; omega)
          generalize doH m H q = H' at P6 HE hnm
          go_wp2_with fail
          go_loopw [12, 13, 14] (fun v12 v13 v14 wr => SmR m b w H' i k v12 v13 v14 wr) (fun _ _ v14 _ => k + 1 - (intOf v14).toNat)
          case atStart => exact SmR.mk 1 0 0 _ (Nat.le_refl _) (by omega) (by decide) (by decide) rfl rfl rfl ⟨P6.out, (used_take1 P6.out.L.good).1.symm, (used_take1 P6.out.L.good).2.symm⟩
          case round =>
            clear P6
            obtain ⟨j, S, C, col6, hj1, hjk, hS, hCj, rfl, rfl, rfl, P⟩ := hrel
            by_cases hjn : j = k + 1
            · subst hjn
              have hnj : ¬ (((k + 1 : Nat) : Int)) ≤ ((k : Nat) : Int) := by omega
              have hSu : Hid (S = usedH H') := Lib.hid (by rw [P.out.2.1, List.take_of_length_le (by rw [HE.out]; exact Nat.le_refl _)])
              have hCu : Hid (C = countH H') := Lib.hid (by rw [P.out.2.2, List.take_of_length_le (by rw [HE.out]; exact Nat.le_refl _)])
              have hSm : ¬ (m : Int) < (S : Int) := by have := P.out.1.L.good.room; rw [← hSu.out] at this; omega
              have HE9 := HE
              clear HE hnm
              go_wp2_with fail
              refine (pl_used P.out.1 S hSu).mono ?_
              rintro e w7 ⟨rfl, rfl⟩
              go_wp2_with fail
              refine (pl_count P.out.1 C hCu).mono ?_
              rintro e w8 ⟨rfl, rfl⟩
              go_wp2_with fail
              exact ⟨UsR.mk (i + 1) k H' col6 hlt (by omega) (by go_num) (by first | rfl | (rw [hk']; go_num)) ⟨P.out.1, HE9.out⟩, by simp [intOf]; omega⟩
            have hjk' : (j : Int) ≤ ((k : Nat) : Int) := by omega
            have HST : Hid (usedH (H'.take (j + 1)) = S + sz (thAt H' j) ∧ usedH (H'.take (j + 1)) ≤ 16777216) := Lib.hid ⟨by rw [used_take (by rw [HE.out]; omega), P.out.2.1], Nat.le_trans (used_few _) (Nat.le_trans P.out.1.L.good.room (by omega))⟩
            have HCT : Hid (countH (H'.take (j + 1)) = C + if (thAt H' j).is then 1 else 0) := Lib.hid (by rw [count_take (by rw [HE.out]; omega), P.out.2.2])
            go_wp2_with fail
            refine (pl_get P.out.1 (by omega) j (wf64 (by omega) (by omega))).mono ?_
            rintro e w7 ⟨o7, is7, a7, n7, c7, rfl, H7, P7, hb7⟩
            go_upto_region 23 with (refine wpL_storeRow rfl _ _ _ rfl (cs := [.int .u8 (o7.k.toNat : Int), .int .i64 o7.t, .slice a7 n7 c7, .string (str o7.s)]) rfl rfl (Row.new _ _ _) (by kernel_rfl) rfl rfl ?_; intro w8 hg8 hr8)
            have hb8 : Below w7.heap.size w7 w8 := below_grown ((Below.refl _ _).alloc (Nat.le_refl _) _) hg8 (Nat.le_refl _) (by simp)
            have P8 := Lib.hid (P7.out.down hb8)
            have g0 : w8.cell? ⟨w7.heap.size, 0, none⟩ = some (.int .u8 (o7.k.toNat : Int)) := hr8.cell 0
            have g1 : w8.cell? ⟨w7.heap.size, 1, none⟩ = some (.int .i64 o7.t) := hr8.cell 1
            have g2 : w8.cell? ⟨w7.heap.size, 2, none⟩ = some (.slice a7 n7 c7) := hr8.cell 2
            have g3 : w8.cell? ⟨w7.heap.size, 3, none⟩ = some (.string (str o7.s)) := hr8.cell 3
            have HSM : Hid (o7.l.length ≤ 16777216 ∧ o7.s.length ≤ 134217728) := Lib.hid (by rw [H7.out.1]; exact P.out.1.L.good.small (by omega) j)
            clear hg8 hr8 hb7 hb8 P7
            cases is7 with
            | false =>
              go_wp2_with fail
              exact ⟨SmR.mk (j + 1) S C _ (by omega) (by omega) hS (by omega) (by go_num) rfl rfl ⟨P8.out, by rw [HST.out.1, sz, ← H7.out.2.1]; rfl, by rw [HCT.out, ← H7.out.2.1]; rfl⟩, by simp [intOf]; omega⟩
            | true =>
              obtain ⟨Z, hZ⟩ : ∃ Z, Z = sizeO o7 := ⟨_, rfl⟩
              have HZ := Lib.hid hZ
              have HSZ : Hid (usedH (H'.take (j + 1)) = S + Z) := Lib.hid (by rw [HST.out.1, sz, ← H7.out.2.1, if_pos rfl, ← H7.out.1, hZ])
              have hSZ9 : S + Z ≤ 16777216 := by rw [← HSZ.out]; exact HST.out.2
              clear hZ
              go_wp2_with fail
              refine (size_any o7 a7 n7 c7 _ w8 H7.out.2.2.1 rfl (by have := HSM.out.1; have := H7.out.2.2.1; omega) (by have := HSM.out.2; omega) Z HZ).mono ?_
              rintro e w9 ⟨rfl, hb9'⟩
              have P9 := Lib.hid (P8.out.down hb9')
              clear P8 hb9' g0 g1 g2 g3
              go_wp2_with fail
              exact ⟨SmR.mk (j + 1) (S + Z) (C + 1) _ (by omega) (by omega) hSZ9 (by omega) (by go_num) (by go_num) (by go_num) ⟨P9.out, HSZ.out.symm, by rw [HCT.out, ← H7.out.2.1]; rfl⟩, by simp [intOf]; omega⟩
        · have hE0 := Lib.hid (HE9.out rfl)
          have hle' : (U : Int) + (Z : Int) ≤ (m : Int) := by omega
          obtain ⟨k', hk'⟩ : ∃ k', k' = k + 1 := ⟨_, rfl⟩
          have hE0 : Hid ((doH m H q).length = k' + 1) := Lib.hid (by rw [hk']; exact hE0.out)
          go_upto_region 15 with fail
          have q0 := later_cell d0
          have q3 := later_cell d3
          have q4 := later_cell d4
          have q5 := later_cell d5
          have q6 := later_cell d6
          have q8 := later_cell e4
          have HW5 := Lib.hid (Nat.le_refl w5.heap.size)
          clear d0 d1 d2 d3 d4 d5 d6 d7 d8 d9 e4
          try go_frame
          refine wp_region_idx Rb Rb_refl Rb_trans [(0,0),(0,1),(0,2),(0,3),(0,4),(0,5),(0,6),(0,7),(0,8),(0,9),(0,10),(0,11),(0,12),(0,13),(0,14),(0,15),(0,16),(0,17),(0,18),(0,19),(0,20),(0,21),(0,22),(0,23),(0,24),(0,25),(0,28),(1,26),(0,27),(0,29),(0,30),(0,31)] (by kernel_rfl) (by kernel_rfl) (by kernel_rfl) ?_
          simp only [pickO, List.getD_cons_succ, List.getD_cons_zero]
          refine wpCan_seg 27 (by kernel_rfl) ?_
          simp only [List.take_succ_cons, List.take_zero, List.drop_succ_cons, List.drop_zero, List.map_cons, List.map_nil]
          iterate 27 (go_big_quiet_step (fail))
          refine wpQuiet_nil ?_
          clear q0 q3 q4 q5 q6 q8
          refine wpCan_list (k := 0) (fun KK hK => ?_) (fun _ => Rb_refl _)
          go_wp2_with fail
          refine (size_any q.o aO nO cO _ w5.drew HL9.out rfl (by omega) (by have := HS9.out; omega) Z HZ).mono ?_
          rintro e w50 ⟨rfl, hb50⟩
          go_wp2_with fail
          refine hK _ _ (fun _ => hb50) ?_
          clear hK KK
          refine wpCan_seg 4 (by kernel_rfl) ?_
          simp only [List.take_succ_cons, List.take_zero, List.drop_succ_cons, List.drop_zero, List.map_cons, List.map_nil]
          iterate 4 (go_big_quiet_step (fail))
          refine wpQuiet_nil ?_
          unfold wpCan
          obtain ⟨w6, hw6⟩ : ∃ x, x = w50 := ⟨_, rfl⟩
          rw [← hw6]
          have P6 : Hid (Pl m b w (doH m H q) (i + 2) col4 w6) := Lib.hid (by rw [hw6]; exact P5.out.down ((Below.refl _ _).drew.trans hb50))
          have HE := hE0
          clear hw6 P5 hE0 OC hb50
          have hnm : Hid ((doH m H q).length ≤ 200) := Lib.hid (by rw [HE.out]; omega)
          generalize doH m H q = H' at P6 HE hnm
          go_wp2_with fail
          go_loopw [12, 13, 14] (fun v12 v13 v14 wr => SmR m b w H' i k' v12 v13 v14 wr) (fun _ _ v14 _ => k' + 1 - (intOf v14).toNat)
          case atStart => exact SmR.mk 1 0 0 _ (Nat.le_refl _) (by omega) (by decide) (by decide) rfl rfl rfl ⟨P6.out, (used_take1 P6.out.L.good).1.symm, (used_take1 P6.out.L.good).2.symm⟩
          case round =>
            clear P6
            obtain ⟨j, S, C, col6, hj1, hjk, hS, hCj, rfl, rfl, rfl, P⟩ := hrel
            by_cases hjn : j = k' + 1
            · subst hjn
              have hnj : ¬ (((k' + 1 : Nat) : Int)) ≤ ((k' : Nat) : Int) := by omega
              have hSu : Hid (S = usedH H') := Lib.hid (by rw [P.out.2.1, List.take_of_length_le (by rw [HE.out]; exact Nat.le_refl _)])
              have hCu : Hid (C = countH H') := Lib.hid (by rw [P.out.2.2, List.take_of_length_le (by rw [HE.out]; exact Nat.le_refl _)])
              have hSm : ¬ (m : Int) < (S : Int) := by have := P.out.1.L.good.room; rw [← hSu.out] at this; omega
              have HE9 := HE
              clear HE hnm
              go_wp2_with fail
              refine (pl_used P.out.1 S hSu).mono ?_
              rintro e w7 ⟨rfl, rfl⟩
              go_wp2_with fail
              refine (pl_count P.out.1 C hCu).mono ?_
              rintro e w8 ⟨rfl, rfl⟩
              go_wp2_with fail
              exact ⟨UsR.mk (i + 1) k' H' col6 hlt (by omega) (by go_num) (by first | rfl | (rw [hk']; go_num)) ⟨P.out.1, HE9.out⟩, by simp [intOf]; omega⟩
            have hjk' : (j : Int) ≤ ((k' : Nat) : Int) := by omega
            have HST : Hid (usedH (H'.take (j + 1)) = S + sz (thAt H' j) ∧ usedH (H'.take (j + 1)) ≤ 16777216) := Lib.hid ⟨by rw [used_take (by rw [HE.out]; omega), P.out.2.1], Nat.le_trans (used_few _) (Nat.le_trans P.out.1.L.good.room (by omega))⟩
            have HCT : Hid (countH (H'.take (j + 1)) = C + if (thAt H' j).is then 1 else 0) := Lib.hid (by rw [count_take (by rw [HE.out]; omega), P.out.2.2])
            go_wp2_with fail
            refine (pl_get P.out.1 (by omega) j (wf64 (by omega) (by omega))).mono ?_
            rintro e w7 ⟨o7, is7, a7, n7, c7, rfl, H7, P7, hb7⟩
            go_upto_region 23 with (refine wpL_storeRow rfl _ _ _ rfl (cs := [.int .u8 (o7.k.toNat : Int), .int .i64 o7.t, .slice a7 n7 c7, .string (str o7.s)]) rfl rfl (Row.new _ _ _) (by kernel_rfl) rfl rfl ?_; intro w8 hg8 hr8)
            have hb8 : Below w7.heap.size w7 w8 := below_grown ((Below.refl _ _).alloc (Nat.le_refl _) _) hg8 (Nat.le_refl _) (by simp)
            have P8 := Lib.hid (P7.out.down hb8)
            have g0 : w8.cell? ⟨w7.heap.size, 0, none⟩ = some (.int .u8 (o7.k.toNat : Int)) := hr8.cell 0
            have g1 : w8.cell? ⟨w7.heap.size, 1, none⟩ = some (.int .i64 o7.t) := hr8.cell 1
            have g2 : w8.cell? ⟨w7.heap.size, 2, none⟩ = some (.slice a7 n7 c7) := hr8.cell 2
            have g3 : w8.cell? ⟨w7.heap.size, 3, none⟩ = some (.string (str o7.s)) := hr8.cell 3
            have HSM : Hid (o7.l.length ≤ 16777216 ∧ o7.s.length ≤ 134217728) := Lib.hid (by rw [H7.out.1]; exact P.out.1.L.good.small (by omega) j)
            clear hg8 hr8 hb7 hb8 P7
            cases is7 with
            | false =>
              go_wp2_with fail
              exact ⟨SmR.mk (j + 1) S C _ (by omega) (by omega) hS (by omega) (by go_num) rfl rfl ⟨P8.out, by rw [HST.out.1, sz, ← H7.out.2.1]; rfl, by rw [HCT.out, ← H7.out.2.1]; rfl⟩, by simp [intOf]; omega⟩
            | true =>
              obtain ⟨Z, hZ⟩ : ∃ Z, Z = sizeO o7 := ⟨_, rfl⟩
              have HZ := Lib.hid hZ
              have HSZ : Hid (usedH (H'.take (j + 1)) = S + Z) := Lib.hid (by rw [HST.out.1, sz, ← H7.out.2.1, if_pos rfl, ← H7.out.1, hZ])
              have hSZ9 : S + Z ≤ 16777216 := by rw [← HSZ.out]; exact HST.out.2
              clear hZ
              go_wp2_with fail
              refine (size_any o7 a7 n7 c7 _ w8 H7.out.2.2.1 rfl (by have := HSM.out.1; have := H7.out.2.2.1; omega) (by have := HSM.out.2; omega) Z HZ).mono ?_
              rintro e w9 ⟨rfl, hb9'⟩
              have P9 := Lib.hid (P8.out.down hb9')
              clear P8 hb9' g0 g1 g2 g3
              go_wp2_with fail
              exact ⟨SmR.mk (j + 1) (S + Z) (C + 1) _ (by omega) (by omega) hSZ9 (by omega) (by go_num) (by go_num) (by go_num) ⟨P9.out, HSZ.out.symm, by rw [HCT.out, ← H7.out.2.1]; rfl⟩, by simp [intOf]; omega⟩
      · have hK1 : (K == 0) = false := by simpa using hK
        have hE0 : Hid ((doH m H q).length = k + 1) := Lib.hid (by rw [HL4.out, if_neg (fun h => hK (by rw [← HQK.out]; exact h.1))])
        go_upto_region 15 with fail
        have q0 := later_cell d0
        have q8 := later_cell e4
        have HW5 := Lib.hid (Nat.le_refl w5.heap.size)
        clear d0 d1 d2 d3 d4 d5 d6 d7 d8 d9 e4
        try go_frame
        refine wp_region_idx Rb Rb_refl Rb_trans [(0,0),(0,1),(0,2),(0,3),(0,4),(0,5),(0,6),(0,7),(0,8),(0,9),(0,10),(0,11),(0,12),(0,13),(0,14),(0,15),(0,16),(0,17),(0,18),(0,19),(0,20),(0,21),(0,22),(0,23),(0,24),(0,25),(0,28),(1,26),(0,27),(0,29),(0,30),(0,31)] (by kernel_rfl) (by kernel_rfl) (by kernel_rfl) ?_
        simp only [pickO, List.getD_cons_succ, List.getD_cons_zero]
        refine wpCan_seg 27 (by kernel_rfl) ?_
        simp only [List.take_succ_cons, List.take_zero, List.drop_succ_cons, List.drop_zero, List.map_cons, List.map_nil]
        iterate 27 (go_big_quiet_step (fail))
        refine wpQuiet_nil ?_
        clear q0 q8
        refine wpCan_list (k := 0) (fun KK hK => ?_) (fun _ => Rb_refl _)
        go_wp2_with fail
        refine hK _ _ (fun _ => Rb_refl _) ?_
        clear hK KK
        refine wpCan_seg 4 (by kernel_rfl) ?_
        simp only [List.take_succ_cons, List.take_zero, List.drop_succ_cons, List.drop_zero, List.map_cons, List.map_nil]
        iterate 4 (go_big_quiet_step (fail))
        refine wpQuiet_nil ?_
        unfold wpCan
        obtain ⟨w6, hw6⟩ : ∃ x, x = w5.drew := ⟨_, rfl⟩
        rw [← hw6]
        have P6 : Hid (Pl m b w (doH m H q) (i + 2) col4 w6) := Lib.hid (by rw [hw6]; exact P5.out.down (Below.refl _ _).drew)
        have HE := hE0
        clear hw6 P5 hE0 OC
        have hnm : Hid ((doH m H q).length ≤ 200) := Lib.hid (by rw [HE.out]; omega)
        generalize doH m H q = H' at P6 HE hnm
        go_wp2_with fail
        go_loopw [12, 13, 14] (fun v12 v13 v14 wr => SmR m b w H' i k v12 v13 v14 wr) (fun _ _ v14 _ => k + 1 - (intOf v14).toNat)
        case atStart => exact SmR.mk 1 0 0 _ (Nat.le_refl _) (by omega) (by decide) (by decide) rfl rfl rfl ⟨P6.out, (used_take1 P6.out.L.good).1.symm, (used_take1 P6.out.L.good).2.symm⟩
        case round =>
          clear P6
          obtain ⟨j, S, C, col6, hj1, hjk, hS, hCj, rfl, rfl, rfl, P⟩ := hrel
          by_cases hjn : j = k + 1
          · subst hjn
            have hnj : ¬ (((k + 1 : Nat) : Int)) ≤ ((k : Nat) : Int) := by omega
            have hSu : Hid (S = usedH H') := Lib.hid (by rw [P.out.2.1, List.take_of_length_le (by rw [HE.out]; exact Nat.le_refl _)])
            have hCu : Hid (C = countH H') := Lib.hid (by rw [P.out.2.2, List.take_of_length_le (by rw [HE.out]; exact Nat.le_refl _)])
            have hSm : ¬ (m : Int) < (S : Int) := by have := P.out.1.L.good.room; rw [← hSu.out] at this; omega
            have HE9 := HE
            clear HE hnm
            go_wp2_with fail
            refine (pl_used P.out.1 S hSu).mono ?_
            rintro e w7 ⟨rfl, rfl⟩
            go_wp2_with fail
            refine (pl_count P.out.1 C hCu).mono ?_
            rintro e w8 ⟨rfl, rfl⟩
            go_wp2_with fail
            exact ⟨UsR.mk (i + 1) k H' col6 hlt (by omega) (by go_num) (by first | rfl | (rw [hk']; go_num)) ⟨P.out.1, HE9.out⟩, by simp [intOf]; omega⟩
          have hjk' : (j : Int) ≤ ((k : Nat) : Int) := by omega
          have HST : Hid (usedH (H'.take (j + 1)) = S + sz (thAt H' j) ∧ usedH (H'.take (j + 1)) ≤ 16777216) := Lib.hid ⟨by rw [used_take (by rw [HE.out]; omega), P.out.2.1], Nat.le_trans (used_few _) (Nat.le_trans P.out.1.L.good.room (by omega))⟩
          have HCT : Hid (countH (H'.take (j + 1)) = C + if (thAt H' j).is then 1 else 0) := Lib.hid (by rw [count_take (by rw [HE.out]; omega), P.out.2.2])
          go_wp2_with fail
          refine (pl_get P.out.1 (by omega) j (wf64 (by omega) (by omega))).mono ?_
          rintro e w7 ⟨o7, is7, a7, n7, c7, rfl, H7, P7, hb7⟩
          go_upto_region 23 with (refine wpL_storeRow rfl _ _ _ rfl (cs := [.int .u8 (o7.k.toNat : Int), .int .i64 o7.t, .slice a7 n7 c7, .string (str o7.s)]) rfl rfl (Row.new _ _ _) (by kernel_rfl) rfl rfl ?_; intro w8 hg8 hr8)
          have hb8 : Below w7.heap.size w7 w8 := below_grown ((Below.refl _ _).alloc (Nat.le_refl _) _) hg8 (Nat.le_refl _) (by simp)
          have P8 := Lib.hid (P7.out.down hb8)
          have g0 : w8.cell? ⟨w7.heap.size, 0, none⟩ = some (.int .u8 (o7.k.toNat : Int)) := hr8.cell 0
          have g1 : w8.cell? ⟨w7.heap.size, 1, none⟩ = some (.int .i64 o7.t) := hr8.cell 1
          have g2 : w8.cell? ⟨w7.heap.size, 2, none⟩ = some (.slice a7 n7 c7) := hr8.cell 2
          have g3 : w8.cell? ⟨w7.heap.size, 3, none⟩ = some (.string (str o7.s)) := hr8.cell 3
          have HSM : Hid (o7.l.length ≤ 16777216 ∧ o7.s.length ≤ 134217728) := Lib.hid (by rw [H7.out.1]; exact P.out.1.L.good.small (by omega) j)
          clear hg8 hr8 hb7 hb8 P7
          cases is7 with
          | false =>
            go_wp2_with fail
            exact ⟨SmR.mk (j + 1) S C _ (by omega) (by omega) hS (by omega) (by go_num) rfl rfl ⟨P8.out, by rw [HST.out.1, sz, ← H7.out.2.1]; rfl, by rw [HCT.out, ← H7.out.2.1]; rfl⟩, by simp [intOf]; omega⟩
          | true =>
            obtain ⟨Z, hZ⟩ : ∃ Z, Z = sizeO o7 := ⟨_, rfl⟩
            have HZ := Lib.hid hZ
            have HSZ : Hid (usedH (H'.take (j + 1)) = S + Z) := Lib.hid (by rw [HST.out.1, sz, ← H7.out.2.1, if_pos rfl, ← H7.out.1, hZ])
            have hSZ9 : S + Z ≤ 16777216 := by rw [← HSZ.out]; exact HST.out.2
            clear hZ
            go_wp2_with fail
            refine (size_any o7 a7 n7 c7 _ w8 H7.out.2.2.1 rfl (by have := HSM.out.1; have := H7.out.2.2.1; omega) (by have := HSM.out.2; omega) Z HZ).mono ?_
            rintro e w9 ⟨rfl, hb9'⟩
            have P9 := Lib.hid (P8.out.down hb9')
            clear P8 hb9' g0 g1 g2 g3
            go_wp2_with fail
            exact ⟨SmR.mk (j + 1) (S + Z) (C + 1) _ (by omega) (by omega) hSZ9 (by omega) (by go_num) (by go_num) (by go_num) ⟨P9.out, HSZ.out.symm, by rw [HCT.out, ← H7.out.2.1]; rfl⟩, by simp [intOf]; omega⟩
theorem heapUsed_any (x : Int) (hx : (Lit.int .u8 x).wf = true) (a : Option Addr) (n c : Nat) (l : List (Int × Int × Int × (UInt8 × Int × List (UInt8 × Int) × List UInt8) × (UInt8 × Int) × List Int)) (w : World) (h : SlOf VOp 10 w (.slice a n c) l) :
    Calls Try.prog 5 #[.int .u8 x, .slice a n c] w fun e w' => e = .returned (.bool true) ∧ Below w.heap.size w w' := by
  obtain ⟨L, hL⟩ := ops_open h
  have hx9 : 0 ≤ x ∧ x ≤ 255 := by simpa [Lit.wf, IntKind.min, IntKind.max, IntKind.signed, IntKind.bits] using hx
  have := heapUsed_walk (x + 1).toNat (by omega) (by omega) a n c L w hL
  rw [show (((x + 1).toNat : Nat) : Int) - 1 = x by omega] at this
  exact this
end Go.Proofs.Ytekmgffjdheifaa
