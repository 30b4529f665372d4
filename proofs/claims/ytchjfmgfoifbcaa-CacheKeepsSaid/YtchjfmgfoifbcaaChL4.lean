/-
  CacheKeeps, walked. Conditions: the things done read.
-/
import Derived.Test.YtchjfmgfoifbcaaChS
namespace Go.Proofs.Ytchjfmgfoifbcaa
open Go.RowKit
set_option linter.unusedVariables false
set_option linter.unusedSimpArgs false
set_option maxRecDepth 100000

theorem ncd7 : ¬ CD 5 1 7 := by rintro (h | h) <;> cases h
theorem ncd9 : ¬ CD 5 1 9 := by rintro (h | h) <;> cases h
theorem ncd0 : ¬ CD 5 1 0 := by rintro (h | h) <;> cases h
theorem nd97 : ¬ D9 5 1 7 := by rintro (h | h | h) <;> cases h
theorem nd98 : ¬ D9 5 1 8 := by rintro (h | h | h) <;> cases h
theorem nd90 : ¬ D9 5 1 0 := by rintro (h | h | h) <;> cases h
theorem d9nz : ∀ c : Nat, D9 5 1 c → NZ c := fun c h => by rcases h with rfl | rfl | rfl <;> exact Nat.succ_ne_zero _
theorem eight_nz : ∀ c : Nat, c = 8 → NZ c := fun c h => by rw [h]; exact Nat.succ_ne_zero _
theorem Imms.nils (col : Nat → Nat) (w : World) : ∀ n, Imms col w (List.replicate n (.slice none 0 0)) (List.replicate n [])
  | 0 => .nil
  | n + 1 => .cons (Imm.nil _ _) (Imms.nils col w n)
set_option maxHeartbeats 16000000 in
theorem cacheKeeps_walk (F G : Nat) (hF : F < 256) (hG : G < 256) (a : Option Addr) (nO c : Nat) (L : List Opr) (w : World) (hl : SlOf VOp 5 w (.slice a nO c) L) :
    Calls Try.prog 7 #[.int .u8 (F : Int), .int .u8 (G : Int), .slice a nO c] w fun e w' => e = .returned (.bool true) ∧ Below w.heap.size w w' := by
  obtain ⟨r, hr⟩ : ∃ r, r = F % 45 := ⟨_, rfl⟩
  obtain ⟨q, hq⟩ : ∃ q, q = G % 20 := ⟨_, rfl⟩
  have hFt : ((F : Int).tmod 45) = (r : Int) := by rw [hr, Int.tmod_eq_emod_of_nonneg (by omega)]; rfl
  have hGt : ((G : Int).tmod 20) = (q : Int) := by rw [hq, Int.tmod_eq_emod_of_nonneg (by omega)]; rfl
  have hFe : ((F : Int) % 45) = (r : Int) := by omega
  have hGe : ((G : Int) % 20) = (q : Int) := by omega
  obtain ⟨n, hn⟩ : ∃ n, n = r + 16 := ⟨_, rfl⟩
  obtain ⟨m, hm⟩ : ∃ m, m = q + 1 := ⟨_, rfl⟩
  have en : 16 + (r : Int) = (n : Int) := by omega
  have em : 1 + (q : Int) = (m : Int) := by omega
  have HNN : Hid (16 ≤ n ∧ n ≤ 60) := Lib.hid (by omega)
  have HM : Hid (1 ≤ m ∧ m ≤ 20) := Lib.hid (by omega)
  have hn60 : n ≤ 60 := HNN.out.2
  clear hr hq hn hm
  have HN := Lib.hid hl.len.1
  go_enter Try.func7, Try.ntmps7
  go_wp2_with fail
  refine (vast_any a nO c L w hl).mono ?_
  rintro e w1 ⟨Bv, rfl, HV, hb1⟩
  cases Bv with
  | true =>
    go_wp2_with fail
    refine (works_any w1).mono ?_
    rintro e wz ⟨rfl, hbz⟩
    go_wp2_with fail
    go_ret
    exact ⟨rfl, (hb1).trans (hbz.mono (hb1).size)⟩
  | false =>
  have HF : Hid (FewO L) := Lib.hid (HV.out rfl)
  have hn120 : nO ≤ 120 := by rw [HN.out]; exact HF.out.1
  clear HV
  go_wp2_with fail
  refine (dnew_p n (by have := HNN.out; omega) 1 (by decide) w1 col0).mono ?_
  rintro e w2 ⟨bd, rfl, col1, k1, h1'⟩
  have K1 : Hid (St NZ col0 w col1 w2) := Lib.hid ((St.fresh hb1 NZ col0).trans (k1.mono (fun _ h => h.elim)))
  have H1 := Lib.hid h1'
  clear k1 h1' hb1 en hFt hFe
  go_wp2_with fail
  refine (cnew_p 5 1 (by decide) col1 bd (newD n) m w2 H1.out (by have := HM.out; omega)).mono ?_
  rintro e w3 ⟨b, rfl, col2, k2, h2'⟩
  have K2 := Lib.hid (K1.out.trans (k2.mono (fun _ h => h.elim)))
  have H2 : Hid (CkAt 5 1 col2 w3 b bd (newC (newD n) m)) := Lib.hid h2'
  clear k2 h2' H1 K1 em hGt hGe
  go_wp2_with (at_make; refine wpL_make etBB rfl rfl _ _ rfl n w3.heap.size rfl rfl rfl rfl (by omega) (by simp [maxLen]; omega) (Nat.le_refl _) ?_; rintro v4 w4 ho4 hb4 ⟨g3, o3, rfl, hg3⟩; clear hg3; have HO4 := Lib.hid ho4; have HB4 := Lib.hid hb4; clear ho4 hb4)
  have P0 := Lib.hid (kp_start (n := n) (by have := HNN.out; omega) (m := m) (by have := HM.out; omega))
  generalize newC (newD n) m = C0 at H2 P0
  obtain ⟨LF, hLF⟩ : ∃ x, x = List.replicate n (fullB []) := ⟨_, rfl⟩
  rw [← hLF] at P0
  have HLF : Hid (∀ i, i < n → LF.getD i [] = fullB []) := Lib.hid (fun i hi => by rw [hLF, List.getD_eq_getElem?_getD, List.getElem?_replicate, if_pos hi]; rfl)
  clear hLF
  obtain ⟨col4, hcol4⟩ : ∃ x, x = recol col2 w3.heap.size 8 := ⟨_, rfl⟩
  have K4 : Hid (St NZ col0 w col4 w4) := Lib.hid (by rw [hcol4]; exact K2.out.trans (St.new HB4.out NZ col2 8))
  have H4 : Hid (CkAt 5 1 col4 w4 b bd C0) := Lib.hid (by rw [hcol4]; exact H2.out.st (St.new HB4.out (fun _ => False) col2 8) (fun h => h) (fun h => h) (fun h => h))
  have O4 : Hid (OwnC col4 w4 8 1 (.slice (some ⟨g3, o3, none⟩) n n) n (List.replicate n (.slice none 0 0))) := Lib.hid (by rw [hcol4]; exact OwnC.new HO4.out)
  clear hcol4 HO4 HB4 K2 H2
  go_loopw [13] (fun v13 wr => ∃ i us col, i ≤ n ∧ v13 = .int .i64 (i : Nat) ∧ Hid (St NZ col0 w col wr) ∧ Hid (CkAt 5 1 col wr b bd C0) ∧ Hid (OwnC col wr 8 1 (.slice (some ⟨g3, o3, none⟩) n n) n us) ∧ Hid (Imms col wr us (partL LF i))) (fun v13 _ => n - (intOf v13).toNat)
  case atStart => exact ⟨0, _, col4, Nat.zero_le _, rfl, K4, H4, O4, Lib.hid (by rw [partL_zero, P0.out.len]; exact Imms.nils _ _ _)⟩
  case round =>
    clear K4 H4 O4
    obtain ⟨i, us, col, hi, rfl, K, H, O, I⟩ := hrel
    by_cases hin : n = i
    · subst hin
      have I0 : Hid (Imms col wr us LF) := Lib.hid (by have := I.out; rwa [← P0.out.len, partL_all] at this)
      clear I HLF hi
      go_wp2_with fail
      go_loopw [14] (fun v14 wr => ∃ x col C Lw us N, x ≤ nO ∧ v14 = .int .i64 (x : Nat) ∧ Hid (St NZ col0 w col wr) ∧ Hid (CkAt 5 1 col wr b bd C) ∧ Hid (OwnC col wr 8 1 (.slice (some ⟨g3, o3, none⟩) n n) n us) ∧ Hid (Imms col wr us Lw) ∧ Hid (KpI C Lw n m N ∧ N ≤ 70 * x)) (fun v14 _ => nO - (intOf v14).toNat)
      case atStart => exact ⟨0, col, C0, LF, us, 0, Nat.zero_le _, rfl, K, H, O, I0, Lib.hid ⟨P0.out, Nat.zero_le _⟩⟩
      case round =>
        clear K H O I0 P0
        clear us col
        obtain ⟨i, col, C, Lw, us, N, hi, rfl, K, H, O, I, P⟩ := hrel
        by_cases hin : i = nO
        · subst hin
          have hB := K.out.below
          go_wp2_with fail
          refine (works_any wr).mono ?_
          rintro e wz ⟨rfl, hbz⟩
          go_wp2_with fail
          go_ret
          exact ⟨rfl, (hB).trans (hbz.mono (hB).size)⟩
        have hlt : i < nO := by omega
        have hlt' : (i : Int) < nO := by omega
        obtain ⟨b7, o7, aB, nB, cB, l, aK, nK, cK, keep, Kd, s, t, rfl, hri, hrm, hrk, hop0, hd0, hd1, hd2, hd3, hd4⟩ := op_at hl i hlt
        have hfew := HF.out.2 i Kd s l keep t hri
        have hb7 : b7 < w.heap.size := lt_of_cell hd0
        have hc0 := (K.out.below.cell (p := ⟨b7, o7 + i * 5, none⟩) hb7).trans hd0
        have hc1 := (K.out.below.cell (p := ⟨b7, o7 + i * 5 + 1, none⟩) hb7).trans hd1
        have hc2 := (K.out.below.cell (p := ⟨b7, o7 + i * 5 + 2, none⟩) hb7).trans hd2
        have hc3 := (K.out.below.cell (p := ⟨b7, o7 + i * 5 + 3, none⟩) hb7).trans hd3
        have hc4 := (K.out.below.cell (p := ⟨b7, o7 + i * 5 + 4, none⟩) hb7).trans hd4
        have hnB : nB ≤ 1024 := by omega
        have HOP := Lib.hid hop0
        have HRM := Lib.hid hrm
        clear hri hrm hrk hop0 hfew hd0 hd1 hd2 hd3 hd4
        rcases okinds Kd with hK | hK | hK | hK | hK | hK | hK | hK | hK | ⟨k0, k1, k2, k3, k4, k5, k6, k7, k8, n0, n1, n2, n3, n4, n5, n6, n7, n8⟩
        · subst hK
          go_wp2_with (refine wpL_storeRow rfl _ _ _ rfl (cs := [.int .i64 _, .int .i64 s, .slice aB nB cB, .slice aK nK cK, .int .i64 t]) rfl rfl (Row.new _ _ _) (by kernel_rfl) rfl rfl ?_; intro w4 hg4 hr4; have e0 : w4.cell? ⟨wr.heap.size, 0, none⟩ = some (.int .i64 _) := hr4.cell 0; have e1 : w4.cell? ⟨wr.heap.size, 1, none⟩ = some (.int .i64 s) := hr4.cell 1; have e2 : w4.cell? ⟨wr.heap.size, 2, none⟩ = some (.slice aB nB cB) := hr4.cell 2; have e3 : w4.cell? ⟨wr.heap.size, 3, none⟩ = some (.slice aK nK cK) := hr4.cell 3; have e4 : w4.cell? ⟨wr.heap.size, 4, none⟩ = some (.int .i64 t) := hr4.cell 4; have hb4 : Below wr.heap.size wr w4 := below_grown ((Below.refl _ _).alloc (Nat.le_refl _) _) hg4 (Nat.le_refl _) (by simp); have HR4 := Lib.hid hr4; clear hg4 hr4 hc0 hc1 hc2 hc3 hc4)
          obtain ⟨col4, hcol4⟩ : ∃ x, x = recol col wr.heap.size 7 := ⟨_, rfl⟩
          have K4 : Hid (St NZ col0 w col4 w4) := Lib.hid (by rw [hcol4]; exact K.out.trans (St.new hb4 NZ col 7))
          have H4 : Hid (CkAt 5 1 col4 w4 b bd C) := Lib.hid (by rw [hcol4]; exact H.out.st (St.new hb4 (fun _ => False) col 7) (fun h => h) (fun h => h) (fun h => h))
          have O4 : Hid (OwnC col4 w4 8 1 (.slice (some ⟨g3, o3, none⟩) n n) n us) := Lib.hid (by rw [hcol4]; exact O.out.st (St.new hb4 (fun _ => False) col 7) (fun h => h))
          have I4 : Hid (Imms col4 w4 us Lw) := Lib.hid (by rw [hcol4]; exact I.out.st (St.new hb4 (fun _ => False) col 7) (fun h => h))
          have C4 : Hid (col4 wr.heap.size = 7) := Lib.hid (by rw [hcol4]; exact recol_ge (Nat.le_refl _))
          have hg3 := O.out.1.lives g3 rfl
          have hwr := hb4.size
          clear hcol4 hb4 K H O I
          refine (does_p 5 1 col4 b bd C n N w4 _ s aB nB cB l aK nK cK t H4.out P.out.1.live (by have := P.out.2; omega) n15 (by omega) ncd7 ncd9 ncd0 (HOP.out.sb.below K4.out.below) hnB HOP.out.wf HOP.out.hi (by decide)).mono ?_
          rintro e w5 ⟨v5, N5, c5, is, E, rfl, C5, B, col5, HH⟩
          have K5 := Lib.hid (K4.out.trans (HH.out.2.2.1.mono d9nz))
          have O5 := Lib.hid (O4.out.st HH.out.2.2.1 nd98)
          have I5 := Lib.hid (I4.out.st HH.out.2.2.1 nd90)
          have R5 := Lib.hid (HR4.out.mods HH.out.2.2.1.mods (by rw [C4.out]; exact nd97))
          have H5 := Lib.hid HH.out.2.2.2.1
          have B5 := Lib.hid HH.out.2.2.2.2
          have P5 := Lib.hid (OpR.kp P.out.1 (by have := HM.out; omega) HH.out.2.1)
          have HN5 := Lib.hid HH.out.1
          have HG3 : Hid (g3 < wr.heap.size ∧ g3 < w5.heap.size) := Lib.hid ⟨hg3, O5.out.1.lives g3 rfl⟩
          have QN := Lib.hid P.out.2
          clear HH K4 H4 O4 I4 C4 HR4 P e0 e1 e2 e3 e4 hg3 hwr
          by_cases hE : E = 0
          · subst hE
            obtain ⟨q, rfl, hqn, hBq⟩ := P5.out.2.2.1 rfl rfl
            have hqn' : (q : Int) < n := by omega
            have PN := Lib.hid (P5.out.2.1 (fun e => absurd e.1 (by decide)))
            clear P5
            go_upto_region 22 with (refine wpL_storeRow rfl _ _ _ rfl (cs := [.slice v5 N5 c5, .bool is, .int .i64 _]) rfl rfl (Row.new _ _ _) (by kernel_rfl) rfl rfl ?_; intro w6 hg6 hr6; have hb6 : Below w5.heap.size w5 w6 := below_grown ((Below.refl _ _).alloc (Nat.le_refl _) _) hg6 (Nat.le_refl _) (by simp); have R := Lib.hid (R5.out.after hb6); have X := Lib.hid hr6; have e0 : w6.cell? ⟨wr.heap.size, 0, none⟩ = some (.int .i64 _) := (R5.out.after hb6).cell 0; have e1 : w6.cell? ⟨wr.heap.size, 1, none⟩ = some (.int .i64 _) := (R5.out.after hb6).cell 1; have e2 : w6.cell? ⟨wr.heap.size, 2, none⟩ = some (.slice aB nB cB) := (R5.out.after hb6).cell 2; have f0 : w6.cell? ⟨w5.heap.size, 0, none⟩ = some (.slice v5 N5 c5) := hr6.cell 0; have f2 : w6.cell? ⟨w5.heap.size, 2, none⟩ = some (.int .i64 _) := hr6.cell 2; have k6 := St.fresh hb6 (fun _ => False) col5; have K := Lib.hid (K5.out.down hb6); have O := Lib.hid (O5.out.st k6 (fun h => h)); have I := Lib.hid (I5.out.st k6 (fun h => h)); have H := Lib.hid (H5.out.st k6 (fun h => h) (fun h => h) (fun h => h)); have B6 := Lib.hid (B5.out.st k6 (fun h => h)); clear hg6 hr6 hb6 k6 K5 O5 I5 H5 B5 R5)
            go_upto_region 26 with fail
            obtain ⟨vq, hvq, hmq⟩ := I.out.get q (by rw [PN.out.len]; exact hqn)
            obtain ⟨aQ, cQ, rfl⟩ := hmq.form
            have hcell : w6.cell? ⟨g3, o3 + q, none⟩ = some (.slice aQ (Lw.getD q []).length cQ) := (O.out.1.get q (by have := O.out.1.1; omega)).trans hvq
            have SQ := Lib.hid hmq.1
            have SB5 : Hid (Sl w6 1 (.slice v5 N5 c5) N5 (bvs (Lw.getD q []))) := Lib.hid (by have := B6.out.1; rw [← HN5.out, hBq] at this; exact this)
            generalize (Lw.getD q []).length = nQ at hcell SQ
            clear hvq hmq hBq
            have q0 := later_cell e0
            have q1 := later_cell f2
            have q2 := later_cell f0
            have q3 := later_cell e1
            have q4 := later_cell hcell
            obtain ⟨colc, hcolc⟩ : ∃ x, x = col5 := ⟨_, rfl⟩
            rw [← hcolc] at K O I H
            clear hcolc e0 e1 e2 f0 f2
            try go_frame
            refine wp_region_idx Rb Rb_refl Rb_trans [(0,0),(0,1),(0,2),(0,3),(0,4),(0,5),(0,6),(0,7),(0,8),(0,9),(0,10),(0,11),(0,12),(0,13),(0,14),(0,15),(1,16),(0,17),(0,18)] (by kernel_rfl) (by kernel_rfl) (by kernel_rfl) ?_
            simp only [pickO, List.getD_cons_succ, List.getD_cons_zero]
            refine wpCan_seg 16 (by kernel_rfl) ?_
            simp only [List.take_succ_cons, List.take_zero, List.drop_succ_cons, List.drop_zero, List.map_cons, List.map_nil]
            iterate 16 (go_big_quiet_step (fail))
            refine wpQuiet_nil ?_
            clear q0 q1 q2 q3 q4 hcell
            refine wpCan_list (k := 0) (fun KK hK => ?_) (fun _ => Rb_refl _)
            go_wp2_with fail
            refine (same_any v5 N5 c5 aQ nQ cQ _ _ w6.drew (SB5.out.below (Below.refl _ _).drew) (SQ.out.below (Below.refl _ _).drew) true (Lib.hid (by simp))).mono ?_
            rintro e wx ⟨rfl, rfl⟩
            go_wp2_with fail
            refine hK _ _ (fun _ => Rb_refl _) ?_
            clear hK KK
            refine wpCan_seg 2 (by kernel_rfl) ?_
            simp only [List.take_succ_cons, List.take_zero, List.drop_succ_cons, List.drop_zero, List.map_cons, List.map_nil]
            iterate 2 (go_big_quiet_step (fail))
            refine wpQuiet_nil ?_
            unfold wpCan
            obtain ⟨w7, hw7⟩ : ∃ x, x = (w6).drew := ⟨_, rfl⟩
            rw [← hw7]
            have hb7 : Below (w6).heap.size w6 w7 := by rw [hw7]; exact (Below.refl _ _).drew
            clear hw7
            have k7 := St.fresh hb7 (fun _ => False) colc
            have H7 := Lib.hid (H.out.st k7 (fun h => h) (fun h => h) (fun h => h))
            go_wp2_with fail
            refine (held_q 5 1 colc b bd C5 n (N + 70) w7 H7.out PN.out.live (by have := QN.out; omega) n15 (by omega)).mono ?_
            rintro e w8 ⟨rfl, hb8⟩
            have hb78 : Below (w6).heap.size w6 w8 := hb7.trans (hb8.mono hb7.size)
            have k8 := St.fresh hb78 (fun _ => False) colc
            have K8 := Lib.hid (K.out.down hb78)
            have H8 := Lib.hid (H.out.st k8 (fun h => h) (fun h => h) (fun h => h))
            have O8 := Lib.hid (O.out.st k8 (fun h => h))
            have I8 := Lib.hid (I.out.st k8 (fun h => h))
            have R8 := Lib.hid (R.out.after hb78)
            have X8 := Lib.hid (X.out.after hb78)
            have hh1 : ¬ (m : Int) < (C5.ks.length : Int) := by have := PN.out.live.few; have := PN.out.most; omega
            have hh2 : ¬ (C5.ks.length : Int) < (C5.ks.countP (dirtyB C5) : Nat) := by have := List.countP_le_length (p := dirtyB C5) (l := C5.ks); omega
            have hh3 : ¬ (C5.ks.length : Int) < (C5.ks.countP (pinB C5) : Nat) := by have := List.countP_le_length (p := pinB C5) (l := C5.ks); omega
            have g0 : w8.cell? ⟨wr.heap.size, 0, none⟩ = some (.int .i64 _) := R8.out.cell 0
            have g2 : w8.cell? ⟨w5.heap.size, 2, none⟩ = some (.int .i64 _) := X8.out.cell 2
            clear hb7 hb8 hb78 k7 k8 H7 K H O I R X
            generalize C5.ks.countP (dirtyB C5) = nd at hh2 ⊢
            generalize C5.ks.countP (pinB C5) = np at hh3 ⊢
            generalize C5.ks.length = nk at hh1 hh2 hh3 ⊢
            go_wp2_with fail
            exact ⟨⟨i + 1, colc, C5, _, _, N + 70, hlt, by go_num, K8, H8, O8, I8, Lib.hid ⟨PN.out, by have := QN.out; omega⟩⟩, by simp [intOf]; omega⟩
          · have PN := Lib.hid (P5.out.2.1 (fun e => hE e.2))
            have hEb : (E == 0) = false := by simp [hE]
            clear P5
            go_upto_region 22 with (refine wpL_storeRow rfl _ _ _ rfl (cs := [.slice v5 N5 c5, .bool is, .int .i64 _]) rfl rfl (Row.new _ _ _) (by kernel_rfl) rfl rfl ?_; intro w6 hg6 hr6; have hb6 : Below w5.heap.size w5 w6 := below_grown ((Below.refl _ _).alloc (Nat.le_refl _) _) hg6 (Nat.le_refl _) (by simp); have R := Lib.hid (R5.out.after hb6); have X := Lib.hid hr6; have e0 : w6.cell? ⟨wr.heap.size, 0, none⟩ = some (.int .i64 _) := (R5.out.after hb6).cell 0; have e1 : w6.cell? ⟨wr.heap.size, 1, none⟩ = some (.int .i64 _) := (R5.out.after hb6).cell 1; have e2 : w6.cell? ⟨wr.heap.size, 2, none⟩ = some (.slice aB nB cB) := (R5.out.after hb6).cell 2; have f0 : w6.cell? ⟨w5.heap.size, 0, none⟩ = some (.slice v5 N5 c5) := hr6.cell 0; have f2 : w6.cell? ⟨w5.heap.size, 2, none⟩ = some (.int .i64 _) := hr6.cell 2; have k6 := St.fresh hb6 (fun _ => False) col5; have K := Lib.hid (K5.out.down hb6); have O := Lib.hid (O5.out.st k6 (fun h => h)); have I := Lib.hid (I5.out.st k6 (fun h => h)); have H := Lib.hid (H5.out.st k6 (fun h => h) (fun h => h) (fun h => h)); have B6 := Lib.hid (B5.out.st k6 (fun h => h)); clear hg6 hr6 hb6 k6 K5 O5 I5 H5 B5 R5)
            go_upto_region 26 with fail
            obtain ⟨colc, hcolc⟩ : ∃ x, x = col5 := ⟨_, rfl⟩
            rw [← hcolc] at K O I H
            clear hcolc e0 e1 e2 f0 f2
            have q0 := later_cell (show (w6).cell? ⟨wr.heap.size, 0, none⟩ = some (.int .i64 _) from R.out.cell 0)
            have q1 := later_cell (show (w6).cell? ⟨w5.heap.size, 2, none⟩ = some (.int .i64 _) from X.out.cell 2)
            try go_frame
            refine wp_region_idx Rb Rb_refl Rb_trans [(0,0),(0,1),(0,2),(0,3),(0,4),(0,5),(0,6),(0,7),(0,8),(0,9),(0,10),(0,11),(0,12),(0,13),(0,14),(0,15),(1,16),(0,17),(0,18)] (by kernel_rfl) (by kernel_rfl) (by kernel_rfl) ?_
            simp only [pickO, List.getD_cons_succ, List.getD_cons_zero]
            refine wpCan_seg 16 (by kernel_rfl) ?_
            simp only [List.take_succ_cons, List.take_zero, List.drop_succ_cons, List.drop_zero, List.map_cons, List.map_nil]
            iterate 16 (go_big_quiet_step (fail))
            refine wpQuiet_nil ?_
            clear q0 q1
            refine wpCan_list (k := 0) (fun KK hK => ?_) (fun _ => Rb_refl _)
            go_wp2_with fail
            refine hK _ _ (fun _ => Rb_refl _) ?_
            clear hK KK
            refine wpCan_seg 2 (by kernel_rfl) ?_
            simp only [List.take_succ_cons, List.take_zero, List.drop_succ_cons, List.drop_zero, List.map_cons, List.map_nil]
            iterate 2 (go_big_quiet_step (fail))
            refine wpQuiet_nil ?_
            unfold wpCan
            obtain ⟨w7, hw7⟩ : ∃ x, x = (w6).drew := ⟨_, rfl⟩
            rw [← hw7]
            have hb7 : Below (w6).heap.size w6 w7 := by rw [hw7]; exact (Below.refl _ _).drew
            clear hw7
            have k7 := St.fresh hb7 (fun _ => False) colc
            have H7 := Lib.hid (H.out.st k7 (fun h => h) (fun h => h) (fun h => h))
            go_wp2_with fail
            refine (held_q 5 1 colc b bd C5 n (N + 70) w7 H7.out PN.out.live (by have := QN.out; omega) n15 (by omega)).mono ?_
            rintro e w8 ⟨rfl, hb8⟩
            have hb78 : Below (w6).heap.size w6 w8 := hb7.trans (hb8.mono hb7.size)
            have k8 := St.fresh hb78 (fun _ => False) colc
            have K8 := Lib.hid (K.out.down hb78)
            have H8 := Lib.hid (H.out.st k8 (fun h => h) (fun h => h) (fun h => h))
            have O8 := Lib.hid (O.out.st k8 (fun h => h))
            have I8 := Lib.hid (I.out.st k8 (fun h => h))
            have R8 := Lib.hid (R.out.after hb78)
            have X8 := Lib.hid (X.out.after hb78)
            have hh1 : ¬ (m : Int) < (C5.ks.length : Int) := by have := PN.out.live.few; have := PN.out.most; omega
            have hh2 : ¬ (C5.ks.length : Int) < (C5.ks.countP (dirtyB C5) : Nat) := by have := List.countP_le_length (p := dirtyB C5) (l := C5.ks); omega
            have hh3 : ¬ (C5.ks.length : Int) < (C5.ks.countP (pinB C5) : Nat) := by have := List.countP_le_length (p := pinB C5) (l := C5.ks); omega
            have g0 : w8.cell? ⟨wr.heap.size, 0, none⟩ = some (.int .i64 _) := R8.out.cell 0
            have g2 : w8.cell? ⟨w5.heap.size, 2, none⟩ = some (.int .i64 _) := X8.out.cell 2
            clear hb7 hb8 hb78 k7 k8 H7 K H O I R X
            generalize C5.ks.countP (dirtyB C5) = nd at hh2 ⊢
            generalize C5.ks.countP (pinB C5) = np at hh3 ⊢
            generalize C5.ks.length = nk at hh1 hh2 hh3 ⊢
            go_wp2_with fail
            exact ⟨⟨i + 1, colc, C5, _, _, N + 70, hlt, by go_num, K8, H8, O8, I8, Lib.hid ⟨PN.out, by have := QN.out; omega⟩⟩, by simp [intOf]; omega⟩
        · subst hK
          go_wp2_with (refine wpL_storeRow rfl _ _ _ rfl (cs := [.int .i64 _, .int .i64 s, .slice aB nB cB, .slice aK nK cK, .int .i64 t]) rfl rfl (Row.new _ _ _) (by kernel_rfl) rfl rfl ?_; intro w4 hg4 hr4; have e0 : w4.cell? ⟨wr.heap.size, 0, none⟩ = some (.int .i64 _) := hr4.cell 0; have e1 : w4.cell? ⟨wr.heap.size, 1, none⟩ = some (.int .i64 s) := hr4.cell 1; have e2 : w4.cell? ⟨wr.heap.size, 2, none⟩ = some (.slice aB nB cB) := hr4.cell 2; have e3 : w4.cell? ⟨wr.heap.size, 3, none⟩ = some (.slice aK nK cK) := hr4.cell 3; have e4 : w4.cell? ⟨wr.heap.size, 4, none⟩ = some (.int .i64 t) := hr4.cell 4; have hb4 : Below wr.heap.size wr w4 := below_grown ((Below.refl _ _).alloc (Nat.le_refl _) _) hg4 (Nat.le_refl _) (by simp); have HR4 := Lib.hid hr4; clear hg4 hr4 hc0 hc1 hc2 hc3 hc4)
          obtain ⟨col4, hcol4⟩ : ∃ x, x = recol col wr.heap.size 7 := ⟨_, rfl⟩
          have K4 : Hid (St NZ col0 w col4 w4) := Lib.hid (by rw [hcol4]; exact K.out.trans (St.new hb4 NZ col 7))
          have H4 : Hid (CkAt 5 1 col4 w4 b bd C) := Lib.hid (by rw [hcol4]; exact H.out.st (St.new hb4 (fun _ => False) col 7) (fun h => h) (fun h => h) (fun h => h))
          have O4 : Hid (OwnC col4 w4 8 1 (.slice (some ⟨g3, o3, none⟩) n n) n us) := Lib.hid (by rw [hcol4]; exact O.out.st (St.new hb4 (fun _ => False) col 7) (fun h => h))
          have I4 : Hid (Imms col4 w4 us Lw) := Lib.hid (by rw [hcol4]; exact I.out.st (St.new hb4 (fun _ => False) col 7) (fun h => h))
          have C4 : Hid (col4 wr.heap.size = 7) := Lib.hid (by rw [hcol4]; exact recol_ge (Nat.le_refl _))
          have hg3 := O.out.1.lives g3 rfl
          have hwr := hb4.size
          clear hcol4 hb4 K H O I
          refine (does_p 5 1 col4 b bd C n N w4 _ s aB nB cB l aK nK cK t H4.out P.out.1.live (by have := P.out.2; omega) n15 (by omega) ncd7 ncd9 ncd0 (HOP.out.sb.below K4.out.below) hnB HOP.out.wf HOP.out.hi (by decide)).mono ?_
          rintro e w5 ⟨v5, N5, c5, is, E, rfl, C5, B, col5, HH⟩
          have K5 := Lib.hid (K4.out.trans (HH.out.2.2.1.mono d9nz))
          have O5 := Lib.hid (O4.out.st HH.out.2.2.1 nd98)
          have I5 := Lib.hid (I4.out.st HH.out.2.2.1 nd90)
          have R5 := Lib.hid (HR4.out.mods HH.out.2.2.1.mods (by rw [C4.out]; exact nd97))
          have H5 := Lib.hid HH.out.2.2.2.1
          have B5 := Lib.hid HH.out.2.2.2.2
          have P5 := Lib.hid (OpR.kp P.out.1 (by have := HM.out; omega) HH.out.2.1)
          have HN5 := Lib.hid HH.out.1
          have HG3 : Hid (g3 < wr.heap.size ∧ g3 < w5.heap.size) := Lib.hid ⟨hg3, O5.out.1.lives g3 rfl⟩
          have QN := Lib.hid P.out.2
          clear HH K4 H4 O4 I4 C4 HR4 P e0 e1 e2 e3 e4 hg3 hwr
          by_cases hE : E = 0
          · subst hE
            obtain ⟨q, rfl, hqn, hl256, PN'⟩ := P5.out.1 rfl rfl
            have PN := Lib.hid PN'
            have hqn' : (q : Int) < n := by omega
            have hnB2 : nB ≤ 256 := by rw [HRM.out]; exact hl256
            clear PN' P5 hl256
            go_upto_region 22 with (refine wpL_storeRow rfl _ _ _ rfl (cs := [.slice v5 N5 c5, .bool is, .int .i64 _]) rfl rfl (Row.new _ _ _) (by kernel_rfl) rfl rfl ?_; intro w6 hg6 hr6; have hb6 : Below w5.heap.size w5 w6 := below_grown ((Below.refl _ _).alloc (Nat.le_refl _) _) hg6 (Nat.le_refl _) (by simp); have R := Lib.hid (R5.out.after hb6); have X := Lib.hid hr6; have e0 : w6.cell? ⟨wr.heap.size, 0, none⟩ = some (.int .i64 _) := (R5.out.after hb6).cell 0; have e1 : w6.cell? ⟨wr.heap.size, 1, none⟩ = some (.int .i64 _) := (R5.out.after hb6).cell 1; have e2 : w6.cell? ⟨wr.heap.size, 2, none⟩ = some (.slice aB nB cB) := (R5.out.after hb6).cell 2; have f0 : w6.cell? ⟨w5.heap.size, 0, none⟩ = some (.slice v5 N5 c5) := hr6.cell 0; have f2 : w6.cell? ⟨w5.heap.size, 2, none⟩ = some (.int .i64 _) := hr6.cell 2; have k6 := St.fresh hb6 (fun _ => False) col5; have K := Lib.hid (K5.out.down hb6); have O := Lib.hid (O5.out.st k6 (fun h => h)); have I := Lib.hid (I5.out.st k6 (fun h => h)); have H := Lib.hid (H5.out.st k6 (fun h => h) (fun h => h) (fun h => h)); have B6 := Lib.hid (B5.out.st k6 (fun h => h)); clear hg6 hr6 hb6 k6 K5 O5 I5 H5 B5 R5)
            go_upto_region 25 with fail
            have q3 := later_cell e1
            have q5 := later_cell e2
            have SB := Lib.hid (HOP.out.sb.below K.out.below)
            clear e0 e1 e2 f0 f2
            try go_frame
            refine wp_region_idx Rb Rb_refl Rb_trans [(0,0),(0,1),(0,2),(0,3),(0,4),(1,5),(2,6),(2,7)] (by kernel_rfl) (by kernel_rfl) (by kernel_rfl) ?_
            simp only [pickO, List.getD_cons_succ, List.getD_cons_zero]
            refine wpCan_seg 5 (by kernel_rfl) ?_
            simp only [List.take_succ_cons, List.take_zero, List.drop_succ_cons, List.drop_zero, List.map_cons, List.map_nil]
            iterate 5 (go_big_quiet_step (fail))
            refine wpQuiet_nil ?_
            clear q3 q5
            refine wpCan_list (k := 0) (fun KK hK => ?_) (fun _ => Rb_refl _)
            go_wp2_with fail
            refine (full_any aB nB cB l w6.drew (SB.out.below (Below.refl _ _).drew) hnB2).mono ?_
            rintro e w9 ⟨g9, o9, rfl, ho9, hb9⟩
            go_wp2_with fail
            refine hK _ _ (fun _ => hb9) ?_
            clear hK KK
            have hb9' : Below w6.heap.size w6 w9 := (Below.refl w6.heap.size w6).drew.trans hb9
            obtain ⟨colc, hcolc⟩ : ∃ x, x = recol col5 w6.heap.size 0 := ⟨_, rfl⟩
            have K9 : Hid (St NZ col0 w colc w9) := Lib.hid (by rw [hcolc]; exact K.out.trans (St.new hb9' NZ col5 0))
            have H9 : Hid (CkAt 5 1 colc w9 b bd C5) := Lib.hid (by rw [hcolc]; exact H.out.st (St.new hb9' (fun _ => False) col5 0) (fun h => h) (fun h => h) (fun h => h))
            have O9 : Hid (OwnC colc w9 8 1 (.slice (some ⟨g3, o3, none⟩) n n) n us) := Lib.hid (by rw [hcolc]; exact O.out.st (St.new hb9' (fun _ => False) col5 0) (fun h => h))
            have I9 : Hid (Imms colc w9 us Lw) := Lib.hid (by rw [hcolc]; exact I.out.st (St.new hb9' (fun _ => False) col5 0) (fun h => h))
            have M9 : Hid (Imm colc w9 (.slice (some ⟨g9, o9, none⟩) 256 256) (fullB l)) := Lib.hid (by rw [hcolc]; exact Imm.own (w := w6.drew) ho9)
            have R9 := Lib.hid (R.out.after hb9')
            have X9 := Lib.hid (X.out.after hb9')
            clear hcolc ho9 hb9 hb9' K H O I R X SB
            have hob := O9.out.1
            have husl : us.length = n := by have := O9.out.1.1; omega
            refine wpCan_list (k := 1) (fun KK hK => ?_) (fun h => by cases h)
            go_wp2_with fail
            refine hK _ _ (fun h => by cases h) ?_
            clear hK KK
            refine wpCan_list (k := 1) (fun KK hK => ?_) (fun h => by cases h)
            go_wp2_with (refine wpL_storeOwn (g := 0) rfl _ _ _ rfl (v := .slice (some ⟨g9, o9, none⟩) 256 256) rfl rfl rfl rfl (by kernel_rfl) hob q rfl (by omega) ?_; intro w10 hg10 ho10)
            refine hK _ _ (fun h => by cases h) ?_
            clear hK KK hob
            unfold wpCan
            have k10 : St (fun x => x = 8) colc w9 colc w10 := St.one hg10 _ _ (O9.out.2 g3 rfl)
            have K := Lib.hid (K9.out.trans (k10.mono eight_nz))
            have H := Lib.hid (H9.out.st k10 (by decide) (by decide) (by decide))
            have O : Hid (OwnC colc w10 8 1 (.slice (some ⟨g3, o3, none⟩) n n) n _) := Lib.hid ⟨ho10, O9.out.2⟩
            have I := Lib.hid ((I9.out.st k10 (by decide)).set (M9.out.st k10 (by decide)) q)
            have R := Lib.hid (R9.out.grown hg10 (fun e => by have := Option.some.inj e; have := HG3.out.1; omega))
            have X := Lib.hid (X9.out.grown hg10 (fun e => by have := Option.some.inj e; have := HG3.out.2; omega))
            clear k10 hg10 ho10 K9 H9 O9 I9 M9 R9 X9
            go_upto_region 26 with fail
            have q0 := later_cell (show (w10).cell? ⟨wr.heap.size, 0, none⟩ = some (.int .i64 _) from R.out.cell 0)
            have q1 := later_cell (show (w10).cell? ⟨w5.heap.size, 2, none⟩ = some (.int .i64 _) from X.out.cell 2)
            try go_frame
            refine wp_region_idx Rb Rb_refl Rb_trans [(0,0),(0,1),(0,2),(0,3),(0,4),(0,5),(0,6),(0,7),(0,8),(0,9),(0,10),(0,11),(0,12),(0,13),(0,14),(0,15),(1,16),(0,17),(0,18)] (by kernel_rfl) (by kernel_rfl) (by kernel_rfl) ?_
            simp only [pickO, List.getD_cons_succ, List.getD_cons_zero]
            refine wpCan_seg 16 (by kernel_rfl) ?_
            simp only [List.take_succ_cons, List.take_zero, List.drop_succ_cons, List.drop_zero, List.map_cons, List.map_nil]
            iterate 16 (go_big_quiet_step (fail))
            refine wpQuiet_nil ?_
            clear q0 q1
            refine wpCan_list (k := 0) (fun KK hK => ?_) (fun _ => Rb_refl _)
            go_wp2_with fail
            refine hK _ _ (fun _ => Rb_refl _) ?_
            clear hK KK
            refine wpCan_seg 2 (by kernel_rfl) ?_
            simp only [List.take_succ_cons, List.take_zero, List.drop_succ_cons, List.drop_zero, List.map_cons, List.map_nil]
            iterate 2 (go_big_quiet_step (fail))
            refine wpQuiet_nil ?_
            unfold wpCan
            obtain ⟨w7, hw7⟩ : ∃ x, x = (w10).drew := ⟨_, rfl⟩
            rw [← hw7]
            have hb7 : Below (w10).heap.size w10 w7 := by rw [hw7]; exact (Below.refl _ _).drew
            clear hw7
            have k7 := St.fresh hb7 (fun _ => False) colc
            have H7 := Lib.hid (H.out.st k7 (fun h => h) (fun h => h) (fun h => h))
            go_wp2_with fail
            refine (held_q 5 1 colc b bd C5 n (N + 70) w7 H7.out PN.out.live (by have := QN.out; omega) n15 (by omega)).mono ?_
            rintro e w8 ⟨rfl, hb8⟩
            have hb78 : Below (w10).heap.size w10 w8 := hb7.trans (hb8.mono hb7.size)
            have k8 := St.fresh hb78 (fun _ => False) colc
            have K8 := Lib.hid (K.out.down hb78)
            have H8 := Lib.hid (H.out.st k8 (fun h => h) (fun h => h) (fun h => h))
            have O8 := Lib.hid (O.out.st k8 (fun h => h))
            have I8 := Lib.hid (I.out.st k8 (fun h => h))
            have R8 := Lib.hid (R.out.after hb78)
            have X8 := Lib.hid (X.out.after hb78)
            have hh1 : ¬ (m : Int) < (C5.ks.length : Int) := by have := PN.out.live.few; have := PN.out.most; omega
            have hh2 : ¬ (C5.ks.length : Int) < (C5.ks.countP (dirtyB C5) : Nat) := by have := List.countP_le_length (p := dirtyB C5) (l := C5.ks); omega
            have hh3 : ¬ (C5.ks.length : Int) < (C5.ks.countP (pinB C5) : Nat) := by have := List.countP_le_length (p := pinB C5) (l := C5.ks); omega
            have g0 : w8.cell? ⟨wr.heap.size, 0, none⟩ = some (.int .i64 _) := R8.out.cell 0
            have g2 : w8.cell? ⟨w5.heap.size, 2, none⟩ = some (.int .i64 _) := X8.out.cell 2
            clear hb7 hb8 hb78 k7 k8 H7 K H O I R X
            generalize C5.ks.countP (dirtyB C5) = nd at hh2 ⊢
            generalize C5.ks.countP (pinB C5) = np at hh3 ⊢
            generalize C5.ks.length = nk at hh1 hh2 hh3 ⊢
            go_wp2_with fail
            exact ⟨⟨i + 1, colc, C5, _, _, N + 70, hlt, by go_num, K8, H8, O8, I8, Lib.hid ⟨PN.out, by have := QN.out; omega⟩⟩, by simp [intOf]; omega⟩
          · have PN := Lib.hid (P5.out.2.1 (fun e => hE e.2))
            have hEb : (E == 0) = false := by simp [hE]
            clear P5
            go_upto_region 22 with (refine wpL_storeRow rfl _ _ _ rfl (cs := [.slice v5 N5 c5, .bool is, .int .i64 _]) rfl rfl (Row.new _ _ _) (by kernel_rfl) rfl rfl ?_; intro w6 hg6 hr6; have hb6 : Below w5.heap.size w5 w6 := below_grown ((Below.refl _ _).alloc (Nat.le_refl _) _) hg6 (Nat.le_refl _) (by simp); have R := Lib.hid (R5.out.after hb6); have X := Lib.hid hr6; have e0 : w6.cell? ⟨wr.heap.size, 0, none⟩ = some (.int .i64 _) := (R5.out.after hb6).cell 0; have e1 : w6.cell? ⟨wr.heap.size, 1, none⟩ = some (.int .i64 _) := (R5.out.after hb6).cell 1; have e2 : w6.cell? ⟨wr.heap.size, 2, none⟩ = some (.slice aB nB cB) := (R5.out.after hb6).cell 2; have f0 : w6.cell? ⟨w5.heap.size, 0, none⟩ = some (.slice v5 N5 c5) := hr6.cell 0; have f2 : w6.cell? ⟨w5.heap.size, 2, none⟩ = some (.int .i64 _) := hr6.cell 2; have k6 := St.fresh hb6 (fun _ => False) col5; have K := Lib.hid (K5.out.down hb6); have O := Lib.hid (O5.out.st k6 (fun h => h)); have I := Lib.hid (I5.out.st k6 (fun h => h)); have H := Lib.hid (H5.out.st k6 (fun h => h) (fun h => h) (fun h => h)); have B6 := Lib.hid (B5.out.st k6 (fun h => h)); clear hg6 hr6 hb6 k6 K5 O5 I5 H5 B5 R5)
            go_upto_region 26 with fail
            obtain ⟨colc, hcolc⟩ : ∃ x, x = col5 := ⟨_, rfl⟩
            rw [← hcolc] at K O I H
            clear hcolc e0 e1 e2 f0 f2
            have q0 := later_cell (show (w6).cell? ⟨wr.heap.size, 0, none⟩ = some (.int .i64 _) from R.out.cell 0)
            have q1 := later_cell (show (w6).cell? ⟨w5.heap.size, 2, none⟩ = some (.int .i64 _) from X.out.cell 2)
            try go_frame
            refine wp_region_idx Rb Rb_refl Rb_trans [(0,0),(0,1),(0,2),(0,3),(0,4),(0,5),(0,6),(0,7),(0,8),(0,9),(0,10),(0,11),(0,12),(0,13),(0,14),(0,15),(1,16),(0,17),(0,18)] (by kernel_rfl) (by kernel_rfl) (by kernel_rfl) ?_
            simp only [pickO, List.getD_cons_succ, List.getD_cons_zero]
            refine wpCan_seg 16 (by kernel_rfl) ?_
            simp only [List.take_succ_cons, List.take_zero, List.drop_succ_cons, List.drop_zero, List.map_cons, List.map_nil]
            iterate 16 (go_big_quiet_step (fail))
            refine wpQuiet_nil ?_
            clear q0 q1
            refine wpCan_list (k := 0) (fun KK hK => ?_) (fun _ => Rb_refl _)
            go_wp2_with fail
            refine hK _ _ (fun _ => Rb_refl _) ?_
            clear hK KK
            refine wpCan_seg 2 (by kernel_rfl) ?_
            simp only [List.take_succ_cons, List.take_zero, List.drop_succ_cons, List.drop_zero, List.map_cons, List.map_nil]
            iterate 2 (go_big_quiet_step (fail))
            refine wpQuiet_nil ?_
            unfold wpCan
            obtain ⟨w7, hw7⟩ : ∃ x, x = (w6).drew := ⟨_, rfl⟩
            rw [← hw7]
            have hb7 : Below (w6).heap.size w6 w7 := by rw [hw7]; exact (Below.refl _ _).drew
            clear hw7
            have k7 := St.fresh hb7 (fun _ => False) colc
            have H7 := Lib.hid (H.out.st k7 (fun h => h) (fun h => h) (fun h => h))
            go_wp2_with fail
            refine (held_q 5 1 colc b bd C5 n (N + 70) w7 H7.out PN.out.live (by have := QN.out; omega) n15 (by omega)).mono ?_
            rintro e w8 ⟨rfl, hb8⟩
            have hb78 : Below (w6).heap.size w6 w8 := hb7.trans (hb8.mono hb7.size)
            have k8 := St.fresh hb78 (fun _ => False) colc
            have K8 := Lib.hid (K.out.down hb78)
            have H8 := Lib.hid (H.out.st k8 (fun h => h) (fun h => h) (fun h => h))
            have O8 := Lib.hid (O.out.st k8 (fun h => h))
            have I8 := Lib.hid (I.out.st k8 (fun h => h))
            have R8 := Lib.hid (R.out.after hb78)
            have X8 := Lib.hid (X.out.after hb78)
            have hh1 : ¬ (m : Int) < (C5.ks.length : Int) := by have := PN.out.live.few; have := PN.out.most; omega
            have hh2 : ¬ (C5.ks.length : Int) < (C5.ks.countP (dirtyB C5) : Nat) := by have := List.countP_le_length (p := dirtyB C5) (l := C5.ks); omega
            have hh3 : ¬ (C5.ks.length : Int) < (C5.ks.countP (pinB C5) : Nat) := by have := List.countP_le_length (p := pinB C5) (l := C5.ks); omega
            have g0 : w8.cell? ⟨wr.heap.size, 0, none⟩ = some (.int .i64 _) := R8.out.cell 0
            have g2 : w8.cell? ⟨w5.heap.size, 2, none⟩ = some (.int .i64 _) := X8.out.cell 2
            clear hb7 hb8 hb78 k7 k8 H7 K H O I R X
            generalize C5.ks.countP (dirtyB C5) = nd at hh2 ⊢
            generalize C5.ks.countP (pinB C5) = np at hh3 ⊢
            generalize C5.ks.length = nk at hh1 hh2 hh3 ⊢
            go_wp2_with fail
            exact ⟨⟨i + 1, colc, C5, _, _, N + 70, hlt, by go_num, K8, H8, O8, I8, Lib.hid ⟨PN.out, by have := QN.out; omega⟩⟩, by simp [intOf]; omega⟩
        · subst hK
          go_wp2_with (refine wpL_storeRow rfl _ _ _ rfl (cs := [.int .i64 _, .int .i64 s, .slice aB nB cB, .slice aK nK cK, .int .i64 t]) rfl rfl (Row.new _ _ _) (by kernel_rfl) rfl rfl ?_; intro w4 hg4 hr4; have e0 : w4.cell? ⟨wr.heap.size, 0, none⟩ = some (.int .i64 _) := hr4.cell 0; have e1 : w4.cell? ⟨wr.heap.size, 1, none⟩ = some (.int .i64 s) := hr4.cell 1; have e2 : w4.cell? ⟨wr.heap.size, 2, none⟩ = some (.slice aB nB cB) := hr4.cell 2; have e3 : w4.cell? ⟨wr.heap.size, 3, none⟩ = some (.slice aK nK cK) := hr4.cell 3; have e4 : w4.cell? ⟨wr.heap.size, 4, none⟩ = some (.int .i64 t) := hr4.cell 4; have hb4 : Below wr.heap.size wr w4 := below_grown ((Below.refl _ _).alloc (Nat.le_refl _) _) hg4 (Nat.le_refl _) (by simp); have HR4 := Lib.hid hr4; clear hg4 hr4 hc0 hc1 hc2 hc3 hc4)
          obtain ⟨col4, hcol4⟩ : ∃ x, x = recol col wr.heap.size 7 := ⟨_, rfl⟩
          have K4 : Hid (St NZ col0 w col4 w4) := Lib.hid (by rw [hcol4]; exact K.out.trans (St.new hb4 NZ col 7))
          have H4 : Hid (CkAt 5 1 col4 w4 b bd C) := Lib.hid (by rw [hcol4]; exact H.out.st (St.new hb4 (fun _ => False) col 7) (fun h => h) (fun h => h) (fun h => h))
          have O4 : Hid (OwnC col4 w4 8 1 (.slice (some ⟨g3, o3, none⟩) n n) n us) := Lib.hid (by rw [hcol4]; exact O.out.st (St.new hb4 (fun _ => False) col 7) (fun h => h))
          have I4 : Hid (Imms col4 w4 us Lw) := Lib.hid (by rw [hcol4]; exact I.out.st (St.new hb4 (fun _ => False) col 7) (fun h => h))
          have C4 : Hid (col4 wr.heap.size = 7) := Lib.hid (by rw [hcol4]; exact recol_ge (Nat.le_refl _))
          have hg3 := O.out.1.lives g3 rfl
          have hwr := hb4.size
          clear hcol4 hb4 K H O I
          refine (does_p 5 1 col4 b bd C n N w4 _ s aB nB cB l aK nK cK t H4.out P.out.1.live (by have := P.out.2; omega) n15 (by omega) ncd7 ncd9 ncd0 (HOP.out.sb.below K4.out.below) hnB HOP.out.wf HOP.out.hi (by decide)).mono ?_
          rintro e w5 ⟨v5, N5, c5, is, E, rfl, C5, B, col5, HH⟩
          have K5 := Lib.hid (K4.out.trans (HH.out.2.2.1.mono d9nz))
          have O5 := Lib.hid (O4.out.st HH.out.2.2.1 nd98)
          have I5 := Lib.hid (I4.out.st HH.out.2.2.1 nd90)
          have R5 := Lib.hid (HR4.out.mods HH.out.2.2.1.mods (by rw [C4.out]; exact nd97))
          have H5 := Lib.hid HH.out.2.2.2.1
          have B5 := Lib.hid HH.out.2.2.2.2
          have P5 := Lib.hid (OpR.kp P.out.1 (by have := HM.out; omega) HH.out.2.1)
          have HN5 := Lib.hid HH.out.1
          have HG3 : Hid (g3 < wr.heap.size ∧ g3 < w5.heap.size) := Lib.hid ⟨hg3, O5.out.1.lives g3 rfl⟩
          have QN := Lib.hid P.out.2
          clear HH K4 H4 O4 I4 C4 HR4 P e0 e1 e2 e3 e4 hg3 hwr
          have PN := Lib.hid (P5.out.2.1 (fun e => absurd e.1 (by decide)))
          clear P5
          go_upto_region 22 with (refine wpL_storeRow rfl _ _ _ rfl (cs := [.slice v5 N5 c5, .bool is, .int .i64 _]) rfl rfl (Row.new _ _ _) (by kernel_rfl) rfl rfl ?_; intro w6 hg6 hr6; have hb6 : Below w5.heap.size w5 w6 := below_grown ((Below.refl _ _).alloc (Nat.le_refl _) _) hg6 (Nat.le_refl _) (by simp); have R := Lib.hid (R5.out.after hb6); have X := Lib.hid hr6; have e0 : w6.cell? ⟨wr.heap.size, 0, none⟩ = some (.int .i64 _) := (R5.out.after hb6).cell 0; have e1 : w6.cell? ⟨wr.heap.size, 1, none⟩ = some (.int .i64 _) := (R5.out.after hb6).cell 1; have e2 : w6.cell? ⟨wr.heap.size, 2, none⟩ = some (.slice aB nB cB) := (R5.out.after hb6).cell 2; have f0 : w6.cell? ⟨w5.heap.size, 0, none⟩ = some (.slice v5 N5 c5) := hr6.cell 0; have f2 : w6.cell? ⟨w5.heap.size, 2, none⟩ = some (.int .i64 _) := hr6.cell 2; have k6 := St.fresh hb6 (fun _ => False) col5; have K := Lib.hid (K5.out.down hb6); have O := Lib.hid (O5.out.st k6 (fun h => h)); have I := Lib.hid (I5.out.st k6 (fun h => h)); have H := Lib.hid (H5.out.st k6 (fun h => h) (fun h => h) (fun h => h)); have B6 := Lib.hid (B5.out.st k6 (fun h => h)); clear hg6 hr6 hb6 k6 K5 O5 I5 H5 B5 R5)
          go_upto_region 26 with fail
          obtain ⟨colc, hcolc⟩ : ∃ x, x = col5 := ⟨_, rfl⟩
          rw [← hcolc] at K O I H
          clear hcolc e0 e1 e2 f0 f2
          have q0 := later_cell (show (w6).cell? ⟨wr.heap.size, 0, none⟩ = some (.int .i64 _) from R.out.cell 0)
          have q1 := later_cell (show (w6).cell? ⟨w5.heap.size, 2, none⟩ = some (.int .i64 _) from X.out.cell 2)
          try go_frame
          refine wp_region_idx Rb Rb_refl Rb_trans [(0,0),(0,1),(0,2),(0,3),(0,4),(0,5),(0,6),(0,7),(0,8),(0,9),(0,10),(0,11),(0,12),(0,13),(0,14),(0,15),(1,16),(0,17),(0,18)] (by kernel_rfl) (by kernel_rfl) (by kernel_rfl) ?_
          simp only [pickO, List.getD_cons_succ, List.getD_cons_zero]
          refine wpCan_seg 16 (by kernel_rfl) ?_
          simp only [List.take_succ_cons, List.take_zero, List.drop_succ_cons, List.drop_zero, List.map_cons, List.map_nil]
          iterate 16 (go_big_quiet_step (fail))
          refine wpQuiet_nil ?_
          clear q0 q1
          refine wpCan_list (k := 0) (fun KK hK => ?_) (fun _ => Rb_refl _)
          go_wp2_with fail
          refine hK _ _ (fun _ => Rb_refl _) ?_
          clear hK KK
          refine wpCan_seg 2 (by kernel_rfl) ?_
          simp only [List.take_succ_cons, List.take_zero, List.drop_succ_cons, List.drop_zero, List.map_cons, List.map_nil]
          iterate 2 (go_big_quiet_step (fail))
          refine wpQuiet_nil ?_
          unfold wpCan
          obtain ⟨w7, hw7⟩ : ∃ x, x = (w6).drew := ⟨_, rfl⟩
          rw [← hw7]
          have hb7 : Below (w6).heap.size w6 w7 := by rw [hw7]; exact (Below.refl _ _).drew
          clear hw7
          have k7 := St.fresh hb7 (fun _ => False) colc
          have H7 := Lib.hid (H.out.st k7 (fun h => h) (fun h => h) (fun h => h))
          go_wp2_with fail
          refine (held_q 5 1 colc b bd C5 n (N + 70) w7 H7.out PN.out.live (by have := QN.out; omega) n15 (by omega)).mono ?_
          rintro e w8 ⟨rfl, hb8⟩
          have hb78 : Below (w6).heap.size w6 w8 := hb7.trans (hb8.mono hb7.size)
          have k8 := St.fresh hb78 (fun _ => False) colc
          have K8 := Lib.hid (K.out.down hb78)
          have H8 := Lib.hid (H.out.st k8 (fun h => h) (fun h => h) (fun h => h))
          have O8 := Lib.hid (O.out.st k8 (fun h => h))
          have I8 := Lib.hid (I.out.st k8 (fun h => h))
          have R8 := Lib.hid (R.out.after hb78)
          have X8 := Lib.hid (X.out.after hb78)
          have hh1 : ¬ (m : Int) < (C5.ks.length : Int) := by have := PN.out.live.few; have := PN.out.most; omega
          have hh2 : ¬ (C5.ks.length : Int) < (C5.ks.countP (dirtyB C5) : Nat) := by have := List.countP_le_length (p := dirtyB C5) (l := C5.ks); omega
          have hh3 : ¬ (C5.ks.length : Int) < (C5.ks.countP (pinB C5) : Nat) := by have := List.countP_le_length (p := pinB C5) (l := C5.ks); omega
          have g0 : w8.cell? ⟨wr.heap.size, 0, none⟩ = some (.int .i64 _) := R8.out.cell 0
          have g2 : w8.cell? ⟨w5.heap.size, 2, none⟩ = some (.int .i64 _) := X8.out.cell 2
          clear hb7 hb8 hb78 k7 k8 H7 K H O I R X
          generalize C5.ks.countP (dirtyB C5) = nd at hh2 ⊢
          generalize C5.ks.countP (pinB C5) = np at hh3 ⊢
          generalize C5.ks.length = nk at hh1 hh2 hh3 ⊢
          go_wp2_with fail
          exact ⟨⟨i + 1, colc, C5, _, _, N + 70, hlt, by go_num, K8, H8, O8, I8, Lib.hid ⟨PN.out, by have := QN.out; omega⟩⟩, by simp [intOf]; omega⟩
        · subst hK
          go_wp2_with (refine wpL_storeRow rfl _ _ _ rfl (cs := [.int .i64 _, .int .i64 s, .slice aB nB cB, .slice aK nK cK, .int .i64 t]) rfl rfl (Row.new _ _ _) (by kernel_rfl) rfl rfl ?_; intro w4 hg4 hr4; have e0 : w4.cell? ⟨wr.heap.size, 0, none⟩ = some (.int .i64 _) := hr4.cell 0; have e1 : w4.cell? ⟨wr.heap.size, 1, none⟩ = some (.int .i64 s) := hr4.cell 1; have e2 : w4.cell? ⟨wr.heap.size, 2, none⟩ = some (.slice aB nB cB) := hr4.cell 2; have e3 : w4.cell? ⟨wr.heap.size, 3, none⟩ = some (.slice aK nK cK) := hr4.cell 3; have e4 : w4.cell? ⟨wr.heap.size, 4, none⟩ = some (.int .i64 t) := hr4.cell 4; have hb4 : Below wr.heap.size wr w4 := below_grown ((Below.refl _ _).alloc (Nat.le_refl _) _) hg4 (Nat.le_refl _) (by simp); have HR4 := Lib.hid hr4; clear hg4 hr4 hc0 hc1 hc2 hc3 hc4)
          obtain ⟨col4, hcol4⟩ : ∃ x, x = recol col wr.heap.size 7 := ⟨_, rfl⟩
          have K4 : Hid (St NZ col0 w col4 w4) := Lib.hid (by rw [hcol4]; exact K.out.trans (St.new hb4 NZ col 7))
          have H4 : Hid (CkAt 5 1 col4 w4 b bd C) := Lib.hid (by rw [hcol4]; exact H.out.st (St.new hb4 (fun _ => False) col 7) (fun h => h) (fun h => h) (fun h => h))
          have O4 : Hid (OwnC col4 w4 8 1 (.slice (some ⟨g3, o3, none⟩) n n) n us) := Lib.hid (by rw [hcol4]; exact O.out.st (St.new hb4 (fun _ => False) col 7) (fun h => h))
          have I4 : Hid (Imms col4 w4 us Lw) := Lib.hid (by rw [hcol4]; exact I.out.st (St.new hb4 (fun _ => False) col 7) (fun h => h))
          have C4 : Hid (col4 wr.heap.size = 7) := Lib.hid (by rw [hcol4]; exact recol_ge (Nat.le_refl _))
          have hg3 := O.out.1.lives g3 rfl
          have hwr := hb4.size
          clear hcol4 hb4 K H O I
          refine (does_p 5 1 col4 b bd C n N w4 _ s aB nB cB l aK nK cK t H4.out P.out.1.live (by have := P.out.2; omega) n15 (by omega) ncd7 ncd9 ncd0 (HOP.out.sb.below K4.out.below) hnB HOP.out.wf HOP.out.hi (by decide)).mono ?_
          rintro e w5 ⟨v5, N5, c5, is, E, rfl, C5, B, col5, HH⟩
          have K5 := Lib.hid (K4.out.trans (HH.out.2.2.1.mono d9nz))
          have O5 := Lib.hid (O4.out.st HH.out.2.2.1 nd98)
          have I5 := Lib.hid (I4.out.st HH.out.2.2.1 nd90)
          have R5 := Lib.hid (HR4.out.mods HH.out.2.2.1.mods (by rw [C4.out]; exact nd97))
          have H5 := Lib.hid HH.out.2.2.2.1
          have B5 := Lib.hid HH.out.2.2.2.2
          have P5 := Lib.hid (OpR.kp P.out.1 (by have := HM.out; omega) HH.out.2.1)
          have HN5 := Lib.hid HH.out.1
          have HG3 : Hid (g3 < wr.heap.size ∧ g3 < w5.heap.size) := Lib.hid ⟨hg3, O5.out.1.lives g3 rfl⟩
          have QN := Lib.hid P.out.2
          clear HH K4 H4 O4 I4 C4 HR4 P e0 e1 e2 e3 e4 hg3 hwr
          have PN := Lib.hid (P5.out.2.1 (fun e => absurd e.1 (by decide)))
          clear P5
          go_upto_region 22 with (refine wpL_storeRow rfl _ _ _ rfl (cs := [.slice v5 N5 c5, .bool is, .int .i64 _]) rfl rfl (Row.new _ _ _) (by kernel_rfl) rfl rfl ?_; intro w6 hg6 hr6; have hb6 : Below w5.heap.size w5 w6 := below_grown ((Below.refl _ _).alloc (Nat.le_refl _) _) hg6 (Nat.le_refl _) (by simp); have R := Lib.hid (R5.out.after hb6); have X := Lib.hid hr6; have e0 : w6.cell? ⟨wr.heap.size, 0, none⟩ = some (.int .i64 _) := (R5.out.after hb6).cell 0; have e1 : w6.cell? ⟨wr.heap.size, 1, none⟩ = some (.int .i64 _) := (R5.out.after hb6).cell 1; have e2 : w6.cell? ⟨wr.heap.size, 2, none⟩ = some (.slice aB nB cB) := (R5.out.after hb6).cell 2; have f0 : w6.cell? ⟨w5.heap.size, 0, none⟩ = some (.slice v5 N5 c5) := hr6.cell 0; have f2 : w6.cell? ⟨w5.heap.size, 2, none⟩ = some (.int .i64 _) := hr6.cell 2; have k6 := St.fresh hb6 (fun _ => False) col5; have K := Lib.hid (K5.out.down hb6); have O := Lib.hid (O5.out.st k6 (fun h => h)); have I := Lib.hid (I5.out.st k6 (fun h => h)); have H := Lib.hid (H5.out.st k6 (fun h => h) (fun h => h) (fun h => h)); have B6 := Lib.hid (B5.out.st k6 (fun h => h)); clear hg6 hr6 hb6 k6 K5 O5 I5 H5 B5 R5)
          go_upto_region 26 with fail
          obtain ⟨colc, hcolc⟩ : ∃ x, x = col5 := ⟨_, rfl⟩
          rw [← hcolc] at K O I H
          clear hcolc e0 e1 e2 f0 f2
          have q0 := later_cell (show (w6).cell? ⟨wr.heap.size, 0, none⟩ = some (.int .i64 _) from R.out.cell 0)
          have q1 := later_cell (show (w6).cell? ⟨w5.heap.size, 2, none⟩ = some (.int .i64 _) from X.out.cell 2)
          try go_frame
          refine wp_region_idx Rb Rb_refl Rb_trans [(0,0),(0,1),(0,2),(0,3),(0,4),(0,5),(0,6),(0,7),(0,8),(0,9),(0,10),(0,11),(0,12),(0,13),(0,14),(0,15),(1,16),(0,17),(0,18)] (by kernel_rfl) (by kernel_rfl) (by kernel_rfl) ?_
          simp only [pickO, List.getD_cons_succ, List.getD_cons_zero]
          refine wpCan_seg 16 (by kernel_rfl) ?_
          simp only [List.take_succ_cons, List.take_zero, List.drop_succ_cons, List.drop_zero, List.map_cons, List.map_nil]
          iterate 16 (go_big_quiet_step (fail))
          refine wpQuiet_nil ?_
          clear q0 q1
          refine wpCan_list (k := 0) (fun KK hK => ?_) (fun _ => Rb_refl _)
          go_wp2_with fail
          refine hK _ _ (fun _ => Rb_refl _) ?_
          clear hK KK
          refine wpCan_seg 2 (by kernel_rfl) ?_
          simp only [List.take_succ_cons, List.take_zero, List.drop_succ_cons, List.drop_zero, List.map_cons, List.map_nil]
          iterate 2 (go_big_quiet_step (fail))
          refine wpQuiet_nil ?_
          unfold wpCan
          obtain ⟨w7, hw7⟩ : ∃ x, x = (w6).drew := ⟨_, rfl⟩
          rw [← hw7]
          have hb7 : Below (w6).heap.size w6 w7 := by rw [hw7]; exact (Below.refl _ _).drew
          clear hw7
          have k7 := St.fresh hb7 (fun _ => False) colc
          have H7 := Lib.hid (H.out.st k7 (fun h => h) (fun h => h) (fun h => h))
          go_wp2_with fail
          refine (held_q 5 1 colc b bd C5 n (N + 70) w7 H7.out PN.out.live (by have := QN.out; omega) n15 (by omega)).mono ?_
          rintro e w8 ⟨rfl, hb8⟩
          have hb78 : Below (w6).heap.size w6 w8 := hb7.trans (hb8.mono hb7.size)
          have k8 := St.fresh hb78 (fun _ => False) colc
          have K8 := Lib.hid (K.out.down hb78)
          have H8 := Lib.hid (H.out.st k8 (fun h => h) (fun h => h) (fun h => h))
          have O8 := Lib.hid (O.out.st k8 (fun h => h))
          have I8 := Lib.hid (I.out.st k8 (fun h => h))
          have R8 := Lib.hid (R.out.after hb78)
          have X8 := Lib.hid (X.out.after hb78)
          have hh1 : ¬ (m : Int) < (C5.ks.length : Int) := by have := PN.out.live.few; have := PN.out.most; omega
          have hh2 : ¬ (C5.ks.length : Int) < (C5.ks.countP (dirtyB C5) : Nat) := by have := List.countP_le_length (p := dirtyB C5) (l := C5.ks); omega
          have hh3 : ¬ (C5.ks.length : Int) < (C5.ks.countP (pinB C5) : Nat) := by have := List.countP_le_length (p := pinB C5) (l := C5.ks); omega
          have g0 : w8.cell? ⟨wr.heap.size, 0, none⟩ = some (.int .i64 _) := R8.out.cell 0
          have g2 : w8.cell? ⟨w5.heap.size, 2, none⟩ = some (.int .i64 _) := X8.out.cell 2
          clear hb7 hb8 hb78 k7 k8 H7 K H O I R X
          generalize C5.ks.countP (dirtyB C5) = nd at hh2 ⊢
          generalize C5.ks.countP (pinB C5) = np at hh3 ⊢
          generalize C5.ks.length = nk at hh1 hh2 hh3 ⊢
          go_wp2_with fail
          exact ⟨⟨i + 1, colc, C5, _, _, N + 70, hlt, by go_num, K8, H8, O8, I8, Lib.hid ⟨PN.out, by have := QN.out; omega⟩⟩, by simp [intOf]; omega⟩
        · subst hK
          go_wp2_with (refine wpL_storeRow rfl _ _ _ rfl (cs := [.int .i64 _, .int .i64 s, .slice aB nB cB, .slice aK nK cK, .int .i64 t]) rfl rfl (Row.new _ _ _) (by kernel_rfl) rfl rfl ?_; intro w4 hg4 hr4; have e0 : w4.cell? ⟨wr.heap.size, 0, none⟩ = some (.int .i64 _) := hr4.cell 0; have e1 : w4.cell? ⟨wr.heap.size, 1, none⟩ = some (.int .i64 s) := hr4.cell 1; have e2 : w4.cell? ⟨wr.heap.size, 2, none⟩ = some (.slice aB nB cB) := hr4.cell 2; have e3 : w4.cell? ⟨wr.heap.size, 3, none⟩ = some (.slice aK nK cK) := hr4.cell 3; have e4 : w4.cell? ⟨wr.heap.size, 4, none⟩ = some (.int .i64 t) := hr4.cell 4; have hb4 : Below wr.heap.size wr w4 := below_grown ((Below.refl _ _).alloc (Nat.le_refl _) _) hg4 (Nat.le_refl _) (by simp); have HR4 := Lib.hid hr4; clear hg4 hr4 hc0 hc1 hc2 hc3 hc4)
          obtain ⟨col4, hcol4⟩ : ∃ x, x = recol col wr.heap.size 7 := ⟨_, rfl⟩
          have K4 : Hid (St NZ col0 w col4 w4) := Lib.hid (by rw [hcol4]; exact K.out.trans (St.new hb4 NZ col 7))
          have H4 : Hid (CkAt 5 1 col4 w4 b bd C) := Lib.hid (by rw [hcol4]; exact H.out.st (St.new hb4 (fun _ => False) col 7) (fun h => h) (fun h => h) (fun h => h))
          have O4 : Hid (OwnC col4 w4 8 1 (.slice (some ⟨g3, o3, none⟩) n n) n us) := Lib.hid (by rw [hcol4]; exact O.out.st (St.new hb4 (fun _ => False) col 7) (fun h => h))
          have I4 : Hid (Imms col4 w4 us Lw) := Lib.hid (by rw [hcol4]; exact I.out.st (St.new hb4 (fun _ => False) col 7) (fun h => h))
          have C4 : Hid (col4 wr.heap.size = 7) := Lib.hid (by rw [hcol4]; exact recol_ge (Nat.le_refl _))
          have hg3 := O.out.1.lives g3 rfl
          have hwr := hb4.size
          clear hcol4 hb4 K H O I
          refine (does_p 5 1 col4 b bd C n N w4 _ s aB nB cB l aK nK cK t H4.out P.out.1.live (by have := P.out.2; omega) n15 (by omega) ncd7 ncd9 ncd0 (HOP.out.sb.below K4.out.below) hnB HOP.out.wf HOP.out.hi (by decide)).mono ?_
          rintro e w5 ⟨v5, N5, c5, is, E, rfl, C5, B, col5, HH⟩
          have K5 := Lib.hid (K4.out.trans (HH.out.2.2.1.mono d9nz))
          have O5 := Lib.hid (O4.out.st HH.out.2.2.1 nd98)
          have I5 := Lib.hid (I4.out.st HH.out.2.2.1 nd90)
          have R5 := Lib.hid (HR4.out.mods HH.out.2.2.1.mods (by rw [C4.out]; exact nd97))
          have H5 := Lib.hid HH.out.2.2.2.1
          have B5 := Lib.hid HH.out.2.2.2.2
          have P5 := Lib.hid (OpR.kp P.out.1 (by have := HM.out; omega) HH.out.2.1)
          have HN5 := Lib.hid HH.out.1
          have HG3 : Hid (g3 < wr.heap.size ∧ g3 < w5.heap.size) := Lib.hid ⟨hg3, O5.out.1.lives g3 rfl⟩
          have QN := Lib.hid P.out.2
          clear HH K4 H4 O4 I4 C4 HR4 P e0 e1 e2 e3 e4 hg3 hwr
          have PN := Lib.hid (P5.out.2.1 (fun e => absurd e.1 (by decide)))
          clear P5
          go_upto_region 22 with (refine wpL_storeRow rfl _ _ _ rfl (cs := [.slice v5 N5 c5, .bool is, .int .i64 _]) rfl rfl (Row.new _ _ _) (by kernel_rfl) rfl rfl ?_; intro w6 hg6 hr6; have hb6 : Below w5.heap.size w5 w6 := below_grown ((Below.refl _ _).alloc (Nat.le_refl _) _) hg6 (Nat.le_refl _) (by simp); have R := Lib.hid (R5.out.after hb6); have X := Lib.hid hr6; have e0 : w6.cell? ⟨wr.heap.size, 0, none⟩ = some (.int .i64 _) := (R5.out.after hb6).cell 0; have e1 : w6.cell? ⟨wr.heap.size, 1, none⟩ = some (.int .i64 _) := (R5.out.after hb6).cell 1; have e2 : w6.cell? ⟨wr.heap.size, 2, none⟩ = some (.slice aB nB cB) := (R5.out.after hb6).cell 2; have f0 : w6.cell? ⟨w5.heap.size, 0, none⟩ = some (.slice v5 N5 c5) := hr6.cell 0; have f2 : w6.cell? ⟨w5.heap.size, 2, none⟩ = some (.int .i64 _) := hr6.cell 2; have k6 := St.fresh hb6 (fun _ => False) col5; have K := Lib.hid (K5.out.down hb6); have O := Lib.hid (O5.out.st k6 (fun h => h)); have I := Lib.hid (I5.out.st k6 (fun h => h)); have H := Lib.hid (H5.out.st k6 (fun h => h) (fun h => h) (fun h => h)); have B6 := Lib.hid (B5.out.st k6 (fun h => h)); clear hg6 hr6 hb6 k6 K5 O5 I5 H5 B5 R5)
          go_upto_region 26 with fail
          obtain ⟨colc, hcolc⟩ : ∃ x, x = col5 := ⟨_, rfl⟩
          rw [← hcolc] at K O I H
          clear hcolc e0 e1 e2 f0 f2
          have q0 := later_cell (show (w6).cell? ⟨wr.heap.size, 0, none⟩ = some (.int .i64 _) from R.out.cell 0)
          have q1 := later_cell (show (w6).cell? ⟨w5.heap.size, 2, none⟩ = some (.int .i64 _) from X.out.cell 2)
          try go_frame
          refine wp_region_idx Rb Rb_refl Rb_trans [(0,0),(0,1),(0,2),(0,3),(0,4),(0,5),(0,6),(0,7),(0,8),(0,9),(0,10),(0,11),(0,12),(0,13),(0,14),(0,15),(1,16),(0,17),(0,18)] (by kernel_rfl) (by kernel_rfl) (by kernel_rfl) ?_
          simp only [pickO, List.getD_cons_succ, List.getD_cons_zero]
          refine wpCan_seg 16 (by kernel_rfl) ?_
          simp only [List.take_succ_cons, List.take_zero, List.drop_succ_cons, List.drop_zero, List.map_cons, List.map_nil]
          iterate 16 (go_big_quiet_step (fail))
          refine wpQuiet_nil ?_
          clear q0 q1
          refine wpCan_list (k := 0) (fun KK hK => ?_) (fun _ => Rb_refl _)
          go_wp2_with fail
          refine hK _ _ (fun _ => Rb_refl _) ?_
          clear hK KK
          refine wpCan_seg 2 (by kernel_rfl) ?_
          simp only [List.take_succ_cons, List.take_zero, List.drop_succ_cons, List.drop_zero, List.map_cons, List.map_nil]
          iterate 2 (go_big_quiet_step (fail))
          refine wpQuiet_nil ?_
          unfold wpCan
          obtain ⟨w7, hw7⟩ : ∃ x, x = (w6).drew := ⟨_, rfl⟩
          rw [← hw7]
          have hb7 : Below (w6).heap.size w6 w7 := by rw [hw7]; exact (Below.refl _ _).drew
          clear hw7
          have k7 := St.fresh hb7 (fun _ => False) colc
          have H7 := Lib.hid (H.out.st k7 (fun h => h) (fun h => h) (fun h => h))
          go_wp2_with fail
          refine (held_q 5 1 colc b bd C5 n (N + 70) w7 H7.out PN.out.live (by have := QN.out; omega) n15 (by omega)).mono ?_
          rintro e w8 ⟨rfl, hb8⟩
          have hb78 : Below (w6).heap.size w6 w8 := hb7.trans (hb8.mono hb7.size)
          have k8 := St.fresh hb78 (fun _ => False) colc
          have K8 := Lib.hid (K.out.down hb78)
          have H8 := Lib.hid (H.out.st k8 (fun h => h) (fun h => h) (fun h => h))
          have O8 := Lib.hid (O.out.st k8 (fun h => h))
          have I8 := Lib.hid (I.out.st k8 (fun h => h))
          have R8 := Lib.hid (R.out.after hb78)
          have X8 := Lib.hid (X.out.after hb78)
          have hh1 : ¬ (m : Int) < (C5.ks.length : Int) := by have := PN.out.live.few; have := PN.out.most; omega
          have hh2 : ¬ (C5.ks.length : Int) < (C5.ks.countP (dirtyB C5) : Nat) := by have := List.countP_le_length (p := dirtyB C5) (l := C5.ks); omega
          have hh3 : ¬ (C5.ks.length : Int) < (C5.ks.countP (pinB C5) : Nat) := by have := List.countP_le_length (p := pinB C5) (l := C5.ks); omega
          have g0 : w8.cell? ⟨wr.heap.size, 0, none⟩ = some (.int .i64 _) := R8.out.cell 0
          have g2 : w8.cell? ⟨w5.heap.size, 2, none⟩ = some (.int .i64 _) := X8.out.cell 2
          clear hb7 hb8 hb78 k7 k8 H7 K H O I R X
          generalize C5.ks.countP (dirtyB C5) = nd at hh2 ⊢
          generalize C5.ks.countP (pinB C5) = np at hh3 ⊢
          generalize C5.ks.length = nk at hh1 hh2 hh3 ⊢
          go_wp2_with fail
          exact ⟨⟨i + 1, colc, C5, _, _, N + 70, hlt, by go_num, K8, H8, O8, I8, Lib.hid ⟨PN.out, by have := QN.out; omega⟩⟩, by simp [intOf]; omega⟩
        · subst hK
          go_wp2_with (refine wpL_storeRow rfl _ _ _ rfl (cs := [.int .i64 _, .int .i64 s, .slice aB nB cB, .slice aK nK cK, .int .i64 t]) rfl rfl (Row.new _ _ _) (by kernel_rfl) rfl rfl ?_; intro w4 hg4 hr4; have e0 : w4.cell? ⟨wr.heap.size, 0, none⟩ = some (.int .i64 _) := hr4.cell 0; have e1 : w4.cell? ⟨wr.heap.size, 1, none⟩ = some (.int .i64 s) := hr4.cell 1; have e2 : w4.cell? ⟨wr.heap.size, 2, none⟩ = some (.slice aB nB cB) := hr4.cell 2; have e3 : w4.cell? ⟨wr.heap.size, 3, none⟩ = some (.slice aK nK cK) := hr4.cell 3; have e4 : w4.cell? ⟨wr.heap.size, 4, none⟩ = some (.int .i64 t) := hr4.cell 4; have hb4 : Below wr.heap.size wr w4 := below_grown ((Below.refl _ _).alloc (Nat.le_refl _) _) hg4 (Nat.le_refl _) (by simp); have HR4 := Lib.hid hr4; clear hg4 hr4 hc0 hc1 hc2 hc3 hc4)
          exact ⟨⟨i + 1, col, C, Lw, us, N, hlt, by go_num, Lib.hid (K.out.down hb4), Lib.hid (H.out.st (St.fresh hb4 (fun _ => False) col) (fun h => h) (fun h => h) (fun h => h)), Lib.hid (O.out.st (St.fresh hb4 (fun _ => False) col) (fun h => h)), Lib.hid (I.out.st (St.fresh hb4 (fun _ => False) col) (fun h => h)), Lib.hid ⟨P.out.1, by have := P.out.2; omega⟩⟩, by simp [intOf]; omega⟩
        · subst hK
          go_wp2_with (refine wpL_storeRow rfl _ _ _ rfl (cs := [.int .i64 _, .int .i64 s, .slice aB nB cB, .slice aK nK cK, .int .i64 t]) rfl rfl (Row.new _ _ _) (by kernel_rfl) rfl rfl ?_; intro w4 hg4 hr4; have e0 : w4.cell? ⟨wr.heap.size, 0, none⟩ = some (.int .i64 _) := hr4.cell 0; have e1 : w4.cell? ⟨wr.heap.size, 1, none⟩ = some (.int .i64 s) := hr4.cell 1; have e2 : w4.cell? ⟨wr.heap.size, 2, none⟩ = some (.slice aB nB cB) := hr4.cell 2; have e3 : w4.cell? ⟨wr.heap.size, 3, none⟩ = some (.slice aK nK cK) := hr4.cell 3; have e4 : w4.cell? ⟨wr.heap.size, 4, none⟩ = some (.int .i64 t) := hr4.cell 4; have hb4 : Below wr.heap.size wr w4 := below_grown ((Below.refl _ _).alloc (Nat.le_refl _) _) hg4 (Nat.le_refl _) (by simp); have HR4 := Lib.hid hr4; clear hg4 hr4 hc0 hc1 hc2 hc3 hc4)
          obtain ⟨col4, hcol4⟩ : ∃ x, x = recol col wr.heap.size 7 := ⟨_, rfl⟩
          have K4 : Hid (St NZ col0 w col4 w4) := Lib.hid (by rw [hcol4]; exact K.out.trans (St.new hb4 NZ col 7))
          have H4 : Hid (CkAt 5 1 col4 w4 b bd C) := Lib.hid (by rw [hcol4]; exact H.out.st (St.new hb4 (fun _ => False) col 7) (fun h => h) (fun h => h) (fun h => h))
          have O4 : Hid (OwnC col4 w4 8 1 (.slice (some ⟨g3, o3, none⟩) n n) n us) := Lib.hid (by rw [hcol4]; exact O.out.st (St.new hb4 (fun _ => False) col 7) (fun h => h))
          have I4 : Hid (Imms col4 w4 us Lw) := Lib.hid (by rw [hcol4]; exact I.out.st (St.new hb4 (fun _ => False) col 7) (fun h => h))
          have C4 : Hid (col4 wr.heap.size = 7) := Lib.hid (by rw [hcol4]; exact recol_ge (Nat.le_refl _))
          have hg3 := O.out.1.lives g3 rfl
          have hwr := hb4.size
          clear hcol4 hb4 K H O I
          refine (does_p 5 1 col4 b bd C n N w4 _ s aB nB cB l aK nK cK t H4.out P.out.1.live (by have := P.out.2; omega) n15 (by omega) ncd7 ncd9 ncd0 (HOP.out.sb.below K4.out.below) hnB HOP.out.wf HOP.out.hi (by decide)).mono ?_
          rintro e w5 ⟨v5, N5, c5, is, E, rfl, C5, B, col5, HH⟩
          have K5 := Lib.hid (K4.out.trans (HH.out.2.2.1.mono d9nz))
          have O5 := Lib.hid (O4.out.st HH.out.2.2.1 nd98)
          have I5 := Lib.hid (I4.out.st HH.out.2.2.1 nd90)
          have R5 := Lib.hid (HR4.out.mods HH.out.2.2.1.mods (by rw [C4.out]; exact nd97))
          have H5 := Lib.hid HH.out.2.2.2.1
          have B5 := Lib.hid HH.out.2.2.2.2
          have P5 := Lib.hid (OpR.kp P.out.1 (by have := HM.out; omega) HH.out.2.1)
          have HN5 := Lib.hid HH.out.1
          have HG3 : Hid (g3 < wr.heap.size ∧ g3 < w5.heap.size) := Lib.hid ⟨hg3, O5.out.1.lives g3 rfl⟩
          have QN := Lib.hid P.out.2
          clear HH K4 H4 O4 I4 C4 HR4 P e0 e1 e2 e3 e4 hg3 hwr
          have PN := Lib.hid (P5.out.2.1 (fun e => absurd e.1 (by decide)))
          obtain ⟨hE, hd0, hDS⟩ := P5.out.2.2.2 rfl
          subst hE
          have HDS := Lib.hid hDS
          have HD0 := Lib.hid hd0
          clear P5 hDS hd0
          go_upto_region 22 with (refine wpL_storeRow rfl _ _ _ rfl (cs := [.slice v5 N5 c5, .bool is, .int .i64 _]) rfl rfl (Row.new _ _ _) (by kernel_rfl) rfl rfl ?_; intro w6 hg6 hr6; have hb6 : Below w5.heap.size w5 w6 := below_grown ((Below.refl _ _).alloc (Nat.le_refl _) _) hg6 (Nat.le_refl _) (by simp); have R := Lib.hid (R5.out.after hb6); have X := Lib.hid hr6; have e0 : w6.cell? ⟨wr.heap.size, 0, none⟩ = some (.int .i64 _) := (R5.out.after hb6).cell 0; have e1 : w6.cell? ⟨wr.heap.size, 1, none⟩ = some (.int .i64 _) := (R5.out.after hb6).cell 1; have e2 : w6.cell? ⟨wr.heap.size, 2, none⟩ = some (.slice aB nB cB) := (R5.out.after hb6).cell 2; have f0 : w6.cell? ⟨w5.heap.size, 0, none⟩ = some (.slice v5 N5 c5) := hr6.cell 0; have f2 : w6.cell? ⟨w5.heap.size, 2, none⟩ = some (.int .i64 _) := hr6.cell 2; have k6 := St.fresh hb6 (fun _ => False) col5; have K := Lib.hid (K5.out.down hb6); have O := Lib.hid (O5.out.st k6 (fun h => h)); have I := Lib.hid (I5.out.st k6 (fun h => h)); have H := Lib.hid (H5.out.st k6 (fun h => h) (fun h => h) (fun h => h)); have B6 := Lib.hid (B5.out.st k6 (fun h => h)); clear hg6 hr6 hb6 k6 K5 O5 I5 H5 B5 R5)
          go_upto_region 26 with fail
          obtain ⟨colc, hcolc⟩ : ∃ x, x = col5 := ⟨_, rfl⟩
          rw [← hcolc] at K O I H
          clear hcolc e0 e1 e2 f0 f2
          have q0 := later_cell (show (w6).cell? ⟨wr.heap.size, 0, none⟩ = some (.int .i64 _) from R.out.cell 0)
          have q1 := later_cell (show (w6).cell? ⟨w5.heap.size, 2, none⟩ = some (.int .i64 _) from X.out.cell 2)
          try go_frame
          refine wp_region_idx Rb Rb_refl Rb_trans [(0,0),(0,1),(0,2),(0,3),(0,4),(0,5),(0,6),(0,7),(0,8),(0,9),(0,10),(0,11),(0,12),(0,13),(0,14),(0,15),(1,16),(0,17),(0,18)] (by kernel_rfl) (by kernel_rfl) (by kernel_rfl) ?_
          simp only [pickO, List.getD_cons_succ, List.getD_cons_zero]
          refine wpCan_seg 16 (by kernel_rfl) ?_
          simp only [List.take_succ_cons, List.take_zero, List.drop_succ_cons, List.drop_zero, List.map_cons, List.map_nil]
          iterate 16 (go_big_quiet_step (fail))
          refine wpQuiet_nil ?_
          clear q0 q1
          refine wpCan_list (k := 0) (fun KK hK => ?_) (fun _ => Rb_refl _)
          go_wp2_with fail
          refine hK _ _ (fun _ => Rb_refl _) ?_
          clear hK KK
          refine wpCan_seg 2 (by kernel_rfl) ?_
          simp only [List.take_succ_cons, List.take_zero, List.drop_succ_cons, List.drop_zero, List.map_cons, List.map_nil]
          iterate 2 (go_big_quiet_step (fail))
          refine wpQuiet_nil ?_
          unfold wpCan
          obtain ⟨w7, hw7⟩ : ∃ x, x = (w6).drew := ⟨_, rfl⟩
          rw [← hw7]
          have hb7 : Below (w6).heap.size w6 w7 := by rw [hw7]; exact (Below.refl _ _).drew
          clear hw7
          have k7 := St.fresh hb7 (fun _ => False) colc
          have H7 := Lib.hid (H.out.st k7 (fun h => h) (fun h => h) (fun h => h))
          go_wp2_with fail
          refine (held_q 5 1 colc b bd C5 n (N + 70) w7 H7.out PN.out.live (by have := QN.out; omega) n15 (by omega)).mono ?_
          rintro e w8 ⟨rfl, hb8⟩
          have hb78 : Below (w6).heap.size w6 w8 := hb7.trans (hb8.mono hb7.size)
          have k8 := St.fresh hb78 (fun _ => False) colc
          have K8 := Lib.hid (K.out.down hb78)
          have H8 := Lib.hid (H.out.st k8 (fun h => h) (fun h => h) (fun h => h))
          have O8 := Lib.hid (O.out.st k8 (fun h => h))
          have I8 := Lib.hid (I.out.st k8 (fun h => h))
          have R8 := Lib.hid (R.out.after hb78)
          have X8 := Lib.hid (X.out.after hb78)
          have hh1 : ¬ (m : Int) < (C5.ks.length : Int) := by have := PN.out.live.few; have := PN.out.most; omega
          have hh2 : ¬ (C5.ks.length : Int) < (C5.ks.countP (dirtyB C5) : Nat) := by have := List.countP_le_length (p := dirtyB C5) (l := C5.ks); omega
          have hh3 : ¬ (C5.ks.length : Int) < (C5.ks.countP (pinB C5) : Nat) := by have := List.countP_le_length (p := pinB C5) (l := C5.ks); omega
          have g0 : w8.cell? ⟨wr.heap.size, 0, none⟩ = some (.int .i64 _) := R8.out.cell 0
          have g2 : w8.cell? ⟨w5.heap.size, 2, none⟩ = some (.int .i64 _) := X8.out.cell 2
          clear hb7 hb8 hb78 k7 k8 H7 K H O I R X
          rw [HD0.out] at hh2 ⊢
          generalize C5.ks.countP (pinB C5) = np at hh3 ⊢
          generalize C5.ks.length = nk at hh1 hh2 hh3 ⊢
          go_upto_region 32 with fail
          clear hh1 hh2 hh3 g0 g2
          go_wp2_with fail
          have HDK : Hid (∃ bm at_, CkIn 5 colc w8 b C5 bd bm at_ ∧ DkAt 62 1 colc w8 bd C5.D) := Lib.hid H8.out
          refine (image_p 1 colc bd C5.D w8 (by obtain ⟨_, _, _, h⟩ := HDK.out; exact h) (by rw [PN.out.live.D.len]; omega) (fun l hl => by have := PN.out.live.D.fits.fit.sl l hl; omega)).mono ?_
          rintro e w9 ⟨v9, us9, rfl, hi9, hb9⟩
          rw [PN.out.live.D.len] at hi9
          obtain ⟨a9, c9, rfl⟩ := hi9.own.form
          have HI9 : Hid (ImR w9 (.slice a9 n c9) C5.D.S) := Lib.hid hi9.imr
          have k9 := St.fresh hb9 (fun _ => False) colc
          have K9 := Lib.hid (K8.out.down hb9)
          have H9 := Lib.hid (H8.out.st k9 (fun h => h) (fun h => h) (fun h => h))
          have O9 := Lib.hid (O8.out.st k9 (fun h => h))
          have I9 := Lib.hid (I8.out.st k9 (fun h => h))
          have g2 : w9.cell? ⟨w5.heap.size, 2, none⟩ = some (.int .i64 0) := (X8.out.after hb9).cell 2
          clear hi9 hb9 k9 K8 H8 O8 I8 R8 X8 HDK
          have hnn : ((n : Int) != (n : Int)) = false := by simp
          go_upto_region 35 with fail
          clear g2 hnn
          go_wp2_with fail
          obtain ⟨WR, hWR⟩ : ∃ x, x = wr := ⟨_, rfl⟩
          go_loopw [21] (fun v21 w2 => ∃ k, k ≤ n ∧ v21 = .int .i64 (k : Nat) ∧ Below w9.heap.size w9 w2) (fun v21 _ => n - (intOf v21).toNat)
          case atStart => exact ⟨0, Nat.zero_le _, rfl, Below.refl _ _⟩
          case round =>
            obtain ⟨k, hk, rfl, hbk⟩ := hrel
            have kk := St.fresh hbk (fun _ => False) colc
            by_cases hkn : k = n
            · subst hkn
              go_wp2_with fail
              exact ⟨⟨i + 1, colc, C5, Lw, us, N + 70, hlt, by go_num, Lib.hid (K9.out.down hbk), Lib.hid (H9.out.st kk (fun h => h) (fun h => h) (fun h => h)), Lib.hid (O9.out.st kk (fun h => h)), Lib.hid (I9.out.st kk (fun h => h)), Lib.hid ⟨PN.out, by have := QN.out; omega⟩⟩, by simp [intOf]; omega⟩
            have hkl : k < n := by omega
            have hkl' : (k : Int) < n := by omega
            obtain ⟨ga, oa, av, cv, rfl, hca, hsa⟩ := (HI9.out.below hbk).at k hkl
            obtain ⟨vq, hvq, hmq⟩ := (I9.out.st kk (fun h => h)).get k (by rw [PN.out.len]; exact hkl)
            obtain ⟨aQ, cQ, rfl⟩ := hmq.form
            have hcq : wr.cell? ⟨g3, o3 + k, none⟩ = some (.slice aQ (Lw.getD k []).length cQ) := ((O9.out.st kk (fun h => h)).1.get k (by have := O9.out.1.1; omega)).trans hvq
            have hmq1 := hmq.1
            rw [HDS.out k hkl] at hca hsa
            have SA := Lib.hid hsa
            have SQ := Lib.hid hmq1
            clear hsa hmq1 hmq hvq
            generalize (Lw.getD k []).length = nQ at hca hcq SA SQ
            have q0 := later_cell hca
            have q1 := later_cell hcq
            go_upto_region 38 with fail
            try go_frame
            refine wp_region_idx Rb Rb_refl Rb_trans [(0,0),(0,1),(0,2),(0,3),(0,4),(0,5),(0,6),(0,7),(1,8),(0,9)] (by kernel_rfl) (by kernel_rfl) (by kernel_rfl) ?_
            simp only [pickO, List.getD_cons_succ, List.getD_cons_zero]
            refine wpCan_seg 8 (by kernel_rfl) ?_
            simp only [List.take_succ_cons, List.take_zero, List.drop_succ_cons, List.drop_zero, List.map_cons, List.map_nil]
            iterate 8 (go_big_quiet_step (fail))
            refine wpQuiet_nil ?_
            clear q0 q1 hca hcq
            refine wpCan_list (k := 0) (fun KK hK => ?_) (fun _ => Rb_refl _)
            go_wp2_with fail
            refine (same_any av nQ cv aQ nQ cQ _ _ wr.drew (SA.out.below (Below.refl _ _).drew) (SQ.out.below (Below.refl _ _).drew) true (Lib.hid (by simp))).mono ?_
            rintro e wx ⟨rfl, rfl⟩
            go_wp2_with fail
            refine hK _ _ (fun _ => Rb_refl _) ?_
            clear hK KK
            refine wpCan_seg 1 (by kernel_rfl) ?_
            simp only [List.take_succ_cons, List.take_zero, List.drop_succ_cons, List.drop_zero, List.map_cons, List.map_nil]
            iterate 1 (go_big_quiet_step (fail))
            refine wpQuiet_nil ?_
            unfold wpCan
            go_wp2_with fail
            exact ⟨⟨k + 1, hkl, by go_num, hbk.trans ((Below.refl _ _).drew.mono hbk.size)⟩, by simp [intOf]; omega⟩
        · subst hK
          go_wp2_with (refine wpL_storeRow rfl _ _ _ rfl (cs := [.int .i64 _, .int .i64 s, .slice aB nB cB, .slice aK nK cK, .int .i64 t]) rfl rfl (Row.new _ _ _) (by kernel_rfl) rfl rfl ?_; intro w4 hg4 hr4; have e0 : w4.cell? ⟨wr.heap.size, 0, none⟩ = some (.int .i64 _) := hr4.cell 0; have e1 : w4.cell? ⟨wr.heap.size, 1, none⟩ = some (.int .i64 s) := hr4.cell 1; have e2 : w4.cell? ⟨wr.heap.size, 2, none⟩ = some (.slice aB nB cB) := hr4.cell 2; have e3 : w4.cell? ⟨wr.heap.size, 3, none⟩ = some (.slice aK nK cK) := hr4.cell 3; have e4 : w4.cell? ⟨wr.heap.size, 4, none⟩ = some (.int .i64 t) := hr4.cell 4; have hb4 : Below wr.heap.size wr w4 := below_grown ((Below.refl _ _).alloc (Nat.le_refl _) _) hg4 (Nat.le_refl _) (by simp); have HR4 := Lib.hid hr4; clear hg4 hr4 hc0 hc1 hc2 hc3 hc4)
          exact ⟨⟨i + 1, col, C, Lw, us, N, hlt, by go_num, Lib.hid (K.out.down hb4), Lib.hid (H.out.st (St.fresh hb4 (fun _ => False) col) (fun h => h) (fun h => h) (fun h => h)), Lib.hid (O.out.st (St.fresh hb4 (fun _ => False) col) (fun h => h)), Lib.hid (I.out.st (St.fresh hb4 (fun _ => False) col) (fun h => h)), Lib.hid ⟨P.out.1, by have := P.out.2; omega⟩⟩, by simp [intOf]; omega⟩
        · subst hK
          go_wp2_with (refine wpL_storeRow rfl _ _ _ rfl (cs := [.int .i64 _, .int .i64 s, .slice aB nB cB, .slice aK nK cK, .int .i64 t]) rfl rfl (Row.new _ _ _) (by kernel_rfl) rfl rfl ?_; intro w4 hg4 hr4; have e0 : w4.cell? ⟨wr.heap.size, 0, none⟩ = some (.int .i64 _) := hr4.cell 0; have e1 : w4.cell? ⟨wr.heap.size, 1, none⟩ = some (.int .i64 s) := hr4.cell 1; have e2 : w4.cell? ⟨wr.heap.size, 2, none⟩ = some (.slice aB nB cB) := hr4.cell 2; have e3 : w4.cell? ⟨wr.heap.size, 3, none⟩ = some (.slice aK nK cK) := hr4.cell 3; have e4 : w4.cell? ⟨wr.heap.size, 4, none⟩ = some (.int .i64 t) := hr4.cell 4; have hb4 : Below wr.heap.size wr w4 := below_grown ((Below.refl _ _).alloc (Nat.le_refl _) _) hg4 (Nat.le_refl _) (by simp); have HR4 := Lib.hid hr4; clear hg4 hr4 hc0 hc1 hc2 hc3 hc4)
          exact ⟨⟨i + 1, col, C, Lw, us, N, hlt, by go_num, Lib.hid (K.out.down hb4), Lib.hid (H.out.st (St.fresh hb4 (fun _ => False) col) (fun h => h) (fun h => h) (fun h => h)), Lib.hid (O.out.st (St.fresh hb4 (fun _ => False) col) (fun h => h)), Lib.hid (I.out.st (St.fresh hb4 (fun _ => False) col) (fun h => h)), Lib.hid ⟨P.out.1, by have := P.out.2; omega⟩⟩, by simp [intOf]; omega⟩
        · have HKK : Hid (Kd ≠ 5 ∧ Kd ≠ 7 ∧ Kd ≠ 8) := Lib.hid ⟨n5, n7, n8⟩
          have HK1 : Hid (Kd ≠ 1) := Lib.hid n1
          have k6b : (Kd != 6) = true := by simp [n6]
          clear n0 n1 n2 n3 n4 n5 n6 n7 n8
          go_wp2_with (refine wpL_storeRow rfl _ _ _ rfl (cs := [.int .i64 _, .int .i64 s, .slice aB nB cB, .slice aK nK cK, .int .i64 t]) rfl rfl (Row.new _ _ _) (by kernel_rfl) rfl rfl ?_; intro w4 hg4 hr4; have e0 : w4.cell? ⟨wr.heap.size, 0, none⟩ = some (.int .i64 _) := hr4.cell 0; have e1 : w4.cell? ⟨wr.heap.size, 1, none⟩ = some (.int .i64 s) := hr4.cell 1; have e2 : w4.cell? ⟨wr.heap.size, 2, none⟩ = some (.slice aB nB cB) := hr4.cell 2; have e3 : w4.cell? ⟨wr.heap.size, 3, none⟩ = some (.slice aK nK cK) := hr4.cell 3; have e4 : w4.cell? ⟨wr.heap.size, 4, none⟩ = some (.int .i64 t) := hr4.cell 4; have hb4 : Below wr.heap.size wr w4 := below_grown ((Below.refl _ _).alloc (Nat.le_refl _) _) hg4 (Nat.le_refl _) (by simp); have HR4 := Lib.hid hr4; clear hg4 hr4 hc0 hc1 hc2 hc3 hc4)
          obtain ⟨col4, hcol4⟩ : ∃ x, x = recol col wr.heap.size 7 := ⟨_, rfl⟩
          have K4 : Hid (St NZ col0 w col4 w4) := Lib.hid (by rw [hcol4]; exact K.out.trans (St.new hb4 NZ col 7))
          have H4 : Hid (CkAt 5 1 col4 w4 b bd C) := Lib.hid (by rw [hcol4]; exact H.out.st (St.new hb4 (fun _ => False) col 7) (fun h => h) (fun h => h) (fun h => h))
          have O4 : Hid (OwnC col4 w4 8 1 (.slice (some ⟨g3, o3, none⟩) n n) n us) := Lib.hid (by rw [hcol4]; exact O.out.st (St.new hb4 (fun _ => False) col 7) (fun h => h))
          have I4 : Hid (Imms col4 w4 us Lw) := Lib.hid (by rw [hcol4]; exact I.out.st (St.new hb4 (fun _ => False) col 7) (fun h => h))
          have C4 : Hid (col4 wr.heap.size = 7) := Lib.hid (by rw [hcol4]; exact recol_ge (Nat.le_refl _))
          have hg3 := O.out.1.lives g3 rfl
          have hwr := hb4.size
          clear hcol4 hb4 K H O I
          refine (does_p 5 1 col4 b bd C n N w4 _ s aB nB cB l aK nK cK t H4.out P.out.1.live (by have := P.out.2; omega) n15 (by omega) ncd7 ncd9 ncd0 (HOP.out.sb.below K4.out.below) hnB HOP.out.wf HOP.out.hi HKK.out).mono ?_
          rintro e w5 ⟨v5, N5, c5, is, E, rfl, C5, B, col5, HH⟩
          have K5 := Lib.hid (K4.out.trans (HH.out.2.2.1.mono d9nz))
          have O5 := Lib.hid (O4.out.st HH.out.2.2.1 nd98)
          have I5 := Lib.hid (I4.out.st HH.out.2.2.1 nd90)
          have R5 := Lib.hid (HR4.out.mods HH.out.2.2.1.mods (by rw [C4.out]; exact nd97))
          have H5 := Lib.hid HH.out.2.2.2.1
          have B5 := Lib.hid HH.out.2.2.2.2
          have P5 := Lib.hid (OpR.kp P.out.1 (by have := HM.out; omega) HH.out.2.1)
          have HN5 := Lib.hid HH.out.1
          have HG3 : Hid (g3 < wr.heap.size ∧ g3 < w5.heap.size) := Lib.hid ⟨hg3, O5.out.1.lives g3 rfl⟩
          have QN := Lib.hid P.out.2
          clear HH K4 H4 O4 I4 C4 HR4 P e0 e1 e2 e3 e4 hg3 hwr
          have PN := Lib.hid (P5.out.2.1 (fun e => HK1.out e.1))
          clear P5
          go_upto_region 22 with (refine wpL_storeRow rfl _ _ _ rfl (cs := [.slice v5 N5 c5, .bool is, .int .i64 _]) rfl rfl (Row.new _ _ _) (by kernel_rfl) rfl rfl ?_; intro w6 hg6 hr6; have hb6 : Below w5.heap.size w5 w6 := below_grown ((Below.refl _ _).alloc (Nat.le_refl _) _) hg6 (Nat.le_refl _) (by simp); have R := Lib.hid (R5.out.after hb6); have X := Lib.hid hr6; have e0 : w6.cell? ⟨wr.heap.size, 0, none⟩ = some (.int .i64 _) := (R5.out.after hb6).cell 0; have e1 : w6.cell? ⟨wr.heap.size, 1, none⟩ = some (.int .i64 _) := (R5.out.after hb6).cell 1; have e2 : w6.cell? ⟨wr.heap.size, 2, none⟩ = some (.slice aB nB cB) := (R5.out.after hb6).cell 2; have f0 : w6.cell? ⟨w5.heap.size, 0, none⟩ = some (.slice v5 N5 c5) := hr6.cell 0; have f2 : w6.cell? ⟨w5.heap.size, 2, none⟩ = some (.int .i64 _) := hr6.cell 2; have k6 := St.fresh hb6 (fun _ => False) col5; have K := Lib.hid (K5.out.down hb6); have O := Lib.hid (O5.out.st k6 (fun h => h)); have I := Lib.hid (I5.out.st k6 (fun h => h)); have H := Lib.hid (H5.out.st k6 (fun h => h) (fun h => h) (fun h => h)); have B6 := Lib.hid (B5.out.st k6 (fun h => h)); clear hg6 hr6 hb6 k6 K5 O5 I5 H5 B5 R5)
          go_upto_region 26 with fail
          obtain ⟨colc, hcolc⟩ : ∃ x, x = col5 := ⟨_, rfl⟩
          rw [← hcolc] at K O I H
          clear hcolc e0 e1 e2 f0 f2
          have q0 := later_cell (show (w6).cell? ⟨wr.heap.size, 0, none⟩ = some (.int .i64 _) from R.out.cell 0)
          have q1 := later_cell (show (w6).cell? ⟨w5.heap.size, 2, none⟩ = some (.int .i64 _) from X.out.cell 2)
          try go_frame
          refine wp_region_idx Rb Rb_refl Rb_trans [(0,0),(0,1),(0,2),(0,3),(0,4),(0,5),(0,6),(0,7),(0,8),(0,9),(0,10),(0,11),(0,12),(0,13),(0,14),(0,15),(1,16),(0,17),(0,18)] (by kernel_rfl) (by kernel_rfl) (by kernel_rfl) ?_
          simp only [pickO, List.getD_cons_succ, List.getD_cons_zero]
          refine wpCan_seg 16 (by kernel_rfl) ?_
          simp only [List.take_succ_cons, List.take_zero, List.drop_succ_cons, List.drop_zero, List.map_cons, List.map_nil]
          iterate 16 (go_big_quiet_step (fail))
          refine wpQuiet_nil ?_
          clear q0 q1
          refine wpCan_list (k := 0) (fun KK hK => ?_) (fun _ => Rb_refl _)
          go_wp2_with fail
          refine hK _ _ (fun _ => Rb_refl _) ?_
          clear hK KK
          refine wpCan_seg 2 (by kernel_rfl) ?_
          simp only [List.take_succ_cons, List.take_zero, List.drop_succ_cons, List.drop_zero, List.map_cons, List.map_nil]
          iterate 2 (go_big_quiet_step (fail))
          refine wpQuiet_nil ?_
          unfold wpCan
          obtain ⟨w7, hw7⟩ : ∃ x, x = (w6).drew := ⟨_, rfl⟩
          rw [← hw7]
          have hb7 : Below (w6).heap.size w6 w7 := by rw [hw7]; exact (Below.refl _ _).drew
          clear hw7
          have k7 := St.fresh hb7 (fun _ => False) colc
          have H7 := Lib.hid (H.out.st k7 (fun h => h) (fun h => h) (fun h => h))
          go_wp2_with fail
          refine (held_q 5 1 colc b bd C5 n (N + 70) w7 H7.out PN.out.live (by have := QN.out; omega) n15 (by omega)).mono ?_
          rintro e w8 ⟨rfl, hb8⟩
          have hb78 : Below (w6).heap.size w6 w8 := hb7.trans (hb8.mono hb7.size)
          have k8 := St.fresh hb78 (fun _ => False) colc
          have K8 := Lib.hid (K.out.down hb78)
          have H8 := Lib.hid (H.out.st k8 (fun h => h) (fun h => h) (fun h => h))
          have O8 := Lib.hid (O.out.st k8 (fun h => h))
          have I8 := Lib.hid (I.out.st k8 (fun h => h))
          have R8 := Lib.hid (R.out.after hb78)
          have X8 := Lib.hid (X.out.after hb78)
          have hh1 : ¬ (m : Int) < (C5.ks.length : Int) := by have := PN.out.live.few; have := PN.out.most; omega
          have hh2 : ¬ (C5.ks.length : Int) < (C5.ks.countP (dirtyB C5) : Nat) := by have := List.countP_le_length (p := dirtyB C5) (l := C5.ks); omega
          have hh3 : ¬ (C5.ks.length : Int) < (C5.ks.countP (pinB C5) : Nat) := by have := List.countP_le_length (p := pinB C5) (l := C5.ks); omega
          have g0 : w8.cell? ⟨wr.heap.size, 0, none⟩ = some (.int .i64 _) := R8.out.cell 0
          have g2 : w8.cell? ⟨w5.heap.size, 2, none⟩ = some (.int .i64 _) := X8.out.cell 2
          clear hb7 hb8 hb78 k7 k8 H7 K H O I R X
          generalize C5.ks.countP (dirtyB C5) = nd at hh2 ⊢
          generalize C5.ks.countP (pinB C5) = np at hh3 ⊢
          generalize C5.ks.length = nk at hh1 hh2 hh3 ⊢
          go_wp2_with fail
          exact ⟨⟨i + 1, colc, C5, _, _, N + 70, hlt, by go_num, K8, H8, O8, I8, Lib.hid ⟨PN.out, by have := QN.out; omega⟩⟩, by simp [intOf]; omega⟩
    have hlt : i < n := by omega
    have hlt' : (i : Int) < n := by omega
    have HPN : Hid ((partL LF i).set i (fullB []) = partL LF (i + 1)) := Lib.hid (by have := partL_next LF i (by rw [P0.out.len]; exact hlt); rwa [HLF.out i hlt] at this)
    go_wp2_with fail
    refine (full_any none 0 0 [] wr (Sl.nil _ _) (by decide)).mono ?_
    rintro e w5 ⟨g5, o5, rfl, ho5, hb5⟩
    obtain ⟨col5, hcol5⟩ : ∃ x, x = recol col wr.heap.size 0 := ⟨_, rfl⟩
    have K5 : Hid (St NZ col0 w col5 w5) := Lib.hid (by rw [hcol5]; exact K.out.trans (St.new hb5 NZ col 0))
    have H5 : Hid (CkAt 5 1 col5 w5 b bd C0) := Lib.hid (by rw [hcol5]; exact H.out.st (St.new hb5 (fun _ => False) col 0) (fun h => h) (fun h => h) (fun h => h))
    have O5 : Hid (OwnC col5 w5 8 1 (.slice (some ⟨g3, o3, none⟩) n n) n us) := Lib.hid (by rw [hcol5]; exact O.out.st (St.new hb5 (fun _ => False) col 0) (fun h => h))
    have I5 : Hid (Imms col5 w5 us (partL LF i)) := Lib.hid (by rw [hcol5]; exact I.out.st (St.new hb5 (fun _ => False) col 0) (fun h => h))
    have M5 : Hid (Imm col5 w5 (.slice (some ⟨g5, o5, none⟩) 256 256) (fullB [])) := Lib.hid (by rw [hcol5]; exact Imm.own ho5)
    have husl : us.length = n := by have := O5.out.1.1; omega
    clear hcol5 ho5 hb5 K H O I
    have hob := O5.out.1
    go_wp2_with (refine wpL_storeOwn (g := 0) rfl _ _ _ rfl (v := .slice (some ⟨g5, o5, none⟩) 256 256) rfl rfl rfl rfl (by kernel_rfl) hob i rfl (by omega) ?_; intro w6 hg6 ho6; have HG6 := Lib.hid hg6; have HO6 := Lib.hid ho6; clear hg6 ho6)
    have k6 : St (fun x => x = 8) col5 w5 col5 w6 := St.one HG6.out _ _ (O5.out.2 g3 rfl)
    exact ⟨⟨i + 1, _, col5, hlt, by go_num, Lib.hid (K5.out.trans (k6.mono eight_nz)), Lib.hid (H5.out.st k6 (by decide) (by decide) (by decide)), Lib.hid ⟨HO6.out, O5.out.2⟩, Lib.hid (by rw [← HPN.out]; exact (I5.out.st k6 (by decide)).set (M5.out.st k6 (by decide)) i)⟩, by simp [intOf]; omega⟩
theorem cacheKeeps_any (x y : Int) (hx : (Lit.int .u8 x).wf = true) (hy : (Lit.int .u8 y).wf = true) (a : Option Addr) (nO c : Nat) (L : List Opr) (w : World) (hl : SlOf VOp 5 w (.slice a nO c) L) :
    Calls Try.prog 7 #[.int .u8 x, .int .u8 y, .slice a nO c] w fun e w' => e = .returned (.bool true) ∧ Below w.heap.size w w' := by
  obtain ⟨F, hF, rfl⟩ := nat_u8 hx
  obtain ⟨G, hG, rfl⟩ := nat_u8 hy
  exact cacheKeeps_walk F G hF hG a nO c L w hl
end Go.Proofs.Ytchjfmgfoifbcaa
