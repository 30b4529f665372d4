/-
  HeapCollects walked. Conditions: what is handed in reads.
-/
import Derived.Test.YtekmgffjdheifaaHpO
namespace Go.Proofs.Ytekmgffjdheifaa
open Go Go.RowKit
set_option linter.unusedVariables false
set_option linter.unusedSimpArgs false
set_option maxRecDepth 100000

theorem etBoC : ET Try.prog 54 4 (.bool false) 1 1 := ⟨Try.underlying54, by kernel_rfl, rfl, by decide⟩
theorem etIC : ET Try.prog 43 3 (.int .i64 0) 1 8 := ⟨Try.underlying43, by kernel_rfl, rfl, by decide⟩
theorem etOC : ET Try.prog 56 25 (.agg #[.int .u8 0, .int .i64 0, .slice none 0 0, .string ⟨#[]⟩]) 4 56 := ⟨Try.underlying56, by kernel_rfl, rfl, by decide⟩
theorem ints_replicate (n : Nat) : List.replicate n (Value.int .i64 0) = ints (List.replicate n 0) := by simp [ints]
theorem Pl.stc {m b c : Nat} {w0 : World} {H : List Th} {n : Nat} {col : Nat → Nat} {w w' : World} (h : Pl m b w0 H n col w) (k : St (fun y => y = c) col w col w') (hc : ¬ HQ c) (h0 : c ≠ 0) : Pl m b w0 H n col w' :=
  ⟨h.K.trans (k.mono (fun x hx => by rw [hx]; exact h0)), h.A.st k (hq_ne hc), h.L⟩
theorem nqc {c : Nat} (h : c < 100 ∧ c ≠ 5) : ¬ HQ c := fun q => by rcases q with q | q <;> omega
def RtR (b gd od sz n nr : Nat) (w0 : World) (H : List Th) (R0 R : List Int) (col : Nat → Nat) (nD : Nat) (aD : Option Addr) (cD : Nat) (v8 : Value) (wr : World) : Prop :=
  ∃ (i : Nat) (S : List Bool), i ≤ nr ∧ v8 = .int .i64 (i : Nat) ∧ Hid (Rchs H S (R0 ++ R.take i) ∧ Pl 1048576 b w0 H n col wr ∧ OwnC col wr 9 1 (.slice (some ⟨gd, od, none⟩) sz sz) sz (bos S) ∧ OwnC col wr 8 1 (.slice aD nD cD) nD (ints R))
theorem RtR.mk {b gd od sz n nr : Nat} {w0 : World} {H : List Th} {R0 R : List Int} {col : Nat → Nat} {nD : Nat} {aD : Option Addr} {cD : Nat} {v8 : Value} {wr : World} (i : Nat) (S : List Bool) (h1 : i ≤ nr) (h2 : v8 = .int .i64 (i : Nat)) (h3 : Rchs H S (R0 ++ R.take i)) (h4 : Pl 1048576 b w0 H n col wr)
    (h5 : OwnC col wr 9 1 (.slice (some ⟨gd, od, none⟩) sz sz) sz (bos S)) (h6 : OwnC col wr 8 1 (.slice aD nD cD) nD (ints R)) : RtR b gd od sz n nr w0 H R0 R col nD aD cD v8 wr := ⟨i, S, h1, h2, Lib.hid ⟨h3, h4, h5, h6⟩⟩
theorem take_next (R : List Int) {i : Nat} (h : i < R.length) : R.take (i + 1) = R.take i ++ [R.getD i 0] := by
  rw [List.take_succ_eq_append_getElem h, getD_lt h]
/-- a step that pokes what is marked alone -/
theorem poke9 {gd : Nat} {col : Nat → Nat} {w w' : World} (hg : col gd = 9) (hm : Mods (fun g => g = gd) w w') : St (fun y => y = 9) col w col w' := ⟨hm.mono (fun g e => by rw [e]; exact hg), fun _ _ => rfl⟩
def RoR (b gd od sz n nr : Nat) (w0 : World) (H : List Th) (R : List Int) (col : Nat → Nat) (v8 : Value) (wr : World) : Prop :=
  ∃ (i : Nat) (S : List Bool), i ≤ nr ∧ v8 = .int .i64 (i : Nat) ∧ Hid (Rchs H S (R.take i) ∧ Pl 1048576 b w0 H n col wr ∧ OwnC col wr 9 1 (.slice (some ⟨gd, od, none⟩) sz sz) sz (bos S))
theorem RoR.mk {b gd od sz n nr : Nat} {w0 : World} {H : List Th} {R : List Int} {col : Nat → Nat} {v8 : Value} {wr : World} (i : Nat) (S : List Bool) (h1 : i ≤ nr) (h2 : v8 = .int .i64 (i : Nat)) (h3 : Rchs H S (R.take i)) (h4 : Pl 1048576 b w0 H n col wr)
    (h5 : OwnC col wr 9 1 (.slice (some ⟨gd, od, none⟩) sz sz) sz (bos S)) : RoR b gd od sz n nr w0 H R col v8 wr := ⟨i, S, h1, h2, Lib.hid ⟨h3, h4, h5⟩⟩
def WaR (b sz nD gd od gw ow gt ot gx ox n k : Nat) (aD : Option Addr) (cD : Nat) (w0 : World) (H : List Th) (S : List Bool) (v14 v15 : Value) (wr : World) : Prop :=
  ∃ (j T : Nat) (col : Nat → Nat) (xs : List Value) (Bs : List Bool) (Os : List Int), 1 ≤ j ∧ j ≤ k + 1 ∧ T ≤ j ∧ v15 = .int .i64 (j : Nat) ∧ v14 = .int .i64 (T : Nat) ∧ Hid (T = wantN H S j ∧ Pl 1048576 b w0 H n col wr ∧ Ar H S sz nD gd od gw ow gt ot gx ox aD cD j col wr xs Bs Os)
theorem WaR.mk {b sz nD gd od gw ow gt ot gx ox n k : Nat} {aD : Option Addr} {cD : Nat} {w0 : World} {H : List Th} {S : List Bool} {v14 v15 : Value} {wr : World} (j T : Nat) (col : Nat → Nat) (xs : List Value) (Bs : List Bool) (Os : List Int) (h1 : 1 ≤ j) (h2 : j ≤ k + 1) (h3 : T ≤ j) (h4 : v15 = .int .i64 (j : Nat)) (h5 : v14 = .int .i64 (T : Nat))
    (h6 : T = wantN H S j) (h7 : Pl 1048576 b w0 H n col wr) (h8 : Ar H S sz nD gd od gw ow gt ot gx ox aD cD j col wr xs Bs Os) : WaR b sz nD gd od gw ow gt ot gx ox n k aD cD w0 H S v14 v15 wr := ⟨j, T, col, xs, Bs, Os, h1, h2, h3, h4, h5, Lib.hid ⟨h6, h7, h8⟩⟩
set_option maxHeartbeats 16000000 in
theorem heapCollects_walk (a : Option Addr) (n c : Nat) (L : List Opn) (aR : Option Addr) (nR cR : Nat) (R : List Int) (w : World) (h : OpsIn w a n c L) (hR : Sl w 1 (.slice aR nR cR) nR (ints R)) (hRw : ∀ y ∈ R, (Lit.int .i64 y).wf = true) :
    Calls Try.prog 4 #[.slice a n c, .slice aR nR cR] w fun e w' => e = .returned (.bool true) ∧ Below w.heap.size w w' := by
  have HN := Lib.hid h.len
  have hb9 := h.bnd
  have hc9 := hR.cap
  have HI := Lib.hid h
  have HR := Lib.hid hR
  have HRW := Lib.hid hRw
  have HRL : Hid (R.length = nR) := Lib.hid (by have := hR.1; rw [ints_length] at this; omega)
  clear h hR hRw
  have hn9 : nR ≤ 9223372036854775807 := by omega
  clear hc9
  go_enter Try.func4, Try.ntmps4
  go_wp2_with fail
  refine (vast_any a n c L w HI.out).mono ?_
  rintro e w1 ⟨B, rfl, HB, hb1⟩
  cases B with
  | true =>
    go_wp2_with fail
    refine (works_any w1).mono ?_
    rintro e w2 ⟨rfl, hb2⟩
    go_wp2_with fail
    go_ret
    exact ⟨rfl, hb1.trans (hb2.mono hb1.size)⟩
  | false =>
    have HF := Lib.hid (HB.out rfl)
    have hn1 : n ≤ 100 := by have := HF.out.1; rw [HN.out] at this; exact this
    clear HB
    by_cases hbig : (1024 : Int) < (nR : Int)
    · go_wp2_with fail
      refine (works_any w1).mono ?_
      rintro e w2 ⟨rfl, hb2⟩
      go_wp2_with fail
      go_ret
      exact ⟨rfl, hb1.trans (hb2.mono hb1.size)⟩
    have hn4 : nR ≤ 1024 := by omega
    go_wp2_with fail
    refine (played_any a n c L w w1 HI.out hb1 HF.out).mono ?_
    rintro e w2 ⟨b, k, rfl, hkn, H, col2, P2⟩
    clear hb1 hbig
    obtain ⟨sz, hszk⟩ : ∃ sz, sz = k + 1 := ⟨_, rfl⟩
    have HSZ : Hid (sz = H.length) := Lib.hid (by rw [P2.out.2, hszk])
    have HSK := Lib.hid hszk
    have ek : (k : Int) + 1 = (sz : Nat) := by omega
    have hsz9 : sz ≤ 101 := by omega
    have P2 := Lib.hid P2.out.1
    have EK := Lib.hid ek
    have hk9 : k ≤ 100 := by omega
    clear hszk ek
    go_upto_region 7 with (at_make; refine wpL_make etBoC rfl rfl _ _ rfl sz w2.heap.size rfl rfl EK.out EK.out (by omega) (by simp [maxLen]; omega) (Nat.le_refl _) ?_; intro v3 w3 ho3 hb3 hg3; obtain ⟨gd, od, rfl, hgm⟩ := hg3)
    obtain ⟨col3, hcol3⟩ : ∃ x, x = recol col2 w2.heap.size 9 := ⟨_, rfl⟩
    have P3 : Hid (Pl 1048576 b w H (n + 1) col3 w3) := Lib.hid (by rw [hcol3]; exact P2.out.paint hb3 9)
    have D3 : Hid (OwnC col3 w3 9 1 (.slice (some ⟨gd, od, none⟩) sz sz) sz (bos (List.replicate sz false))) := Lib.hid (by rw [hcol3, ← bos_replicate]; exact OwnC.new ho3)
    have hcd3 : col3 gd = 9 := D3.out.2 gd rfl
    clear hcol3 ho3 hb3 hgm P2
    try go_frame
    go_wp2_with fail
    go_loopw [8] (fun v8 wr => RoR b gd od sz (n + 1) nR w H R col3 v8 wr) (fun v8 _ => nR - (intOf v8).toNat)
    case atStart => exact RoR.mk 0 _ (Nat.zero_le _) rfl (by rw [HSZ.out]; exact Rchs.start H) P3.out D3.out
    case round =>
      clear P3 D3
      obtain ⟨i, S, hi, rfl, HS⟩ := hrel
      by_cases hin : i = nR
      · subst hin
        have HS3 : Hid (Rchs H S R) := Lib.hid (by have := HS.out.1; rwa [List.take_of_length_le (by rw [HRL.out]; exact Nat.le_refl _)] at this)
        have P3 := Lib.hid HS.out.2.1
        have D3 := Lib.hid HS.out.2.2
        clear HS
        obtain ⟨nD, hnD⟩ : ∃ nD, nD = (dirtyL H).length := ⟨_, rfl⟩
        have HND := Lib.hid hnD
        have hnD9 : nD ≤ 1000 := by rw [hnD]; have := dirtyL_len H; have := HSZ.out; omega
        clear hnD
        go_wp2_with fail
        refine (plz_dirty P3.out (by omega) nD HND).mono ?_
        rintro e w4 ⟨aD, cD, rfl, HO4, hb4⟩
        obtain ⟨col4, hcol4⟩ : ∃ x, x = recol col3 wr.heap.size 8 := ⟨_, rfl⟩
        have P4 : Hid (Pl 1048576 b w H (n + 1) col4 w4) := Lib.hid (by rw [hcol4]; exact P3.out.paint hb4 8)
        have R4 : Hid (OwnC col4 w4 8 1 (.slice aD nD cD) nD (ints (dirtyL H))) := Lib.hid (by rw [hcol4]; exact OwnC.new HO4.out)
        have D4 : Hid (OwnC col4 w4 9 1 (.slice (some ⟨gd, od, none⟩) sz sz) sz (bos S)) := Lib.hid (by rw [hcol4]; exact D3.out.st (St.new hb4 (fun _ => False) col3 8) (fun h => h))
        have hcd4 : col4 gd = 9 := D4.out.2 gd rfl
        clear hcol4 HO4 hb4 P3 D3
        have hn0 : Hid (nD ≤ 9223372036854775807) := Lib.hid (by omega)
        go_wp2_with fail
        go_loopw [10] (fun v10 wr => RtR b gd od sz (n + 1) nD w H R (dirtyL H) col4 nD aD cD v10 wr) (fun v10 _ => nD - (intOf v10).toNat)
        case atStart => exact RtR.mk 0 S (Nat.zero_le _) rfl (by rw [List.take_zero, List.append_nil]; exact HS3.out) P4.out D4.out R4.out
        case round =>
          clear P4 R4 D4 HS3
          obtain ⟨q, S4, hq, rfl, HQ⟩ := hrel
          by_cases hqn : q = nD
          · subst hqn
            have HS5 : Hid (Rchs H S4 (R ++ dirtyL H)) := Lib.hid (by have := HQ.out.1; rwa [List.take_of_length_le (by rw [← HND.out]; exact Nat.le_refl _)] at this)
            have P5 := Lib.hid HQ.out.2.1
            have D5 := Lib.hid HQ.out.2.2.1
            have R5 := Lib.hid HQ.out.2.2.2
            clear HQ
            go_upto_region 17 with (at_make; refine wpL_makeS etOC rfl _ _ rfl sz wr.heap.size rfl rfl EK.out EK.out (by omega) (by simp [maxLen]; omega) (Nat.le_refl _) ?_; intro v6 w6 xs6 ho6 hb6 hg6; obtain ⟨gw, ow, rfl, hgm6⟩ := hg6)
            obtain ⟨col6, hcol6⟩ : ∃ x, x = recol col4 wr.heap.size 10 := ⟨_, rfl⟩
            have P6 : Hid (Pl 1048576 b w H (n + 1) col6 w6) := Lib.hid (by rw [hcol6]; exact P5.out.paint hb6 10)
            have k6 : St (fun _ => False) col4 wr col6 w6 := by rw [hcol6]; exact St.new hb6 _ _ _
            have D6 := Lib.hid (D5.out.st k6 (fun h => h))
            have R6 := Lib.hid (R5.out.st k6 (fun h => h))
            have W6 : Hid (OwnC col6 w6 10 4 (.slice (some ⟨gw, ow, none⟩) sz sz) sz xs6) := Lib.hid (by rw [hcol6]; exact OwnC.new ho6)
            clear hcol6 ho6 hb6 hgm6 k6 P5 D5 R5
            try go_frame
            go_upto_region 18 with (at_make; refine wpL_make etBoC rfl rfl _ _ rfl sz w6.heap.size rfl rfl EK.out EK.out (by omega) (by simp [maxLen]; omega) (Nat.le_refl _) ?_; intro v7 w7 ho7 hb7 hg7; obtain ⟨gt, ot, rfl, hgm7⟩ := hg7)
            obtain ⟨col7, hcol7⟩ : ∃ x, x = recol col6 w6.heap.size 11 := ⟨_, rfl⟩
            have P7 : Hid (Pl 1048576 b w H (n + 1) col7 w7) := Lib.hid (by rw [hcol7]; exact P6.out.paint hb7 11)
            have k7 : St (fun _ => False) col6 w6 col7 w7 := by rw [hcol7]; exact St.new hb7 _ _ _
            have D7 := Lib.hid (D6.out.st k7 (fun h => h))
            have R7 := Lib.hid (R6.out.st k7 (fun h => h))
            have W7 := Lib.hid (W6.out.st k7 (fun h => h))
            have T7 : Hid (OwnC col7 w7 11 1 (.slice (some ⟨gt, ot, none⟩) sz sz) sz (bos (List.replicate sz false))) := Lib.hid (by rw [hcol7, ← bos_replicate]; exact OwnC.new ho7)
            clear hcol7 ho7 hb7 hgm7 k7 P6 D6 R6 W6
            try go_frame
            go_upto_region 19 with (at_make; refine wpL_make etIC rfl rfl _ _ rfl sz w7.heap.size rfl rfl EK.out EK.out (by omega) (by simp [maxLen]; omega) (Nat.le_refl _) ?_; intro v8 w8 ho8 hb8 hg8; obtain ⟨gx, ox, rfl, hgm8⟩ := hg8)
            obtain ⟨col8, hcol8⟩ : ∃ x, x = recol col7 w7.heap.size 12 := ⟨_, rfl⟩
            have P8 : Hid (Pl 1048576 b w H (n + 1) col8 w8) := Lib.hid (by rw [hcol8]; exact P7.out.paint hb8 12)
            have k8 : St (fun _ => False) col7 w7 col8 w8 := by rw [hcol8]; exact St.new hb8 _ _ _
            have X8 : Hid (OwnC col8 w8 12 1 (.slice (some ⟨gx, ox, none⟩) sz sz) sz (ints (List.replicate sz 0))) := Lib.hid (by rw [hcol8, ← ints_replicate]; exact OwnC.new ho8)
            have A8 : Hid (Ar H S4 sz q gd od gw ow gt ot gx ox aD cD 1 col8 w8 xs6 (List.replicate sz false) (List.replicate sz 0)) := Lib.hid ⟨D7.out.st k8 (fun h => h), R7.out.st k8 (fun h => h), W7.out.st k8 (fun h => h), T7.out.st k8 (fun h => h), X8.out, fun i h1 h2 => by omega, fun i h1 h2 => by omega, fun i h1 h2 => by omega⟩
            clear hcol8 ho8 hb8 hgm8 k8 P7 D7 R7 W7 T7 X8
            try go_frame
            go_wp2_with fail
            go_loopw [14, 15] (fun v14 v15 wr => WaR b sz q gd od gw ow gt ot gx ox (n + 1) k aD cD w H S4 v14 v15 wr) (fun _ v15 _ => k + 1 - (intOf v15).toNat)
            case atStart => exact WaR.mk 1 0 col8 _ _ _ (Nat.le_refl _) (by omega) (by decide) rfl rfl (want_one P8.out.L.good S4).symm P8.out A8.out
            case round =>
              clear P8 A8
              obtain ⟨j, T, col9, xs, Bs, Os, hj1, hjk, hT, rfl, rfl, HJ⟩ := hrel
              by_cases hjn : j = k + 1
              · subst hjn
                have hnj : ¬ (((k + 1 : Nat) : Int)) ≤ (k : Int) := by omega
                have P := Lib.hid HJ.out.2.1
                have A := Lib.hid HJ.out.2.2
                obtain ⟨H', hH'⟩ : ∃ H', H' = collectH H R := ⟨_, rfl⟩
                obtain ⟨U', hU'⟩ : ∃ U', U' = countH H' := ⟨_, rfl⟩
                obtain ⟨U, hU⟩ : ∃ U, U = U' + T := ⟨_, rfl⟩
                have HU : Hid (U = countH H) := Lib.hid (by rw [hU, hU', hH', want_all HS5.out, HJ.out.1, ← HSZ.out, HSK.out])
                have HU9 : U ≤ 101 := by
                  rw [HU.out]
                  exact Nat.le_trans List.countP_le_length (by rw [← HSZ.out]; exact hsz9)
                have HHC := Lib.hid hH'
                have HUC := Lib.hid hU'
                have HTU : Hid ((T : Int) = (countH H : Int) - (countH H' : Int)) := Lib.hid (by rw [← HU.out, ← hU', hU]; omega)
                have HUU : Hid (U = U' + T) := Lib.hid hU
                have hTT : ((T : Int) != (T : Int)) = false := by simp
                have hUU : ((U' : Int) != (U : Int) - (T : Int)) = false := by simp; omega
                have hTU : (T : Int) ≤ (U : Int) := by omega
                clear HJ hH' hU' hU
                go_wp2_with fail
                refine (pl_count P.out U HU).mono ?_
                rintro e w10 ⟨rfl, rfl⟩
                go_wp2_with fail
                refine (plz_collect P.out (by decide) (by omega) R aR i cR (HR.out.below P.out.below) HRW.out (by omega) H' HHC T HTU).mono ?_
                rintro e w11 ⟨rfl, colb, H11⟩
                have P11 := Lib.hid H11.out.1
                have A11 := Lib.hid (A.out.st H11.out.2 hq_far)
                clear H11 P A
                go_wp2_with fail
                refine (pl_count P11.out U' HUC).mono ?_
                rintro e w12 ⟨rfl, rfl⟩
                have HND' : Hid (q = (dirtyL H').length) := Lib.hid (by rw [HHC.out, dirty_left]; exact HND.out)
                go_wp2_with fail
                refine (plz_dirty P11.out (by omega) q HND').mono ?_
                rintro e w13 ⟨aE, cE, rfl, HOE, hbE⟩
                have P13 := Lib.hid (P11.out.down hbE)
                have A13 := Lib.hid (A11.out.st (St.fresh hbE (fun _ => False) colb) (fun _ h => h.elim))
                have SE : Hid (Sl w13 1 (.slice aE q cE) q (ints (dirtyL H))) := Lib.hid (by have := HOE.out.sl; rwa [HHC.out, dirty_left] at this)
                clear HOE hbE P11 A11
                go_wp2_with fail
                refine (sameList_t (dirtyL H) aE q cE aD cD w13 SE.out A13.out.R.1.sl).mono ?_
                rintro e w14 ⟨rfl, hb14⟩
                have P14 := Lib.hid (P13.out.down hb14)
                have A14 := Lib.hid (A13.out.st (St.fresh hb14 (fun _ => False) colb) (fun _ h => h.elim))
                clear hb14 P13 A13 SE hTT hUU hTU
                go_wp2_with fail
                go_loopw [17] (fun v17 wr => ∃ j : Nat, 1 ≤ j ∧ j ≤ k + 1 ∧ v17 = .int .i64 (j : Nat) ∧ Hid (Pl 1048576 b w H' (n + 1) colb wr ∧ Ar H S4 sz q gd od gw ow gt ot gx ox aD cD (k + 1) colb wr xs Bs Os)) (fun v17 _ => k + 1 - (intOf v17).toNat)
                case atStart => exact ⟨1, Nat.le_refl _, by omega, rfl, Lib.hid ⟨P14.out, A14.out⟩⟩
                case round =>
                  clear P14 A14
                  obtain ⟨j, hj1, hjk, rfl, HJ⟩ := hrel
                  by_cases hjn : j = k + 1
                  · subst hjn
                    have hnj : ¬ (((k + 1 : Nat) : Int)) ≤ (k : Int) := by omega
                    have HHC2 : Hid (H' = collectH H' R) := Lib.hid (by rw [HHC.out, collect_twice])
                    have HZ : Hid ((0 : Int) = (countH H' : Int) - (countH H' : Int)) := Lib.hid (by omega)
                    go_wp2_with fail
                    refine (plz_collect HJ.out.1 (by decide) (by omega) R aR i cR (HR.out.below HJ.out.1.below) HRW.out (by omega) H' HHC2 0 HZ).mono ?_
                    rintro e w15 ⟨rfl, colc, H15⟩
                    go_wp2_with fail
                    refine (works_any w15).mono ?_
                    rintro e w16 ⟨rfl, hb16⟩
                    go_wp2_with fail
                    go_ret
                    exact ⟨rfl, H15.out.1.below.trans (hb16.mono H15.out.1.below.size)⟩
                  have hjk' : (j : Int) ≤ (k : Int) := by omega
                  have P := Lib.hid HJ.out.1
                  have A := Lib.hid HJ.out.2
                  clear HJ
                  have hjs : j < sz := by have := HSK.out; omega
                  have hjs' : (j : Int) < (sz : Int) := by omega
                  go_wp2_with fail
                  refine (pl_get P.out (by decide) (j : Nat) (wf64 (by omega) (by omega))).mono ?_
                  rintro e w7 ⟨o7, is7, a7, n7, c7, rfl, H7, P7, hb7⟩
                  have A7 := Lib.hid (A.out.st (St.fresh hb7 (fun _ => False) colb) (fun _ h => h.elim))
                  clear P A hb7
                  go_upto_region 34 with (refine wpL_storeRow rfl _ _ _ rfl (cs := [.int .u8 (o7.k.toNat : Int), .int .i64 o7.t, .slice a7 n7 c7, .string (str o7.s)]) rfl rfl (Row.new _ _ _) (by kernel_rfl) rfl rfl ?_; intro w8 hg8 hr8)
                  have hb8 : Below w7.heap.size w7 w8 := below_grown ((Below.refl _ _).alloc (Nat.le_refl _) _) hg8 (Nat.le_refl _) (by simp)
                  have P8 := Lib.hid (P7.out.down hb8)
                  have A8 := Lib.hid (A7.out.st (St.fresh hb8 (fun _ => False) colb) (fun _ h => h.elim))
                  have S8 := Lib.hid (H7.out.2.2.2.sl.below hb8)
                  have HR8 := Lib.hid hr8
                  clear hg8 hr8 hb8 P7 A7
                  obtain ⟨x, hx⟩ : ∃ x, x = (thAt H' j).oid := ⟨_, rfl⟩
                  have HX := Lib.hid hx
                  clear hx
                  go_wp2_with fail
                  refine (plz_oid P8.out j (wf64 (by omega) (by omega)) x HX).mono ?_
                  rintro e w9 ⟨rfl, hb9'⟩
                  go_upto_region 35 with fail
                  have P9 := Lib.hid (P8.out.down hb9')
                  have A9 := Lib.hid (A8.out.st (St.fresh hb9' (fun _ => False) colb) (fun _ h => h.elim))
                  have S9 := Lib.hid (S8.out.below hb9')
                  have hr9 := HR8.out.after hb9'
                  have HM : Hid (thAt H' (j : Nat) = if S4.getD j false = true then thAt H j else noTh) := Lib.hid (by rw [HHC.out]; exact collect_mkd HS5.out j)
                  have HLV : Hid (S4.getD j false = true → (thAt H (j : Nat)).is = true) := Lib.hid (fun e => ((HS5.out.all j).1 (mk_nat.2 e)).is)
                  clear P8 A8 S8 HR8 hb9'
                  have q0 := later_cell (show w9.cell? ⟨w7.heap.size, 0, none⟩ = some (.int .u8 (o7.k.toNat : Int)) from hr9.cell 0)
                  have q1 := later_cell (show w9.cell? ⟨w7.heap.size, 1, none⟩ = some (.int .i64 o7.t) from hr9.cell 1)
                  have q2 := later_cell (show w9.cell? ⟨w7.heap.size, 2, none⟩ = some (.slice a7 n7 c7) from hr9.cell 2)
                  have q3 := later_cell (show w9.cell? ⟨w7.heap.size, 3, none⟩ = some (.string (str o7.s)) from hr9.cell 3)
                  have hct : w9.cell? ⟨gt, ot + j, none⟩ = some (.bool (thAt H j).is) := by
                    have h1 := A9.out.T.1.get j (by rw [A9.out.T.1.1]; omega)
                    have hl := A9.out.T.1.1
                    rw [bos_length] at hl
                    rw [bos_get _ _ (by omega), A9.out.bt j hj1 (by omega)] at h1
                    exact h1
                  have hcs : w9.cell? ⟨gd, od + j, none⟩ = some (.bool (S4.getD j false)) := by
                    have h1 := A9.out.D.1.get j (by rw [A9.out.D.1.1]; omega)
                    have hl := A9.out.D.1.1
                    rw [bos_length] at hl
                    rw [bos_get _ _ (by omega)] at h1
                    exact h1
                  have hcx : w9.cell? ⟨gx, ox + j, none⟩ = some (.int .i64 (thAt H j).oid) := by
                    have h1 := A9.out.X.1.get j (by rw [A9.out.X.1.1]; omega)
                    have hl := A9.out.X.1.1
                    rw [ints_length] at hl
                    rw [ints_get _ _ (by omega), A9.out.bx j hj1 (by omega)] at h1
                    exact h1
                  obtain ⟨aV, cV, v0, v1, v2, v3, v4⟩ := A9.out.V j hj1 (by omega)
                  have hW := fun p hp => A9.out.W.1.get p hp
                  have hlW := A9.out.W.1.1
                  have z0 : w9.cell? ⟨gw, ow + j * 4, none⟩ = some (.int .u8 ((thAt H j).o.k.toNat : Int)) := (hW (j * 4) (by omega)).trans v0
                  have z1 : w9.cell? ⟨gw, ow + j * 4 + 1, none⟩ = some (.int .i64 (thAt H j).o.t) := by rw [Nat.add_assoc]; exact (hW (j * 4 + 1) (by omega)).trans v1
                  have z2 : w9.cell? ⟨gw, ow + j * 4 + 2, none⟩ = some (.slice aV (thAt H j).o.l.length cV) := by rw [Nat.add_assoc]; exact (hW (j * 4 + 2) (by omega)).trans v2
                  have z3 : w9.cell? ⟨gw, ow + j * 4 + 3, none⟩ = some (.string (str (thAt H j).o.s)) := by rw [Nat.add_assoc]; exact (hW (j * 4 + 3) (by omega)).trans v3
                  have SV := Lib.hid v4.1.sl
                  clear hW hlW v0 v1 v2 v3 v4 hr9
                  have HI7 : Hid (is7 = (thAt H' j).is) := Lib.hid H7.out.2.1
                  have HO7 : Hid (o7 = (thAt H' j).o) := Lib.hid H7.out.1
                  have HL7 : Hid (o7.l.length = n7) := Lib.hid H7.out.2.2.1
                  clear H7
                  generalize S4.getD j false = B2 at hcs HM HLV
                  cases B2 with
                  | true =>
                    have hM := HM.out
                    rw [if_pos rfl] at hM
                    have hI1 : (thAt H (j : Nat)).is = true := HLV.out rfl
                    obtain rfl : is7 = true := by rw [HI7.out, hM, hI1]
                    have hO : (thAt H (j : Nat)).o = o7 := by rw [HO7.out, hM]
                    have hx9 : (thAt H (j : Nat)).oid = x := by rw [HX.out, hM]
                    rw [hI1] at hct
                    rw [hx9] at hcx
                    rw [hO] at z0 z1 z2 z3 SV
                    rw [HL7.out] at z2 SV
                    have ct := later_cell hct
                    have cs := later_cell hcs
                    have HCX := Lib.hid hcx
                    have y0 := later_cell z0
                    have y1 := later_cell z1
                    have y2 := later_cell z2
                    have y3 := later_cell z3
                    have hxx : (x != x) = false := by simp
                    clear hM hI1 hO hx9 hct hcs hcx z0 z1 z2 z3 HM HLV HI7 HO7
                    try go_frame
                    refine wp_region_idx Rb Rb_refl Rb_trans [(0,0),(0,1),(0,2),(0,3),(0,4),(0,5),(0,6),(0,7),(0,8),(0,9),(0,10),(0,11),(0,12),(0,13),(0,14),(0,15),(0,16),(0,17),(0,18),(0,19),(1,20),(0,21),(0,22),(0,23),(0,24),(0,25),(0,26),(0,27),(0,28),(0,29),(0,30),(0,31),(0,32),(0,33),(0,34),(0,35),(0,36),(0,37),(0,38),(0,39)] (by kernel_rfl) (by kernel_rfl) (by kernel_rfl) ?_
                    simp only [pickO, List.getD_cons_succ, List.getD_cons_zero]
                    refine wpCan_seg 20 (by kernel_rfl) ?_
                    simp only [List.take_succ_cons, List.take_zero, List.drop_succ_cons, List.drop_zero, List.map_cons, List.map_nil]
                    iterate 20 (go_big_quiet_step (fail))
                    refine wpQuiet_nil ?_
                    refine wpCan_list (k := 0) (fun KK hK => ?_) (fun _ => Rb_refl _)
                    go_wp2_with fail
                    refine (same_t o7.k.toNat o7.t a7 n7 c7 aV cV o7.l o7.s w9.drew (S9.out.below (Below.refl _ _).drew) (SV.out.below (Below.refl _ _).drew)).mono ?_
                    rintro e w50 ⟨rfl, hb50⟩
                    go_wp2_with fail
                    refine hK _ _ (fun _ => hb50) ?_
                    clear hK KK
                    have hbZ : Below w9.heap.size w9 w50 := (Below.refl _ _).drew.trans hb50
                    have hcx5 : w50.cell? ⟨gx, ox + j, none⟩ = some (.int .i64 x) := (hbZ.cell (lt_of_cell HCX.out)).trans HCX.out
                    have cx : ∀ x1 : Later Rb w50, x1.w.cell? ⟨gx, ox + j, none⟩ = some (.int .i64 x) := fun x1 => (Below.cell (p := ⟨gx, ox + j, none⟩) x1.later (lt_of_cell hcx5)).trans hcx5
                    clear hcx5
                    refine wpCan_seg 19 (by kernel_rfl) ?_
                    simp only [List.take_succ_cons, List.take_zero, List.drop_succ_cons, List.drop_zero, List.map_cons, List.map_nil]
                    iterate 19 (go_big_quiet_step (fail))
                    refine wpQuiet_nil ?_
                    unfold wpCan
                    have PZ := Lib.hid (P9.out.down hbZ)
                    have AZ := Lib.hid (A9.out.st (St.fresh hbZ (fun _ => False) colb) (fun _ h => h.elim))
                    clear hbZ hb50 q0 q1 q2 q3 ct cs cx y0 y1 y2 y3 P9 A9 S9 SV
                    go_wp2_with fail
                    exact ⟨⟨j + 1, by omega, by omega, by go_num, Lib.hid ⟨PZ.out, AZ.out⟩⟩, by simp [intOf]; omega⟩
                  | false =>
                    have hM := HM.out
                    rw [if_neg (by decide)] at hM
                    obtain rfl : is7 = false := by rw [HI7.out, hM]; rfl
                    obtain rfl : x = 0 := by rw [HX.out, hM]; rfl
                    have ct := later_cell hct
                    have cs := later_cell hcs
                    clear hM hct hcs hcx z0 z1 z2 z3 HM HLV HI7 HO7 SV q0 q1 q2 q3
                    generalize (thAt H (j : Nat)).is = B1 at ct
                    cases B1 with
                    | false =>
                      try go_frame
                      refine wp_region_idx Rb Rb_refl Rb_trans [(0,0),(0,1),(0,2),(0,3),(0,4),(0,5),(0,6),(0,7),(0,8),(0,9),(0,10),(0,11),(0,12),(0,13),(0,14),(0,15),(0,16),(0,17),(0,18),(0,19),(1,20),(0,21),(0,22),(0,23),(0,24),(0,25),(0,26),(0,27),(0,28),(0,29),(0,30),(0,31),(0,32),(0,33),(0,34),(0,35),(0,36),(0,37),(0,38),(0,39)] (by kernel_rfl) (by kernel_rfl) (by kernel_rfl) ?_
                      simp only [pickO, List.getD_cons_succ, List.getD_cons_zero]
                      refine wpCan_seg 20 (by kernel_rfl) ?_
                      simp only [List.take_succ_cons, List.take_zero, List.drop_succ_cons, List.drop_zero, List.map_cons, List.map_nil]
                      iterate 20 (go_big_quiet_step (fail))
                      refine wpQuiet_nil ?_
                      refine wpCan_list (k := 0) (fun KK hK => ?_) (fun _ => Rb_refl _)
                      go_wp2_with fail
                      refine hK _ _ (fun _ => Rb_refl _) ?_
                      clear hK KK
                      refine wpCan_seg 19 (by kernel_rfl) ?_
                      simp only [List.take_succ_cons, List.take_zero, List.drop_succ_cons, List.drop_zero, List.map_cons, List.map_nil]
                      iterate 19 (go_big_quiet_step (fail))
                      refine wpQuiet_nil ?_
                      unfold wpCan
                      have hbZ : Below w9.heap.size w9 w9.drew := (Below.refl _ _).drew
                      have PZ := Lib.hid (P9.out.down hbZ)
                      have AZ := Lib.hid (A9.out.st (St.fresh hbZ (fun _ => False) colb) (fun _ h => h.elim))
                      clear hbZ ct cs P9 A9 S9
                      go_wp2_with fail
                      exact ⟨⟨j + 1, by omega, by omega, by go_num, Lib.hid ⟨PZ.out, AZ.out⟩⟩, by simp [intOf]; omega⟩
                    | true =>
                      try go_frame
                      refine wp_region_idx Rb Rb_refl Rb_trans [(0,0),(0,1),(0,2),(0,3),(0,4),(0,5),(0,6),(0,7),(0,8),(0,9),(0,10),(0,11),(0,12),(0,13),(0,14),(0,15),(0,16),(0,17),(0,18),(0,19),(1,20),(0,21),(0,22),(0,23),(0,24),(0,25),(0,26),(0,27),(0,28),(0,29),(0,30),(0,31),(0,32),(0,33),(0,34),(0,35),(0,36),(0,37),(0,38),(0,39)] (by kernel_rfl) (by kernel_rfl) (by kernel_rfl) ?_
                      simp only [pickO, List.getD_cons_succ, List.getD_cons_zero]
                      refine wpCan_seg 20 (by kernel_rfl) ?_
                      simp only [List.take_succ_cons, List.take_zero, List.drop_succ_cons, List.drop_zero, List.map_cons, List.map_nil]
                      iterate 20 (go_big_quiet_step (fail))
                      refine wpQuiet_nil ?_
                      refine wpCan_list (k := 0) (fun KK hK => ?_) (fun _ => Rb_refl _)
                      go_wp2_with fail
                      refine hK _ _ (fun _ => Rb_refl _) ?_
                      clear hK KK
                      refine wpCan_seg 19 (by kernel_rfl) ?_
                      simp only [List.take_succ_cons, List.take_zero, List.drop_succ_cons, List.drop_zero, List.map_cons, List.map_nil]
                      iterate 19 (go_big_quiet_step (fail))
                      refine wpQuiet_nil ?_
                      unfold wpCan
                      have hbZ : Below w9.heap.size w9 w9.drew := (Below.refl _ _).drew
                      have PZ := Lib.hid (P9.out.down hbZ)
                      have AZ := Lib.hid (A9.out.st (St.fresh hbZ (fun _ => False) colb) (fun _ h => h.elim))
                      clear hbZ ct cs P9 A9 S9
                      go_wp2_with fail
                      exact ⟨⟨j + 1, by omega, by omega, by go_num, Lib.hid ⟨PZ.out, AZ.out⟩⟩, by simp [intOf]; omega⟩
              have hjk' : (j : Int) ≤ (k : Int) := by omega
              have P := Lib.hid HJ.out.2.1
              have A := Lib.hid HJ.out.2.2
              have HT := Lib.hid HJ.out.1
              clear HJ
              have hjs : j < sz := by have := HSK.out; omega
              go_wp2_with fail
              refine (pl_get P.out (by decide) (j : Nat) (wf64 (by omega) (by omega))).mono ?_
              rintro e w7 ⟨o7, is7, a7, n7, c7, rfl, H7, P7', hb7⟩
              obtain ⟨cola, hcola⟩ : ∃ x, x = recol col9 wr.heap.size 13 := ⟨_, rfl⟩
              have P7 : Hid (Pl 1048576 b w H (n + 1) cola w7) := Lib.hid (by rw [hcola]; exact P.out.paint hb7 13)
              have A7 : Hid (Ar H S4 sz q gd od gw ow gt ot gx ox aD cD j cola w7 xs Bs Os) := Lib.hid (by rw [hcola]; exact A.out.st (St.new hb7 (fun _ => False) col9 13) (fun _ h => h.elim))
              have V7 : Hid (OwnC cola w7 13 2 (.slice a7 n7 c7) n7 (wcells o7.l)) := Lib.hid (by rw [hcola]; exact OwnC.new H7.out.2.2.2)
              clear hcola P A P7' hb7
              have hoW := A7.out.W.1
              have hltW : j * 4 + [Value.int .u8 (o7.k.toNat : Int), .int .i64 o7.t, .slice a7 n7 c7, .string (str o7.s)].length ≤ xs.length := by have := hoW.1; simp only [List.length_cons, List.length_nil]; omega
              obtain ⟨bsv, hbsv⟩ : ∃ x, x = bos Bs := ⟨_, rfl⟩
              have hltT : j < bsv.length := by have := A7.out.T.1.1; rw [hbsv]; omega
              have HBS := Lib.hid hbsv
              clear hbsv
              have HTT : Hid (∀ w8 : World, w7.grownBy w8 (some gw) → Own w8 0 1 (.slice (some ⟨gt, ot, none⟩) sz sz) sz bsv) := Lib.hid (fun w8 hg => by rw [HBS.out]; exact (A7.out.T.st (St.one hg (fun y => y = 10) cola (A7.out.W.2 gw rfl)) (by decide)).1)
              go_upto_region 24 with (first | (refine wpL_storeOwnS rfl _ _ _ rfl (cs := [.int .u8 (o7.k.toNat : Int), .int .i64 o7.t, .slice a7 n7 c7, .string (str o7.s)]) rfl rfl (by simp [Value.oneCell']) (by kernel_rfl) hoW (j * 4) rfl hltW ?_; intro w8 hg8 ho8; have hoT := HTT.out w8 hg8) | (refine wpL_storeOwn (g := 0) rfl _ _ _ rfl (v := .bool is7) rfl rfl rfl rfl (by kernel_rfl) hoT j rfl hltT ?_; intro w9 hg9 ho9))
              have HG8 := Lib.hid hg8
              have HG9 := Lib.hid hg9
              have HO8 := Lib.hid ho8
              have HO9 := Lib.hid ho9
              have K8 : Hid (St (fun y => y = 10) cola w7 cola w8) := Lib.hid (St.one HG8.out _ _ (A7.out.W.2 gw rfl))
              have K9 : Hid (St (fun y => y = 11) cola w8 cola w9) := Lib.hid (St.one HG9.out _ _ (A7.out.T.2 gt rfl))
              have P9 := Lib.hid ((P7.out.stc K8.out (nqc (by decide)) (by decide)).stc K9.out (nqc (by decide)) (by decide))
              clear hg8 hg9 ho8 ho9 hoW hoT hltW hltT HTT P7
              obtain ⟨x, hx⟩ : ∃ x, x = (thAt H j).oid := ⟨_, rfl⟩
              have HX := Lib.hid hx
              clear hx
              go_wp2_with fail
              refine (plz_oid P9.out j (wf64 (by omega) (by omega)) x HX).mono ?_
              rintro e wA ⟨rfl, hbA⟩
              have PA := Lib.hid (P9.out.down hbA)
              have HBA := Lib.hid hbA
              obtain ⟨osv, hosv⟩ : ∃ x, x = ints Os := ⟨_, rfl⟩
              have hltX : j < osv.length := by have := A7.out.X.1.1; rw [hosv]; omega
              have hoX : Own wA 0 1 (.slice (some ⟨gx, ox, none⟩) sz sz) sz osv := by rw [hosv]; exact (((A7.out.X.st K8.out (by decide)).st K9.out (by decide)).st (St.fresh hbA (fun _ => False) cola) (fun h => h)).1
              have HOS := Lib.hid hosv
              clear hosv hbA P9
              go_upto_region 25 with (refine wpL_storeOwn (g := 0) rfl _ _ _ rfl (v := .int .i64 x) rfl rfl rfl rfl (by kernel_rfl) hoX j rfl hltX ?_; intro wB hgB hoB)
              have KB : Hid (St (fun y => y = 12) cola wA cola wB) := Lib.hid (St.one hgB _ _ (A7.out.X.2 gx rfl))
              have PB := Lib.hid (PA.out.stc KB.out (nqc (by decide)) (by decide))
              have AB : Hid (∃ xs' Bs' Os', Ar H S4 sz q gd od gw ow gt ot gx ox aD cD (j + 1) cola wB xs' Bs' Os') := Lib.hid (by
                have e1 := H7.out.1
                have e2 := H7.out.2.1
                have e3 := H7.out.2.2.1
                subst e1 e2 e3
                have h2 := HO9.out
                have h3 := hoB
                rw [HBS.out] at h2
                rw [HX.out, HOS.out] at h3
                exact A7.out.put (by have := HSK.out; omega) V7.out HG8.out HO8.out HG9.out h2 HBA.out hgB h3)
              clear hgB hoB hltX hoX PA KB HG8 HG9 HO8 HO9 K8 K9 HBA V7 A7 HBS HOS
              obtain ⟨xs', Bs', Os', AB⟩ := AB.out
              have hIS : is7 = (thAt H j).is := H7.out.2.1
              have hct : wB.cell? ⟨gt, ot + j, none⟩ = some (.bool is7) := by
                have h1 := AB.T.1.get j (by rw [AB.T.1.1]; have := HSK.out; omega)
                have hl := AB.T.1.1
                rw [bos_length] at hl
                rw [bos_get _ _ (by have := HSK.out; omega), AB.bt j hj1 (by omega), ← hIS] at h1
                exact h1
              have hcs : wB.cell? ⟨gd, od + j, none⟩ = some (.bool (S4.getD j false)) := by
                have h1 := AB.D.1.get j (by rw [AB.D.1.1]; have := HSK.out; omega)
                have hl := AB.D.1.1
                rw [bos_length] at hl
                rw [bos_get _ _ (by have := HSK.out; omega)] at h1
                exact h1
              have HWN : Hid (wantN H S4 (j + 1) = T + if is7 && !S4.getD j false then 1 else 0) := Lib.hid (by rw [want_next, ← HT.out, hIS])
              have AB := Lib.hid AB
              generalize S4.getD j false = B2 at hcs HWN
              have HIS := Lib.hid hIS
              clear hIS
              cases is7 with
              | false =>
                go_wp2_with fail
                exact ⟨WaR.mk (j + 1) T cola xs' Bs' Os' (by omega) (by omega) (by omega) (by go_num) rfl HWN.out.symm PB.out AB.out, by simp [intOf]; omega⟩
              | true =>
                cases B2 with
                | true =>
                  go_wp2_with fail
                  exact ⟨WaR.mk (j + 1) T cola xs' Bs' Os' (by omega) (by omega) (by omega) (by go_num) rfl HWN.out.symm PB.out AB.out, by simp [intOf]; omega⟩
                | false =>
                  go_wp2_with fail
                  exact ⟨WaR.mk (j + 1) (T + 1) cola xs' Bs' Os' (by omega) (by omega) (by omega) (by go_num) (by go_num) HWN.out.symm PB.out AB.out, by simp [intOf]; omega⟩
          have hql : q < nD := by omega
          have hql' : (q : Int) < nD := by omega
          have hlenD : q < (dirtyL H).length := by rw [← HND.out]; exact hql
          obtain ⟨b1, o1, u1, ha, hu, hcell⟩ := HQ.out.2.2.2.1.sl.at (k := q) (by omega)
          rw [ints_get _ _ hlenD] at hu
          cases hu
          subst ha
          obtain ⟨y, hy⟩ : ∃ y, y = (dirtyL H).getD q 0 := ⟨_, rfl⟩
          have hwy : Hid ((Lit.int .i64 y).wf = true) := Lib.hid (by
            have h1 : y ∈ dirtyL H := by rw [hy, getD_lt hlenD]; exact List.getElem_mem _
            obtain ⟨p, hp, hpl, _⟩ := thAt_is ((mem_dirtyL H y).1 h1).1
            rw [← HSZ.out] at hpl
            exact wf64 (by omega) (by omega))
          rw [← hy] at hcell
          have HY := Lib.hid hy
          clear hy
          go_wp2_with fail
          refine (reach_any b gd od sz w H (n + 1) col4 hcd4 HSZ (by omega) (unm S4 + 1) S4 y wr (Nat.lt_succ_self _) hwy.out (Lib.hid HQ.out.2.1) (Lib.hid HQ.out.2.2.1) (Lib.hid HQ.out.1.len)).mono ?_
          rintro e w5 ⟨rfl, S2, H5⟩
          go_wp2_with fail
          exact ⟨RtR.mk (q + 1) S2 hql (by go_num) (by rw [take_next _ hlenD, ← HY.out, ← List.append_assoc]; exact HQ.out.1.next H5.out.1) H5.out.2.1 H5.out.2.2.1 (HQ.out.2.2.2.st (poke9 hcd4 H5.out.2.2.2) (by decide)), by simp [intOf]; omega⟩
      have hlt : i < nR := by omega
      have hlt' : (i : Int) < nR := by omega
      have hlenR : i < R.length := by rw [HRL.out]; exact hlt
      obtain ⟨b1, o1, u1, ha, hu, hcell⟩ := (HR.out.below HS.out.2.1.below).at (k := i) (by omega)
      rw [ints_get _ _ hlenR] at hu
      cases hu
      subst ha
      obtain ⟨y, hy⟩ : ∃ y, y = R.getD i 0 := ⟨_, rfl⟩
      have hwy : Hid ((Lit.int .i64 y).wf = true) := Lib.hid (by rw [hy, getD_lt hlenR]; exact HRW.out _ (List.getElem_mem _))
      rw [← hy] at hcell
      have HY := Lib.hid hy
      clear hy
      go_wp2_with fail
      refine (reach_any b gd od sz w H (n + 1) col3 hcd3 HSZ (by omega) (unm S + 1) S y wr (Nat.lt_succ_self _) hwy.out (Lib.hid HS.out.2.1) (Lib.hid HS.out.2.2) (Lib.hid HS.out.1.len)).mono ?_
      rintro e w5 ⟨rfl, S2, H5⟩
      go_wp2_with fail
      exact ⟨RoR.mk (i + 1) S2 hlt (by go_num) (by rw [take_next R hlenR, ← HY.out]; exact HS.out.1.next H5.out.1) H5.out.2.1 H5.out.2.2.1, by simp [intOf]; omega⟩
theorem opensI24 : OpensZ Try.prog 3 1 (VInt .i64) := (opens_int Try.underlying3 (by kernel_rfl)).z
theorem heapCollects_any (a : Option Addr) (n c : Nat) (l : List (Int × Int × Int × (UInt8 × Int × List (UInt8 × Int) × List UInt8) × (UInt8 × Int) × List Int)) (aR : Option Addr) (nR cR : Nat) (R : List Int) (w : World) (h : SlOf VOp 10 w (.slice a n c) l) (hR : SlOf (VInt .i64) 1 w (.slice aR nR cR) R) :
    Calls Try.prog 4 #[.slice a n c, .slice aR nR cR] w fun e w' => e = .returned (.bool true) ∧ Below w.heap.size w w' := by
  obtain ⟨L, hL⟩ := ops_open h
  have hl := hR.len
  have hi := hR.ints
  obtain rfl : nR = R.length := hl.1
  refine heapCollects_walk a n c L aR R.length cR R w hL hi (fun y hy => ?_)
  obtain ⟨j, hj, rfl⟩ := List.mem_iff_getElem.1 hy
  obtain ⟨b, off, cs', _, _, hv, _⟩ := hR.at j hj
  exact hv.2
end Go.Proofs.Ytekmgffjdheifaa
