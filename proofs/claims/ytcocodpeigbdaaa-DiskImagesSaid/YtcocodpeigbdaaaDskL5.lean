/-
  DiskPlays, walked. Conditions: the steps read.
-/
import Derived.Test.YtcocodpeigbdaaaDskL1
namespace Go.Proofs.Ytcocodpeigbdaaa
open Go.RowKit
set_option linter.unusedVariables false
set_option linter.unusedSimpArgs false

theorem two_ne : ∀ c : Nat, c = 2 → NZ c := fun c h => by rw [h]; exact Nat.succ_ne_zero _
theorem nine_ne : ∀ c : Nat, c = 9 → NZ c := fun c h => by rw [h]; exact Nat.succ_ne_zero _
/-- a step's list of kept numbers is of the input -/
theorem input_ne {col : Nat → Nat} {w wr : World} {aK : Option Addr} {nK cK : Nat} {keep : List Int} (hs : Sl w 1 (.slice aK nK cK) nK (ints keep)) (K : St NZ col0 w col wr) (c : Nat) (hc : ¬ 0 = c) : keep ≠ [] → ∀ g, (Value.slice aK nK cK).ownBlock = some g → ¬ col g = c := fun hne g hg e => by
  have h1 := hs.ownLt (by cases keep; exact absurd rfl hne; simp [ints]) hg
  have h2 := K.ext g h1
  rw [e] at h2
  exact hc h2.symm
set_option maxRecDepth 100000 in
set_option maxHeartbeats 4000000 in
theorem diskPlays_walk (z : Int) (a : Option Addr) (n c : Nat) (L : List Stp) (w : World) (hl : SlOf VStep 4 w (.slice a n c) L) :
    Calls Try.prog 6 #[.int .i64 z, .slice a n c] w fun e w' => e = .returned (.bool true) ∧ Below w.heap.size w w' := by
  have HN := Lib.hid hl.len.1
  go_enter Try.func6, Try.ntmps6
  go_wp2_with fail
  refine (vast_any a n c L w hl).mono ?_
  rintro e w1 ⟨Bv, rfl, HV, hb1⟩
  cases Bv with
  | true =>
    go_wp2_with fail
    refine (works_any w1).mono ?_
    rintro e wz ⟨rfl, hbz⟩
    go_wp2_with fail
    go_ret
    exact ⟨rfl, (hb1).trans (hbz.mono (hb1).size)⟩
  | false =>
  have HF : Hid (FewS L) := Lib.hid (HV.out rfl)
  have hn120 : n ≤ 120 := by rw [HN.out]; exact HF.out.1
  clear HV
  rcases (show (64 < z ∧ z ≤ 4096) ∨ (64 < z ∧ ¬ z ≤ 4096) ∨ ¬ 64 < z by omega) with ⟨z1, z2⟩ | hz
  · go_wp2_with fail
    refine (works_any w1).mono ?_
    rintro e wz ⟨rfl, hbz⟩
    go_wp2_with fail
    go_ret
    exact ⟨rfl, (hb1).trans (hbz.mono (hb1).size)⟩
  have hz64 : newIs z = true → z ≤ 64 := by intro h; simp [newIs] at h; omega
  have HZ := Lib.hid hz64
  clear hz64
  have hdec : ∃ G : Bool, G = false ∧ ((64 < z ∧ ¬ z ≤ 4096) ∨ ¬ 64 < z) := ⟨false, rfl, hz⟩
  clear hdec
  cases hnew : newIs z with
  | false =>
    have HNE := Lib.hid hnew
    clear hnew
    rcases hz with ⟨z1, z2⟩ | z1
    · go_wp2_with fail
      refine (new_no z w1 HNE).mono ?_
      rintro e w2 ⟨rfl, rfl⟩
      go_wp2_with fail
      refine (rnew_no z w1 HNE).mono ?_
      rintro e w2 ⟨rfl, rfl⟩
      go_wp2_with fail
      go_loopw [9] (fun v9 wr => v9 = .int .i64 0 ∧ Below w.heap.size w wr) (fun _ _ => 0)
      case atStart => exact ⟨rfl, hb1⟩
      case round =>
        obtain ⟨rfl, hb⟩ := hrel
        by_cases hn0 : (0 : Int) < n
        · go_wp2_with fail
          refine wp_region_idx Rb Rb_refl Rb_trans [(0,0),(0,1),(0,2),(0,3),(0,5),(0,6),(0,7),(0,8),(1,4),(1,9),(0,10),(0,11),(1,12),(0,13),(0,14)] (by kernel_rfl) (by kernel_rfl) (by kernel_rfl) ?_
          simp only [pickO, List.getD_cons_succ, List.getD_cons_zero]
          refine wpCan_seg 8 (by kernel_rfl) ?_
          simp only [List.take_succ_cons, List.take_zero, List.drop_succ_cons, List.drop_zero, List.map_cons, List.map_nil]
          iterate 8 (go_big_quiet_step (fail))
          refine wpQuiet_nil ?_
          refine wpCan_list (k := 0) (fun KK hK => ?_) (fun _ => Rb_refl _)
          go_wp2_with fail
          refine hK _ _ (fun _ => Rb_refl _) ?_
          clear hK KK
          refine wpCan_list (k := 0) (fun KK hK => ?_) (fun _ => Rb_refl _)
          go_wp2_with fail
          refine hK _ _ (fun _ => Rb_refl _) ?_
          clear hK KK
          refine wpCan_seg 2 (by kernel_rfl) ?_
          simp only [List.take_succ_cons, List.take_zero, List.drop_succ_cons, List.drop_zero, List.map_cons, List.map_nil]
          iterate 2 (go_big_quiet_step (fail))
          refine wpQuiet_nil ?_
          refine wpCan_list (k := 0) (fun KK hK => ?_) (fun _ => Rb_refl _)
          go_wp2_with fail
          refine (works_any wr.drew).mono ?_
          rintro e wz ⟨rfl, hbz⟩
          go_wp2_with fail
          refine hK _ _ (fun _ => hbz) ?_
          clear hK KK
          refine wpCan_seg 2 (by kernel_rfl) ?_
          simp only [List.take_succ_cons, List.take_zero, List.drop_succ_cons, List.drop_zero, List.map_cons, List.map_nil]
          iterate 2 (go_big_quiet_step (fail))
          refine wpQuiet_nil ?_
          unfold wpCan
          go_wp2_with fail
          go_ret
          exact ⟨rfl, hb.drew.trans (hbz.mono hb.size)⟩
        · go_wp2_with fail
          refine wp_region_idx Rb Rb_refl Rb_trans [(0,0),(0,1),(0,2),(0,3),(0,5),(0,6),(0,7),(0,8),(1,4),(1,9),(0,10),(0,11),(1,12),(0,13),(0,14)] (by kernel_rfl) (by kernel_rfl) (by kernel_rfl) ?_
          simp only [pickO, List.getD_cons_succ, List.getD_cons_zero]
          refine wpCan_seg 8 (by kernel_rfl) ?_
          simp only [List.take_succ_cons, List.take_zero, List.drop_succ_cons, List.drop_zero, List.map_cons, List.map_nil]
          iterate 8 (go_big_quiet_step (fail))
          refine wpQuiet_nil ?_
          refine wpCan_list (k := 0) (fun KK hK => ?_) (fun _ => Rb_refl _)
          go_wp2_with fail
          refine hK _ _ (fun _ => Rb_refl _) ?_
          clear hK KK
          refine wpCan_list (k := 0) (fun KK hK => ?_) (fun _ => Rb_refl _)
          go_wp2_with fail
          refine hK _ _ (fun _ => Rb_refl _) ?_
          clear hK KK
          refine wpCan_seg 2 (by kernel_rfl) ?_
          simp only [List.take_succ_cons, List.take_zero, List.drop_succ_cons, List.drop_zero, List.map_cons, List.map_nil]
          iterate 2 (go_big_quiet_step (fail))
          refine wpQuiet_nil ?_
          refine wpCan_list (k := 0) (fun KK hK => ?_) (fun _ => Rb_refl _)
          go_wp2_with fail
          refine (works_any wr.drew).mono ?_
          rintro e wz ⟨rfl, hbz⟩
          go_wp2_with fail
          refine hK _ _ (fun _ => hbz) ?_
          clear hK KK
          refine wpCan_seg 2 (by kernel_rfl) ?_
          simp only [List.take_succ_cons, List.take_zero, List.drop_succ_cons, List.drop_zero, List.map_cons, List.map_nil]
          iterate 2 (go_big_quiet_step (fail))
          refine wpQuiet_nil ?_
          unfold wpCan
          go_wp2_with fail
          go_ret
          exact ⟨rfl, hb.drew.trans (hbz.mono hb.size)⟩
    · go_wp2_with fail
      refine (new_no z w1 HNE).mono ?_
      rintro e w2 ⟨rfl, rfl⟩
      go_wp2_with fail
      refine (rnew_no z w1 HNE).mono ?_
      rintro e w2 ⟨rfl, rfl⟩
      go_wp2_with fail
      go_loopw [9] (fun v9 wr => v9 = .int .i64 0 ∧ Below w.heap.size w wr) (fun _ _ => 0)
      case atStart => exact ⟨rfl, hb1⟩
      case round =>
        obtain ⟨rfl, hb⟩ := hrel
        by_cases hn0 : (0 : Int) < n
        · go_wp2_with fail
          refine wp_region_idx Rb Rb_refl Rb_trans [(0,0),(0,1),(0,2),(0,3),(0,5),(0,6),(0,7),(0,8),(1,4),(1,9),(0,10),(0,11),(1,12),(0,13),(0,14)] (by kernel_rfl) (by kernel_rfl) (by kernel_rfl) ?_
          simp only [pickO, List.getD_cons_succ, List.getD_cons_zero]
          refine wpCan_seg 8 (by kernel_rfl) ?_
          simp only [List.take_succ_cons, List.take_zero, List.drop_succ_cons, List.drop_zero, List.map_cons, List.map_nil]
          iterate 8 (go_big_quiet_step (fail))
          refine wpQuiet_nil ?_
          refine wpCan_list (k := 0) (fun KK hK => ?_) (fun _ => Rb_refl _)
          go_wp2_with fail
          refine hK _ _ (fun _ => Rb_refl _) ?_
          clear hK KK
          refine wpCan_list (k := 0) (fun KK hK => ?_) (fun _ => Rb_refl _)
          go_wp2_with fail
          refine hK _ _ (fun _ => Rb_refl _) ?_
          clear hK KK
          refine wpCan_seg 2 (by kernel_rfl) ?_
          simp only [List.take_succ_cons, List.take_zero, List.drop_succ_cons, List.drop_zero, List.map_cons, List.map_nil]
          iterate 2 (go_big_quiet_step (fail))
          refine wpQuiet_nil ?_
          refine wpCan_list (k := 0) (fun KK hK => ?_) (fun _ => Rb_refl _)
          go_wp2_with fail
          refine (works_any wr.drew).mono ?_
          rintro e wz ⟨rfl, hbz⟩
          go_wp2_with fail
          refine hK _ _ (fun _ => hbz) ?_
          clear hK KK
          refine wpCan_seg 2 (by kernel_rfl) ?_
          simp only [List.take_succ_cons, List.take_zero, List.drop_succ_cons, List.drop_zero, List.map_cons, List.map_nil]
          iterate 2 (go_big_quiet_step (fail))
          refine wpQuiet_nil ?_
          unfold wpCan
          go_wp2_with fail
          go_ret
          exact ⟨rfl, hb.drew.trans (hbz.mono hb.size)⟩
        · go_wp2_with fail
          refine wp_region_idx Rb Rb_refl Rb_trans [(0,0),(0,1),(0,2),(0,3),(0,5),(0,6),(0,7),(0,8),(1,4),(1,9),(0,10),(0,11),(1,12),(0,13),(0,14)] (by kernel_rfl) (by kernel_rfl) (by kernel_rfl) ?_
          simp only [pickO, List.getD_cons_succ, List.getD_cons_zero]
          refine wpCan_seg 8 (by kernel_rfl) ?_
          simp only [List.take_succ_cons, List.take_zero, List.drop_succ_cons, List.drop_zero, List.map_cons, List.map_nil]
          iterate 8 (go_big_quiet_step (fail))
          refine wpQuiet_nil ?_
          refine wpCan_list (k := 0) (fun KK hK => ?_) (fun _ => Rb_refl _)
          go_wp2_with fail
          refine hK _ _ (fun _ => Rb_refl _) ?_
          clear hK KK
          refine wpCan_list (k := 0) (fun KK hK => ?_) (fun _ => Rb_refl _)
          go_wp2_with fail
          refine hK _ _ (fun _ => Rb_refl _) ?_
          clear hK KK
          refine wpCan_seg 2 (by kernel_rfl) ?_
          simp only [List.take_succ_cons, List.take_zero, List.drop_succ_cons, List.drop_zero, List.map_cons, List.map_nil]
          iterate 2 (go_big_quiet_step (fail))
          refine wpQuiet_nil ?_
          refine wpCan_list (k := 0) (fun KK hK => ?_) (fun _ => Rb_refl _)
          go_wp2_with fail
          refine (works_any wr.drew).mono ?_
          rintro e wz ⟨rfl, hbz⟩
          go_wp2_with fail
          refine hK _ _ (fun _ => hbz) ?_
          clear hK KK
          refine wpCan_seg 2 (by kernel_rfl) ?_
          simp only [List.take_succ_cons, List.take_zero, List.drop_succ_cons, List.drop_zero, List.map_cons, List.map_nil]
          iterate 2 (go_big_quiet_step (fail))
          refine wpQuiet_nil ?_
          unfold wpCan
          go_wp2_with fail
          go_ret
          exact ⟨rfl, hb.drew.trans (hbz.mono hb.size)⟩
  | true =>
    have HNE := Lib.hid hnew
    obtain ⟨k, rfl⟩ : ∃ k : Nat, z = k := ⟨z.toNat, by simp [newIs] at hnew; omega⟩
    have hk64 : ¬ (64 : Int) < k := by have := HZ.out hnew; omega
    clear hnew hz HZ
    go_wp2_with fail
    refine (new_yes k 1 (by decide) col0 w1 HNE).mono ?_
    rintro e w2 ⟨b, rfl, _, col2, k2, h2⟩
    have K2 : Hid (St NZ col0 w col2 w2) := Lib.hid ((St.fresh hb1 NZ col0).trans (k2.mono (fun _ h => h.elim)))
    rw [Int.toNat_natCast] at h2
    have H2 := Lib.hid h2
    clear k2 h2 hb1
    go_wp2_with fail
    refine (rnew_yes k 2 (by decide) col2 w2 HNE).mono ?_
    rintro e w3 ⟨r, rfl, _, col3, k3, h3⟩
    have K3 : Hid (St NZ col0 w col3 w3) := Lib.hid (K2.out.trans (k3.mono (fun _ h => h.elim)))
    rw [Int.toNat_natCast] at h3
    have R3 := Lib.hid h3
    have H3 := Lib.hid (H2.out.st k3 (fun h => h) (fun h => h))
    clear k3 h3 H2 K2
    have F0 : Hid ((newD k).Fits 0) := Lib.hid (newD_fits (by omega))
    generalize newD k = D0 at F0 H3 R3
    go_wp2_with fail
    go_loopw [9] (fun v9 wr => ∃ i col D, i ≤ n ∧ v9 = .int .i64 (i : Nat) ∧ Hid (St NZ col0 w col wr) ∧ Hid (DkAt 74 1 col wr b D) ∧ Hid (DkAt 59 2 col wr r D) ∧ Hid (D.Fits (2 * i))) (fun v9 _ => n - (intOf v9).toNat)
    case atStart => exact ⟨0, col3, D0, Nat.zero_le _, rfl, K3, H3, R3, F0⟩
    case round =>
      obtain ⟨i, col, D, hi, rfl, K, H, R, F⟩ := hrel
      by_cases hin : i = n
      · subst hin
        obtain ⟨aR, cR, aP, cP, sv, pv, hR⟩ := R.out
        have HIR : Hid (ImR wr (.slice aR D.S.length cR) D.S) := Lib.hid hR.imr
        have q0 := later_cell (hR.row.cell 0 : wr.cell? ⟨r, 0, none⟩ = some (.slice aR D.S.length cR))
        have HD := H
        have HLe : Hid (∀ l ∈ D.S, l.length ≤ 1048576) := Lib.hid (fun l hl => by have := F.out.fit.sl l hl; omega)
        have HS1 : Hid (D.S.length ≤ 1048576) := Lib.hid F.out.sec
        have hB := K.out.below
        clear hR
        obtain ⟨nS, hnS⟩ : ∃ nS, nS = D.S.length := ⟨_, rfl⟩
        rw [← hnS] at HIR q0 HS1
        have HNS := Lib.hid hnS
        clear hnS
        go_wp2_with fail
        refine wp_region_idx Rb Rb_refl Rb_trans [(0,0),(0,1),(0,2),(0,3),(0,5),(0,6),(0,7),(0,8),(1,4),(1,9),(0,10),(0,11),(1,12),(0,13),(0,14)] (by kernel_rfl) (by kernel_rfl) (by kernel_rfl) ?_
        simp only [pickO, List.getD_cons_succ, List.getD_cons_zero]
        refine wpCan_seg 8 (by kernel_rfl) ?_
        simp only [List.take_succ_cons, List.take_zero, List.drop_succ_cons, List.drop_zero, List.map_cons, List.map_nil]
        iterate 8 (go_big_quiet_step (fail))
        refine wpQuiet_nil ?_
        clear q0
        refine wpCan_list (k := 0) (fun KK hK => ?_) (fun _ => Rb_refl _)
        go_wp2_with fail
        refine (image_p 1 col b D wr.drew (HD.out.st (St.fresh (Below.refl _ _).drew (fun _ => False) col) (fun h => h) (fun h => h)) F.out.sec HLe.out).mono ?_
        rintro e w4 ⟨v4, us, rfl, hi4, hb4⟩
        rw [← HNS.out] at hi4
        obtain ⟨a4, c4, rfl⟩ := hi4.own.form
        go_wp2_with fail
        refine hK _ _ (fun _ => hb4) ?_
        clear hK KK
        have hb4' : Below wr.heap.size wr w4 := (Below.refl wr.heap.size wr).drew.trans hb4
        have HI4 := Lib.hid hi4.imr
        have HR4 := Lib.hid (HIR.out.below hb4')
        clear hi4 hb4
        refine wpCan_list (k := 0) (fun KK hK => ?_) (fun _ => Rb_refl _)
        go_wp2_with fail
        refine (sameImage_any a4 nS c4 D.S aR nS cR D.S w4 HI4.out HR4.out HS1.out HLe.out HLe.out true (Lib.hid (by simp))).mono ?_
        rintro e w5 ⟨rfl, hb5⟩
        go_wp2_with fail
        refine hK _ _ (fun _ => hb5) ?_
        clear hK KK
        refine wpCan_seg 2 (by kernel_rfl) ?_
        simp only [List.take_succ_cons, List.take_zero, List.drop_succ_cons, List.drop_zero, List.map_cons, List.map_nil]
        iterate 2 (go_big_quiet_step (fail))
        refine wpQuiet_nil ?_
        refine wpCan_list (k := 0) (fun KK hK => ?_) (fun _ => Rb_refl _)
        go_wp2_with fail
        refine (works_any w5).mono ?_
        rintro e wz ⟨rfl, hbz⟩
        go_wp2_with fail
        refine hK _ _ (fun _ => hbz) ?_
        clear hK KK
        refine wpCan_seg 2 (by kernel_rfl) ?_
        simp only [List.take_succ_cons, List.take_zero, List.drop_succ_cons, List.drop_zero, List.map_cons, List.map_nil]
        iterate 2 (go_big_quiet_step (fail))
        refine wpQuiet_nil ?_
        unfold wpCan
        go_wp2_with fail
        go_ret
        have hB5 := (hB.trans (hb4'.mono hB.size)).trans (hb5.mono (Nat.le_trans hB.size hb4'.size))
        exact ⟨rfl, hB5.trans (hbz.mono hB5.size)⟩
      have hlt : i < n := by omega
      have hlt' : (i : Int) < n := by omega
      obtain ⟨b7, o7, aB, nB, cB, l, aK, nK, cK, keep, Kd, s, rfl, hri, hrm, hrk, hop0, hd0, hd1, hd2, hd3⟩ := stp_at hl i hlt
      have hfew := HF.out.2 i Kd s l keep hri
      have hb7 : b7 < w.heap.size := lt_of_cell hd0
      have hc0 := (K.out.below.cell (p := ⟨b7, o7 + i * 4, none⟩) hb7).trans hd0
      have hc1 := (K.out.below.cell (p := ⟨b7, o7 + i * 4 + 1, none⟩) hb7).trans hd1
      have hc2 := (K.out.below.cell (p := ⟨b7, o7 + i * 4 + 2, none⟩) hb7).trans hd2
      have hc3 := (K.out.below.cell (p := ⟨b7, o7 + i * 4 + 3, none⟩) hb7).trans hd3
      have hnB : nB ≤ 1024 := by omega
      have HOP := Lib.hid hop0
      have HC := Lib.hid (And.intro hd0 (And.intro hd1 (And.intro hd2 hd3)))
      clear hri hrm hrk hfew hop0 hd0 hd1 hd2 hd3
      obtain ⟨E, hE⟩ : ∃ E, E = doE D Kd s l := ⟨_, rfl⟩
      obtain ⟨B, hB⟩ : ∃ B, B = doB D Kd s := ⟨_, rfl⟩
      obtain ⟨T, hT⟩ : ∃ T, T = doD D Kd s l keep := ⟨_, rfl⟩
      have HE := Lib.hid hE
      have HB := Lib.hid hB
      have HT := Lib.hid hT
      have hBle : B.length ≤ 256 := by rw [hB]; unfold doB; split; exact readB_le F.out.fit s; simp
      have F2 : Hid (T.Fits (2 * (i + 1))) := Lib.hid (by rw [hT]; exact doD_fits F.out Kd s l keep HOP.out.hi)
      have hEE : (E != E) = false := by simp
      clear hE hB hT
      go_wp2_with fail
      refine (do_p 1 col b D (2 * i) wr Kd s aB nB cB l aK nK cK keep H.out F.out (by omega) (by decide) (HOP.out.sb.below K.out.below) (by omega) (HOP.out.sk.below K.out.below) (input_ne HOP.out.sk K.out 1 (by decide)) E HE B HB T HT).mono ?_
      rintro e w4 ⟨v4, rfl, col4, k4, h4, o4⟩
      obtain ⟨a4, c4, rfl⟩ := o4.1.form
      have K4 := Lib.hid (K.out.trans (k4.mono one_ne))
      have R4 := Lib.hid (R.out.st k4 (by decide) (by decide))
      have H4 := Lib.hid h4
      have O4 := Lib.hid o4
      replace hc0 := (K4.out.below.cell (p := ⟨b7, o7 + i * 4, none⟩) hb7).trans HC.out.1
      replace hc1 := (K4.out.below.cell (p := ⟨b7, o7 + i * 4 + 1, none⟩) hb7).trans HC.out.2.1
      replace hc2 := (K4.out.below.cell (p := ⟨b7, o7 + i * 4 + 2, none⟩) hb7).trans HC.out.2.2.1
      replace hc3 := (K4.out.below.cell (p := ⟨b7, o7 + i * 4 + 3, none⟩) hb7).trans HC.out.2.2.2
      clear k4 h4 o4
      go_wp2_with fail
      refine (meant_p 2 col4 r D (2 * i) w4 Kd s aB nB cB l aK nK cK keep R4.out F.out (by omega) (by decide) (HOP.out.sb.below K4.out.below) (by omega) (HOP.out.sk.below K4.out.below) (input_ne HOP.out.sk K4.out 2 (by decide)) E HE B HB T HT).mono ?_
      rintro e w5 ⟨v5, rfl, col5, k5, h5, o5⟩
      obtain ⟨a5, c5, rfl⟩ := o5.1.form
      have K5 := Lib.hid (K4.out.trans (k5.mono two_ne))
      have H5 := Lib.hid (H4.out.st k5 (by decide) (by decide))
      have O5 := Lib.hid (O4.out.st k5 (by decide))
      have R5 := Lib.hid h5
      have Q5 := Lib.hid o5
      clear k5 h5 o5 hc0 hc1 hc2 hc3 H R K H4 R4 O4
      obtain ⟨nb, hnb⟩ : ∃ nb, nb = B.length := ⟨_, rfl⟩
      rw [← hnb] at O5 Q5 hBle ⊢
      have HNB := Lib.hid hnb
      clear hnb
      go_wp2_with fail
      refine (eqb_any a4 nb c4 a5 nb c5 B B w5 O5.out.1.sl Q5.out.1.sl (by omega) (by omega)).mono ?_
      rintro e w6 ⟨rfl, hb6⟩
      rw [decide_eq_true rfl]
      have k6 : St (fun _ => False) col5 w5 col5 w6 := St.fresh hb6 _ _
      have K6 := Lib.hid (K5.out.down hb6)
      have H6 := Lib.hid (H5.out.st k6 (fun h => h) (fun h => h))
      have R6 := Lib.hid (R5.out.st k6 (fun h => h) (fun h => h))
      have O6 := Lib.hid (O5.out.st k6 (fun h => h))
      clear k6 hb6 K5 H5 R5 O5 Q5
      go_wp2_with fail
      refine (alike_any 1 2 col5 b r T w6 H6.out R6.out).mono ?_
      rintro e w7 ⟨rfl, hb7'⟩
      have k7 : St (fun _ => False) col5 w6 col5 w7 := St.fresh hb7' _ _
      have K7 := Lib.hid (K6.out.down hb7')
      have H7 := Lib.hid (H6.out.st k7 (fun h => h) (fun h => h))
      have R7 := Lib.hid (R6.out.st k7 (fun h => h) (fun h => h))
      have O7 := Lib.hid (O6.out.st k7 (fun h => h))
      have C9 : Hid (∀ g, (Value.slice a4 nb c4).ownBlock = some g → col5 g = 9) := Lib.hid O6.out.2
      clear k7 hb7' K6 H6 R6 O6
      go_wp2_with fail
      go_loopw [14] (fun v14 wr => ∃ j l2, j ≤ nb ∧ v14 = .int .i64 (j : Nat) ∧ Hid (Own wr 0 1 (.slice a4 nb c4) nb (bvs l2)) ∧ Hid (St NZ col0 w col5 wr) ∧ Hid (DkAt 74 1 col5 wr b T) ∧ Hid (DkAt 59 2 col5 wr r T)) (fun v14 _ => nb - (intOf v14).toNat)
      case atStart => exact ⟨0, B, Nat.zero_le _, rfl, Lib.hid O7.out.1, K7, H7, R7⟩
      case round =>
        obtain ⟨j, l2, hj, rfl, O, K, H, R⟩ := hrel
        by_cases hjn : j = nb
        · subst hjn
          go_wp2_with fail
          exact ⟨⟨i + 1, col5, T, by omega, by go_num, K, H, R, F2⟩, by simp [intOf]; omega⟩
        · have hjlt : j < nb := by omega
          have hjlt' : (j : Int) < nb := by omega
          obtain ⟨g, off, cap, he, hg1, hg2, hg3, hg4, hlen⟩ := O.out.open (by omega) (by decide)
          cases he
          have hl2 : l2.length = nb := by rw [bvs_length] at hlen; omega
          have hc := O.out.get j (by rw [bvs_length]; omega)
          have hf := O.out.free j (by rw [bvs_length]; omega)
          rw [bvs_get _ _ (by omega)] at hc
          generalize hz : l2.getD j 0 = z at hc
          obtain ⟨y, hy⟩ : ∃ y : UInt8, y = z + 1 := ⟨_, rfl⟩
          have hy2 : (y.toNat : Int) = ((z.toNat : Int) + 1) % 256 := by rw [hy, UInt8.toNat_add]; simp
          clear hz hy hl2 hlen hg1
          go_wp2_with (refine wpL_storeOwn (g := 0) rfl _ _ _ rfl (v := .int .u8 (y.toNat : Int)) rfl (by rw [hy2]; rfl) rfl rfl (by kernel_rfl) O.out j rfl (by rw [bvs_length]; have := O.out.len; omega) ?_; intro w8 hg8 ho8)
          rw [bvs_set] at ho8
          have k8 : St (fun x => x = 9) col5 _ col5 w8 := St.one hg8 _ _ (C9.out g rfl)
          exact ⟨⟨j + 1, _, hjlt, by go_num, Lib.hid ho8, Lib.hid (K.out.trans (k8.mono nine_ne)), Lib.hid (H.out.st k8 (by decide) (by decide)), Lib.hid (R.out.st k8 (by decide) (by decide))⟩, by simp [intOf]; omega⟩
end Go.Proofs.Ytcocodpeigbdaaa
