/-
  DiskLasts, walked. Conditions: the steps and the crash read.
-/
import Derived.Test.YtcocodpeigbdaaaDskX
import Derived.Test.YtcocodpeigbdaaaDskL4
import Derived.Test.YtcocodpeigbdaaaDskL5
namespace Go.Proofs.Ytcocodpeigbdaaa
open Go.RowKit
set_option linter.unusedVariables false
set_option linter.unusedSimpArgs false

theorem etI : ET Try.prog 30 3 (.int .i64 0) 1 8 := ⟨Try.underlying30, by kernel_rfl, rfl, by decide⟩
def VCrash : World → List Value → List Int × Int → Prop := VRec2 1 1 (VSl (VInt .i64) 1) (VInt .i64)
theorem opensCrash : Opens Try.prog 62 2 VCrash := opens_rec2 Try.underlying62 (by kernel_rfl) rfl rfl rfl rfl (opens_sl (opens_int Try.underlying3 (by kernel_rfl)) (by decide) Try.underlying30 (by kernel_rfl)) (opens_int Try.underlying3 (by kernel_rfl))
theorem crash_rec {w : World} {cs : List Value} {keep : List Int} {t : Int} (h : VCrash w cs (keep, t)) : ∃ aK cK, cs = [.slice aK keep.length cK, .int .i64 t] ∧ Sl w 1 (.slice aK keep.length cK) keep.length (ints keep) := by
  obtain ⟨c0, c1, rfl, h0, h1, ⟨x, rfl, v2⟩, ⟨rfl, v1⟩⟩ := h
  obtain ⟨aK, cK, rfl, _, _⟩ := v2.form
  exact ⟨aK, cK, rfl, v2.ints⟩
theorem three_ne : ∀ c : Nat, c = 3 → NZ c := fun c h => by rw [h]; exact Nat.succ_ne_zero _
def Good0 (L : List Stp) (s : Nat) (B : List UInt8) (n j : Nat) (mb : Bool) : Prop := mb = false → ∃ j0, j ≤ j0 ∧ j0 < n ∧ IsW L j0 s B
def Good1 (L : List Stp) (s n j : Nat) (wb : Bool) : Prop := wb = false → ∃ B j0, j ≤ j0 ∧ j0 < n ∧ IsW L j0 s B
theorem Good0.skip {L : List Stp} {s n j : Nat} {B : List UInt8} {mb : Bool} (h : Good0 L s B n j mb) (hn : ∀ l keep, L[j]? = some ((1 : Int), (s : Int), l, keep) → l.length ≤ 256 → B = fullB l → False) : Good0 L s B n (j + 1) mb := fun e => by
  obtain ⟨j0, h1, h2, h3⟩ := h e
  have hne : j0 ≠ j := fun e => by
    subst e
    obtain ⟨l, keep, g1, g2, g3⟩ := h3
    exact hn l keep g1 g2 g3
  exact ⟨j0, by omega, h2, h3⟩
theorem Good1.skip {L : List Stp} {s n j : Nat} {mb : Bool} (h : Good1 L s n j mb) (hn : ∀ l keep, L[j]? = some ((1 : Int), (s : Int), l, keep) → l.length ≤ 256 → False) : Good1 L s n (j + 1) mb := fun e => by
  obtain ⟨B, j0, h1, h2, h3⟩ := h e
  have hne : j0 ≠ j := fun e => by
    subst e
    obtain ⟨l, keep, g1, g2, g3⟩ := h3
    exact hn l keep g1 g2
  exact ⟨B, j0, by omega, h2, h3⟩
theorem ls_after {L : List Stp} {D : Dk} {n : Nat} (h : LsInv L D n) (keep : List Int) (t : Int) {s : Nat} (hs : s < 16) :
    (∃ B, 0 = readE (crashD D keep t) s ∧ readB (crashD D keep t) s = B ∧ B.length = 256 ∧ (B = D.S.getD s [] ∨ ∃ j0, lastB L n ≤ j0 ∧ j0 < n ∧ IsW L j0 s B)) ∨
    (∃ B, 5 = readE (crashD D keep t) s ∧ readB (crashD D keep t) s = [] ∧ 0 ≤ t ∧ ∃ j0, lastB L n ≤ j0 ∧ j0 < n ∧ IsW L j0 s B) := by
  rcases h.after keep t hs with ⟨e0, eb⟩ | ⟨j0, B, e0, eb, hl, h1, h2, h3⟩ | ⟨j0, B, e0, eb, ht, h1, h2, h3⟩
  · exact .inl ⟨_, e0, eb, h.full s hs, .inl rfl⟩
  · exact .inl ⟨B, e0, eb, hl, .inr ⟨j0, h1, h2, h3⟩⟩
  · exact .inr ⟨B, e0, eb, ht, j0, h1, h2, h3⟩
theorem ints_ne {l : List Int} (h : l ≠ []) : ints l ≠ [] := by cases l; exact absurd rfl h; simp [ints]
theorem ints_app (l m : List Int) : ints (l ++ m) = ints l ++ ints m := by simp [ints]
set_option maxRecDepth 100000 in
set_option maxHeartbeats 3000000 in
theorem diskLasts_walk (a : Option Addr) (n c : Nat) (L : List Stp) (cs : Array Value) (d : List Int × Int) (w : World) (hl : SlOf VStep 4 w (.slice a n c) L) (hcr : VCrash w cs.toList d) :
    Calls Try.prog 7 #[.slice a n c, .agg cs] w fun e w' => e = .returned (.bool true) ∧ Below w.heap.size w w' := by
  obtain ⟨keep, t⟩ := d
  obtain ⟨aK, cK, hcs, hks⟩ := crash_rec hcr
  obtain ⟨nK, hnK⟩ : ∃ nK, nK = keep.length := ⟨_, rfl⟩
  rw [← hnK] at hcs hks
  obtain rfl : cs = #[.slice aK nK cK, .int .i64 t] := by
    rw [← Array.toArray_toList (xs := cs), hcs]
  have HNK := Lib.hid hnK
  have HN := Lib.hid hl.len.1
  clear hcr hcs hnK
  have hb1 : Below w.heap.size w (w.alloc (.cells #[.slice aK nK cK, .int .i64 t] 62)) := (Below.refl _ _).alloc (Nat.le_refl _) _
  have hr1 : Row (w.alloc (.cells #[.slice aK nK cK, .int .i64 t] 62)) w.heap.size 62 [.slice aK nK cK, .int .i64 t] := Row.new _ _ _
  have hl1 := hl.below stabStep hb1
  have HKS := Lib.hid (hks.below hb1)
  have HB1 := Lib.hid hb1
  have HR1 := Lib.hid hr1
  clear hl hks hb1 hr1
  go_enter Try.func7, Try.ntmps7
  go_wp2_with fail
  obtain ⟨b0, hb0⟩ : ∃ b0, b0 = w.heap.size := ⟨_, rfl⟩
  rw [← hb0] at HR1 ⊢
  clear hb0
  generalize (w.alloc (.cells #[.slice aK nK cK, .int .i64 t] 62)) = w1 at hl1 HKS HB1 HR1 ⊢
  refine (vast_any a n c L w1 hl1).mono ?_
  rintro e w2 ⟨Bv, rfl, HV, hb2⟩
  have hB2 := HB1.out.trans (hb2.mono HB1.out.size)
  cases Bv with
  | true =>
    go_wp2_with fail
    refine (works_any w2).mono ?_
    rintro e wz ⟨rfl, hbz⟩
    go_wp2_with fail
    go_ret
    exact ⟨rfl, (hB2).trans (hbz.mono (hB2).size)⟩
  | false =>
  have HF : Hid (FewS L) := Lib.hid (HV.out rfl)
  have hn120 : n ≤ 120 := by rw [HN.out]; exact HF.out.1
  clear HV
  have k0 : w2.cell? ⟨b0, 0, none⟩ = some (.slice aK nK cK) := (HR1.out.after hb2).cell 0
  by_cases hk256 : 256 < nK
  · have h' : (256 : Int) < nK := by omega
    go_wp2_with fail
    refine (works_any w2).mono ?_
    rintro e wz ⟨rfl, hbz⟩
    go_wp2_with fail
    go_ret
    exact ⟨rfl, (hB2).trans (hbz.mono (hB2).size)⟩
  have hk256' : ¬ (256 : Int) < nK := by omega
  go_wp2_with fail
  refine (new16 w2 col0).mono ?_
  rintro e w3 ⟨b, rfl, col3, k3, h3⟩
  have K3 : Hid (St NZ col0 w1 col3 w3) := Lib.hid ((St.fresh hb2 NZ col0).trans (k3.mono (fun _ h => h.elim)))
  have H3 := Lib.hid h3
  clear k3 h3 hb2 k0 hB2
  go_wp2_with fail
  go_loopw [7] (fun v7 wr => ∃ i col D, i ≤ n ∧ v7 = .int .i64 (i : Nat) ∧ Hid (St NZ col0 w1 col wr) ∧ Hid (DkAt 74 1 col wr b D) ∧ Hid (LsInv L D i)) (fun v7 _ => n - (intOf v7).toNat)
  case atStart => exact ⟨0, col3, wk0, Nat.zero_le _, rfl, K3, H3, Lib.hid (LsInv.start L)⟩
  case round =>
    obtain ⟨i, col, D, hi, rfl, K, H, I⟩ := hrel
    by_cases hin : i = n
    rotate_left
    · have hlt : i < n := by omega
      have hlt' : (i : Int) < n := by omega
      obtain ⟨b7, o7, aB, nB, cB, l, aS, nS, cS, kp, Kd, s, rfl, hri, hrm, hrk, hop0, hd0, hd1, hd2, hd3⟩ := stp_at hl1 i hlt
      have hfew := HF.out.2 i Kd s l kp hri
      have hb7 : b7 < (w1).heap.size := lt_of_cell hd0
      have hc0 := ((K.out.below).cell (p := ⟨b7, o7 + i * 4, none⟩) hb7).trans hd0
      have hc1 := ((K.out.below).cell (p := ⟨b7, o7 + i * 4 + 1, none⟩) hb7).trans hd1
      have hc2 := ((K.out.below).cell (p := ⟨b7, o7 + i * 4 + 2, none⟩) hb7).trans hd2
      have hc3 := ((K.out.below).cell (p := ⟨b7, o7 + i * 4 + 3, none⟩) hb7).trans hd3
      have hnB : nB ≤ 1024 := by omega
      have HRI := Lib.hid hri
      have HRM := Lib.hid hrm
      have HOP := Lib.hid hop0
      clear hri hrm hrk hfew hop0
      by_cases k1 : Kd = 1
      · subst k1
        have I2 := Lib.hid (I.out.write HRI.out)
        go_wp2_with fail
        refine (do_p 1 col b D (2 * i) wr 1 s aB nB cB l aS nS cS kp H.out I.out.fits (by omega) (by decide) (HOP.out.sb.below K.out.below) (by omega) (HOP.out.sk.below K.out.below) (input_ne HOP.out.sk K.out 1 (by decide)) _ (Lib.hid rfl) _ (Lib.hid rfl) (writeD D s l) (Lib.hid rfl)).mono ?_
        rintro e w4 ⟨v4, rfl, col4, k4, h4, o4⟩
        clear hd0 hd1 hd2 hd3
        go_wp2_with fail
        exact ⟨⟨i + 1, col4, writeD D s l, by omega, by go_num, Lib.hid (K.out.trans (k4.mono one_ne)), Lib.hid h4, I2⟩, by simp [intOf]; omega⟩
      have e1 : (Kd == 1) = false := by simp [k1]
      by_cases k2 : Kd = 2
      · subst k2
        have I2 := Lib.hid I.out.bar
        go_wp2_with fail
        refine (do_p 1 col b D (2 * i) wr 2 s aB nB cB l aS nS cS kp H.out I.out.fits (by omega) (by decide) (HOP.out.sb.below K.out.below) (by omega) (HOP.out.sk.below K.out.below) (input_ne HOP.out.sk K.out 1 (by decide)) _ (Lib.hid rfl) _ (Lib.hid rfl) (barrierD D) (Lib.hid rfl)).mono ?_
        rintro e w4 ⟨v4, rfl, col4, k4, h4, o4⟩
        clear hd0 hd1 hd2 hd3
        go_wp2_with fail
        exact ⟨⟨i + 1, col4, barrierD D, by omega, by go_num, Lib.hid (K.out.trans (k4.mono one_ne)), Lib.hid h4, I2⟩, by simp [intOf]; omega⟩
      have e2 : (Kd == 2) = false := by simp [k2]
      have I2 : Hid (LsInv L D (i + 1)) := Lib.hid (I.out.keep (by rw [kindAt_eq HRI.out]; exact k2))
      clear k1 k2
      go_wp2_with fail
      exact ⟨⟨i + 1, col, D, by omega, by go_num, K, H, I2⟩, by simp [intOf]; omega⟩
    subst hin
    clear K3 H3
    go_wp2_with fail
    refine (image_q 1 col b D (2 * i) wr H.out I.out.fits 16 I.out.len).mono ?_
    rintro e w4 ⟨a4, c4, rfl, hi4, hb4⟩
    have K4 := Lib.hid (K.out.trans (St.new hb4 NZ col 0))
    have H4 := Lib.hid (H.out.st (St.new hb4 (fun _ => False) col 0) (fun h => h) (fun h => h))
    have W4 := Lib.hid hi4
    clear hb4 hi4 K H
    generalize recol col wr.heap.size 0 = col4 at K4 H4 W4
    obtain ⟨w5, hw5⟩ : ∃ w5, w5 = w4 := ⟨_, rfl⟩
    rw [← hw5] at K4 H4 W4 ⊢
    clear hw5
    go_wp2_with fail
    go_loopw [9, 10] (fun v9 v10 wr => ∃ s us a9 c9, s ≤ 16 ∧ v10 = .int .i64 (s : Nat) ∧ v9 = .slice a9 s c9 ∧ Hid (Imgs wr w5.heap.size (.slice a9 s c9) s us (readsL D s)) ∧ Below w5.heap.size w5 wr) (fun _ v10 _ => 16 - (intOf v10).toNat)
    case atStart => exact ⟨0, [], none, 0, by omega, rfl, rfl, Lib.hid ⟨Own.nil _ _ _, .nil, fun u hu => by cases hu⟩, Below.refl _ _⟩
    case round =>
      obtain ⟨s, us, a9, c9, hs, rfl, rfl, R9, hb⟩ := hrel
      by_cases hs16 : s = 16
      rotate_left
      · have hlt : s < 16 := by omega
        have hlt' : (s : Int) < 16 := by omega
        have RD := Lib.hid (I.out.read hlt)
        have Hr := Lib.hid (H4.out.st (St.fresh hb (fun _ => False) col4) (fun h => h) (fun h => h))
        go_wp2_with fail
        refine (read_ok 1 col4 b D (2 * i) s wr (pickD D s) Hr.out I.out.fits (by omega) RD.out.1 RD.out.2.1 RD.out.2.2).mono ?_
        rintro e w6 ⟨au, cu, rfl, hou, hbu⟩
        have hb7 : Below w6.heap.size w6 (w6.alloc (.cells #[.slice au 256 cu] 22)) := (Below.refl _ _).alloc (Nat.le_refl _) _
        have HI7 := Lib.hid (R9.out.below (hbu.trans (hb7.mono hbu.size)))
        have HU7 := Lib.hid (hou.below hb7)
        have HS7 := Lib.hid (Sl.one w6 (.slice au 256 cu) 22)
        have hbb := (hb.trans (hbu.mono hb.size)).trans (hb7.mono (Nat.le_trans hb.size hbu.size))
        have HSEP : Hid (∀ g, (Value.slice au 256 cu).ownBlock = some g → (Value.slice a9 s c9).ownBlock ≠ some g) := Lib.hid (fun q hq e => by
          have h1 := hou.lt q hq
          have h2 := R9.out.own.lives q e
          omega)
        clear hou hb7
        go_wp2_with (at_builtin; refine wpL_appendY etBB rfl _ _ rfl HI7.out.own rfl HS7.out rfl (by simp [Value.oneCell']) (by omega) (by simp [maxLen]; omega) hbb.size ?_; intro v8 w8 ho8 hg8 hor8; obtain ⟨a8, c8, rfl⟩ := ho8.form; have HO8 := Lib.hid ho8; have HG8 := Lib.hid hg8; have HR8 := Lib.hid hor8; clear ho8 hg8 hor8)
        refine ⟨⟨s + 1, us ++ [.slice au 256 cu], a8, c8, by omega, by go_num, rfl, Lib.hid ?_, below_own hbb HI7.out.own HG8.out (Nat.le_refl _) hbb.size⟩, by simp [intOf]; omega⟩
        rw [readsL_succ]
        exact HI7.out.push (l := pickD D s) (by rw [RD.out.2.2]; exact HU7.out.mono hb.size) HSEP.out HO8.out HG8.out HR8.out
      subst hs16
      have H6 := Lib.hid (H4.out.st (St.new hb (fun _ => False) col4 0) (fun h => h) (fun h => h))
      have K6 := Lib.hid (K4.out.trans (St.new hb NZ col4 0))
      have W6 := Lib.hid (W4.out.st (St.new hb (fun _ => False) col4 0) (fun h => h))
      have R6 : Hid (ImI (recol col4 w5.heap.size 0) wr (.slice a9 16 c9) (readsL D 16)) := Lib.hid (ImI.new R9.out)
      clear hb K4 H4 W4 R9
      generalize recol col4 w5.heap.size 0 = col6 at H6 K6 W6 R6
      obtain ⟨w6, hw6⟩ : ∃ w6, w6 = wr := ⟨_, rfl⟩
      rw [← hw6] at H6 K6 W6 R6 ⊢
      clear hw6
      go_wp2_with fail
      go_loopw [13, 14] (fun v13 v14 wr => ∃ j, j ≤ i ∧ v14 = .int .i64 (j : Nat) ∧ v13 = .int .i64 (lastB L j : Nat) ∧ Below w6.heap.size w6 wr) (fun _ v14 _ => i - (intOf v14).toNat)
      case atStart => exact ⟨0, Nat.zero_le _, rfl, rfl, Below.refl _ _⟩
      case round =>
        obtain ⟨j, hj, rfl, rfl, hb⟩ := hrel
        have HB6 := Lib.hid hb
        by_cases hji : j = i
        rotate_left
        · have hlt2 : j < i := by omega
          have hlt2' : (j : Int) < i := by omega
          obtain ⟨b7, o7, aB, nB, cB, l, aS, nS, cS, kp, Kd, sd, rfl, hri, hrm, hrk, hop0, hd0, hd1, hd2, hd3⟩ := stp_at hl1 j hlt2
          have hfew := HF.out.2 j Kd sd l kp hri
          have hb7 : b7 < (w1).heap.size := lt_of_cell hd0
          have hc0 := (((K6.out.below.trans (hb.mono K6.out.below.size))).cell (p := ⟨b7, o7 + j * 4, none⟩) hb7).trans hd0
          have hc1 := (((K6.out.below.trans (hb.mono K6.out.below.size))).cell (p := ⟨b7, o7 + j * 4 + 1, none⟩) hb7).trans hd1
          have hc2 := (((K6.out.below.trans (hb.mono K6.out.below.size))).cell (p := ⟨b7, o7 + j * 4 + 2, none⟩) hb7).trans hd2
          have hnB : nB ≤ 1024 := by omega
          have HRI := Lib.hid hri
          have HRM := Lib.hid hrm
          have HOP := Lib.hid hop0
          clear hri hrm hrk hfew hop0 hd0 hd1 hd2 hd3
          by_cases k2 : Kd = 2
          · subst k2
            have e : lastB L (j + 1) = j := by rw [lastB, if_pos (kindAt_eq HRI.out)]
            go_wp2_with fail
            exact ⟨⟨j + 1, by omega, by go_num, by rw [e], HB6.out⟩, by simp [intOf]; omega⟩
          · have e : lastB L (j + 1) = lastB L j := by rw [lastB, if_neg (by rw [kindAt_eq HRI.out]; exact k2)]
            have e2 : (Kd == 2) = false := by simp [k2]
            clear k2
            go_wp2_with fail
            exact ⟨⟨j + 1, by omega, by go_num, by rw [e], HB6.out⟩, by simp [intOf]; omega⟩
        subst hji
        have hmn := lastB_le L j
        obtain ⟨m, hm⟩ : ∃ m, m = lastB L j := ⟨_, rfl⟩
        rw [← hm] at hmn ⊢
        have HMN := Lib.hid hm
        have H7 := Lib.hid (H6.out.st (St.fresh hb (fun _ => False) col6) (fun h => h) (fun h => h))
        have K7 := Lib.hid (K6.out.down hb)
        have W7 := Lib.hid (W6.out.st (St.fresh hb (fun _ => False) col6) (fun h => h))
        have R7 := Lib.hid (R6.out.st (St.fresh hb (fun _ => False) col6) (fun h => h))
        clear H6 K6 W6 R6 hb HB6 hm
        have CR := Lib.hid (I.out.crash keep t)
        have FT := Lib.hid (I.out.crashFits keep t)
        have TW := Lib.hid I.out.twin
        go_wp2_with fail
        refine (copy_p 1 col6 b D (2 * j) 3 wr H7.out I.out.fits (by omega) (by decide)).mono ?_
        rintro e w8 ⟨q, rfl, col8, k8, q8⟩
        have H8 := Lib.hid (H7.out.st k8 (fun h => h) (fun h => h))
        have K8 := Lib.hid (K7.out.trans (k8.mono (fun _ h => h.elim)))
        have W8 := Lib.hid (W7.out.st k8 (fun h => h))
        have R8 := Lib.hid (R7.out.st k8 (fun h => h))
        have Q8 := Lib.hid q8
        clear k8 q8 H7 K7 W7 R7
        go_wp2_with fail
        refine (off_p 1 col8 b D w8 H8.out (offD D) (Lib.hid rfl)).mono ?_
        rintro e w9 ⟨⟨v9, rfl⟩, col9, k9, h9⟩
        have K9 := Lib.hid (K8.out.trans (k9.mono one_ne))
        have W9 := Lib.hid (W8.out.st k9 (by decide))
        have R9 := Lib.hid (R8.out.st k9 (by decide))
        have Q9 := Lib.hid (Q8.out.st k9 (by decide) (by decide))
        have H9 := Lib.hid h9
        clear k9 h9 K8 W8 R8 Q8 H8
        go_wp2_with fail
        refine (read_p 1 col9 b (offD D) 0 w9 [] H9.out (by have := FT.out.2.pen; omega) (by decide) 4 (Lib.hid CR.out.2.2.2.2.1) (Lib.hid CR.out.2.2.2.2.2.symm)).mono ?_
        rintro e wa ⟨va, rfl, hoa, hba⟩
        have ka : St (fun _ => False) col9 w9 col9 wa := St.fresh hba _ _
        have Ha := Lib.hid (H9.out.st ka (fun h => h) (fun h => h))
        have Ka := Lib.hid (K9.out.down hba)
        have Wa := Lib.hid (W9.out.st ka (fun h => h))
        have Ra := Lib.hid (R9.out.st ka (fun h => h))
        have Qa := Lib.hid (Q9.out.st ka (fun h => h) (fun h => h))
        clear ka hoa hba H9 K9 W9 R9 Q9
        have hRa := HR1.out.after Ka.out.below
        have d0 := hRa.cell 0
        have d1 := hRa.cell 1
        clear hRa
        go_wp2_with fail
        refine (on_p 1 col9 b (offD D) (2 * j + 2) wa Ha.out FT.out.2 (by omega) t aK nK cK keep (HKS.out.below Ka.out.below) (input_ne HKS.out Ka.out 1 (by decide)) 0 (Lib.hid CR.out.1) (crashD D keep t) (Lib.hid CR.out.2.1)).mono ?_
        rintro e wb ⟨rfl, colb, kb, hb1⟩
        have Kb := Lib.hid (Ka.out.trans (kb.mono one_ne))
        have Wb := Lib.hid (Wa.out.st kb (by decide))
        have Rb := Lib.hid (Ra.out.st kb (by decide))
        have Qb := Lib.hid (Qa.out.st kb (by decide) (by decide))
        have Hb := Lib.hid hb1
        obtain ⟨ap, cp, dp⟩ := hb1.c1
        have dp' : wb.cell? ⟨b, 1, none⟩ = some (.slice ap 0 cp) := dp
        clear d0 d1 kb hb1 dp Ka Wa Ra Qa Ha
        go_wp2_with fail
        refine (pending_any b ap 0 cp wb dp').mono ?_
        rintro e wb' ⟨rfl, rfl⟩
        have hRb := HR1.out.after Kb.out.below
        have d0 := hRb.cell 0
        have d1 := hRb.cell 1
        clear hRb dp'
        go_wp2_with fail
        refine (on_p 1 colb b (crashD D keep t) (2 * j + 4) wb Hb.out FT.out.1 (by omega) t aK nK cK keep (HKS.out.below Kb.out.below) (input_ne HKS.out Kb.out 1 (by decide)) 3 (Lib.hid CR.out.2.2.1) (crashD D keep t) (Lib.hid CR.out.2.2.2.1)).mono ?_
        rintro e wc ⟨rfl, colc, kc, hc1⟩
        have Kc := Lib.hid (Kb.out.trans (kc.mono one_ne))
        have Wc := Lib.hid (Wb.out.st kc (by decide))
        have Rc := Lib.hid (Rb.out.st kc (by decide))
        have Qc := Lib.hid (Qb.out.st kc (by decide) (by decide))
        have Hc := Lib.hid hc1
        clear d0 d1 kc hc1 Kb Wb Rb Qb Hb
        obtain ⟨wd, hwd⟩ : ∃ x, x = wc := ⟨_, rfl⟩
        rw [← hwd] at Kc Wc Rc Qc Hc ⊢
        clear hwd
        go_wp2_with fail
        go_loopw [18] (fun v18 wr => ∃ s, s ≤ 16 ∧ v18 = .int .i64 (s : Nat) ∧ Below wd.heap.size wd wr) (fun v18 _ => 16 - (intOf v18).toNat)
        case atStart => exact ⟨0, by omega, rfl, Below.refl _ _⟩
        case round =>
          obtain ⟨s, hs, rfl, hb⟩ := hrel
          by_cases hs16 : s = 16
          rotate_left
          · have hlt3 : s < 16 := by omega
            have hlt3' : (s : Int) < 16 := by omega
            have Hd := Lib.hid (Hc.out.st (St.fresh hb (fun _ => False) colc) (fun h => h) (fun h => h))
            have Kq := Lib.hid (Kc.out.down hb)
            have Wd := Lib.hid (Wc.out.st (St.fresh hb (fun _ => False) colc) (fun h => h))
            have HBD := Lib.hid hb
            rcases ls_after I.out keep t hlt3 with ⟨Bq, e0, eb, hBl, hor⟩ | ⟨Bq, e0, eb, ht, hor⟩
            · rw [← HMN.out] at hor
              have HOR := Lib.hid hor
              have HE := Lib.hid (And.intro e0 (And.intro eb hBl))
              clear hor e0 eb hb
              go_wp2_with fail
              refine (read_ok 1 colc b (crashD D keep t) (2 * j + 4) s wr Bq Hd.out FT.out.1 (by omega) HE.out.1 HE.out.2.1 HE.out.2.2).mono ?_
              rintro e we ⟨ae, ce, rfl, hoe, hbe⟩
              obtain ⟨ge, oe, av, cv, rfl, hcv, hsv⟩ := (Wd.out.imr.below hbe).at s hlt3
              have hfull := I.out.full s hlt3
              rw [hfull] at hcv hsv
              have OE := Lib.hid hoe
              have SV := Lib.hid hsv
              have BE := HBD.out.trans (hbe.mono HBD.out.size)
              have KE := Lib.hid (Kq.out.down hbe)
              clear hoe hbe hsv hfull HBD
              go_wp2_with fail
              refine (eqb_any ae 256 ce av 256 cv Bq (D.S.getD s []) we OE.out.sl SV.out (by decide) (by decide)).mono ?_
              rintro e wf ⟨rfl, hbf⟩
              obtain ⟨mb0, hmb⟩ : ∃ x, x = decide (Bq = D.S.getD s []) := ⟨_, rfl⟩
              rw [← hmb]
              have G0 : Hid (Good0 L s Bq j m mb0) := Lib.hid (fun e => by
                rcases HOR.out with h | h
                · rw [hmb, h] at e; simp at e
                · exact h)
              have BF := BE.trans (hbf.mono BE.size)
              have KF := Lib.hid (KE.out.down hbf)
              have OF := Lib.hid (OE.out.below hbf)
              clear hmb hcv OE SV BE hbf KE HOR HE Wd Hd Kq
              go_wp2_with fail
              go_loopw [21, 22, 23] (fun v21 v22 v23 wr => ∃ u mb wb, u ≤ j ∧ v23 = .int .i64 (u : Nat) ∧ v21 = .bool mb ∧ v22 = .bool wb ∧ Hid (Good0 L s Bq j u mb) ∧ Below wf.heap.size wf wr) (fun _ _ v23 _ => j - (intOf v23).toNat)
              case atStart => exact ⟨m, mb0, false, hmn, rfl, rfl, rfl, G0, Below.refl _ _⟩
              case round =>
                obtain ⟨u, mb, wb, hu, rfl, rfl, rfl, G, hb⟩ := hrel
                have HB9 := Lib.hid hb
                by_cases huj : u = j
                · subst huj
                  obtain rfl : mb = true := by
                    cases mb with
                    | true => rfl
                    | false => obtain ⟨j0, h1, h2, _⟩ := G.out rfl; omega
                  go_wp2_with fail
                  exact ⟨⟨s + 1, by omega, by go_num, BF.trans (HB9.out.mono BF.size)⟩, by simp [intOf]; omega⟩
                have hlt4 : u < j := by omega
                have hlt4' : (u : Int) < j := by omega
                have hBI := KF.out.below.trans (hb.mono KF.out.below.size)
                obtain ⟨b7, o7, aB, nB, cB, l, aS, nS, cS, kp, Kd, sd, rfl, hri, hrm, hrk, hop0, hd0, hd1, hd2, hd3⟩ := stp_at hl1 u hlt4
                have hfew := HF.out.2 u Kd sd l kp hri
                have hb7 : b7 < (w1).heap.size := lt_of_cell hd0
                have hc0 := ((hBI).cell (p := ⟨b7, o7 + u * 4, none⟩) hb7).trans hd0
                have hc1 := ((hBI).cell (p := ⟨b7, o7 + u * 4 + 1, none⟩) hb7).trans hd1
                have hc2 := ((hBI).cell (p := ⟨b7, o7 + u * 4 + 2, none⟩) hb7).trans hd2
                have hnB : nB ≤ 1024 := by omega
                have HRI := Lib.hid hri
                have HRM := Lib.hid hrm
                have HOP := Lib.hid hop0
                clear hri hrm hrk hfew hop0 hd0 hd1 hd2 hd3
                have HBI := Lib.hid hBI
                clear hb hBI
                go_wp2_with fail
                refine (rfill_any aB nB cB l wr 256 (HOP.out.sb.below HBI.out)).mono ?_
                rintro e wg ⟨vg, rfl, hog, hbg⟩
                have HB10 := Lib.hid (HB9.out.trans (hbg.mono HB9.out.size))
                replace hc0 := (hbg.cell (p := ⟨b7, o7 + u * 4, none⟩) (Nat.lt_of_lt_of_le hb7 HBI.out.size)).trans hc0
                replace hc1 := (hbg.cell (p := ⟨b7, o7 + u * 4 + 1, none⟩) (Nat.lt_of_lt_of_le hb7 HBI.out.size)).trans hc1
                clear hc2
                by_cases k1 : Kd = 1
                rotate_left
                · have e1 : (Kd == 1) = false := by simp [k1]
                  have G2 : Hid (Good0 L s Bq j (u + 1) mb) := Lib.hid (G.out.skip (fun l' kp' h => by rw [HRI.out] at h; exact absurd (congrArg (fun x => x.1) (Option.some.inj h)) k1))
                  clear k1 hog hbg
                  go_wp2_with fail
                  exact ⟨⟨u + 1, mb, wb, by omega, by go_num, rfl, rfl, G2, HB10.out⟩, by simp [intOf]; omega⟩
                subst k1
                by_cases k2 : sd = (s : Int)
                rotate_left
                · have e1 : (sd == (s : Int)) = false := by simp [k2]
                  have G2 : Hid (Good0 L s Bq j (u + 1) mb) := Lib.hid (G.out.skip (fun l' kp' h => by rw [HRI.out] at h; exact absurd (congrArg (fun x => x.2.1) (Option.some.inj h)) k2))
                  clear k2 hog hbg
                  go_wp2_with fail
                  exact ⟨⟨u + 1, mb, wb, by omega, by go_num, rfl, rfl, G2, HB10.out⟩, by simp [intOf]; omega⟩
                have e3 : (sd == (s : Int)) = true := by simp [k2]
                have HK2 := Lib.hid k2
                clear k2
                by_cases hl256 : l.length ≤ 256
                rotate_left
                · have e2 := fill256n hl256
                  rw [e2]
                  have G2 : Hid (Good0 L s Bq j (u + 1) mb) := Lib.hid (G.out.skip (fun l' kp' h hl' => by rw [HRI.out] at h; have h5 := congrArg (fun x => x.2.2.1) (Option.some.inj h); simp only at h5; rw [← h5] at hl'; exact absurd hl' hl256))
                  clear hl256 hog hbg e2
                  go_wp2_with fail
                  exact ⟨⟨u + 1, mb, wb, by omega, by go_num, rfl, rfl, G2, HB10.out⟩, by simp [intOf]; omega⟩
                obtain ⟨e2, e4⟩ := fill256 hl256
                rw [e4, fullB_len hl256] at hog
                rw [e2]
                obtain ⟨ag, cg, rfl⟩ := hog.form
                have OG := Lib.hid hog
                have OH := Lib.hid (OF.out.below (HB10.out))
                clear hl256 hog hbg e2 e4
                cases mb with
                | true =>
                  go_wp2_with fail
                  exact ⟨⟨u + 1, true, true, by omega, by go_num, rfl, rfl, Lib.hid (fun h => by cases h), HB10.out⟩, by simp [intOf]; omega⟩
                | false =>
                  go_wp2_with fail
                  refine (eqb_any ae 256 ce ag 256 cg Bq (fullB l) wg OH.out.sl OG.out.sl (by decide) (by decide)).mono ?_
                  rintro e wh ⟨rfl, hbh⟩
                  obtain ⟨mb2, hmb⟩ : ∃ x, x = decide (Bq = fullB l) := ⟨_, rfl⟩
                  rw [← hmb]
                  have G2 : Hid (Good0 L s Bq j (u + 1) mb2) := Lib.hid (fun e => by
                    refine G.out.skip (fun l' kp' h hl' hB => ?_) rfl
                    rw [HRI.out] at h
                    have h5 := congrArg (fun x => x.2.2.1) (Option.some.inj h)
                    simp only at h5
                    rw [hmb, hB, h5] at e
                    simp at e)
                  have HB11 := Lib.hid (HB10.out.trans (hbh.mono HB10.out.size))
                  clear hmb hbh
                  go_wp2_with fail
                  exact ⟨⟨u + 1, mb2, true, by omega, by go_num, rfl, rfl, G2, HB11.out⟩, by simp [intOf]; omega⟩
            · rw [← HMN.out] at hor
              have HOR := Lib.hid hor
              have HE := Lib.hid (And.intro e0 eb)
              clear hor e0 eb hb
              go_wp2_with fail
              refine (read_p 1 colc b (crashD D keep t) s wr [] Hd.out (show (0 : Nat) < 1073741824 by decide) (by decide) 5 (Lib.hid HE.out.1) (Lib.hid HE.out.2.symm)).mono ?_
              rintro e we ⟨ve, rfl, hoe, hbe⟩
              have BE := HBD.out.trans (hbe.mono HBD.out.size)
              have KE := Lib.hid (Kq.out.down hbe)
              clear hoe hbe HBD HE Wd Hd Kq
              go_wp2_with fail
              go_loopw [21, 22, 23] (fun v21 v22 v23 wr => ∃ u wb, u ≤ j ∧ v23 = .int .i64 (u : Nat) ∧ v22 = .bool wb ∧ v21 = .bool false ∧ Hid (Good1 L s j u wb) ∧ Below we.heap.size we wr) (fun _ _ v23 _ => j - (intOf v23).toNat)
              case atStart => exact ⟨m, false, hmn, rfl, rfl, rfl, Lib.hid (fun _ => ⟨Bq, HOR.out⟩), Below.refl _ _⟩
              case round =>
                obtain ⟨u, wb, hu, rfl, rfl, rfl, G, hb⟩ := hrel
                have HB9 := Lib.hid hb
                have hBI := KE.out.below.trans (hb.mono KE.out.below.size)
                have HBI := Lib.hid hBI
                by_cases huj : u = j
                · subst huj
                  obtain rfl : wb = true := by
                    cases wb with
                    | true => rfl
                    | false => obtain ⟨_, j0, h1, h2, _⟩ := G.out rfl; omega
                  have hRb := HR1.out.after HBI.out
                  have d1 := hRb.cell 1
                  have ht' : ¬ t < 0 := by omega
                  clear hRb hb hBI
                  go_wp2_with fail
                  exact ⟨⟨s + 1, by omega, by go_num, BE.trans (HB9.out.mono BE.size)⟩, by simp [intOf]; omega⟩
                have hlt4 : u < j := by omega
                have hlt4' : (u : Int) < j := by omega
                obtain ⟨b7, o7, aB, nB, cB, l, aS, nS, cS, kp, Kd, sd, rfl, hri, hrm, hrk, hop0, hd0, hd1, hd2, hd3⟩ := stp_at hl1 u hlt4
                have hfew := HF.out.2 u Kd sd l kp hri
                have hb7 : b7 < (w1).heap.size := lt_of_cell hd0
                have hc0 := ((hBI).cell (p := ⟨b7, o7 + u * 4, none⟩) hb7).trans hd0
                have hc1 := ((hBI).cell (p := ⟨b7, o7 + u * 4 + 1, none⟩) hb7).trans hd1
                have hc2 := ((hBI).cell (p := ⟨b7, o7 + u * 4 + 2, none⟩) hb7).trans hd2
                have hnB : nB ≤ 1024 := by omega
                have HRI := Lib.hid hri
                have HRM := Lib.hid hrm
                have HOP := Lib.hid hop0
                clear hri hrm hrk hfew hop0 hd0 hd1 hd2 hd3
                clear hb hBI
                go_wp2_with fail
                refine (rfill_any aB nB cB l wr 256 (HOP.out.sb.below HBI.out)).mono ?_
                rintro e wg ⟨vg, rfl, hog, hbg⟩
                have HB10 := Lib.hid (HB9.out.trans (hbg.mono HB9.out.size))
                replace hc0 := (hbg.cell (p := ⟨b7, o7 + u * 4, none⟩) (Nat.lt_of_lt_of_le hb7 HBI.out.size)).trans hc0
                replace hc1 := (hbg.cell (p := ⟨b7, o7 + u * 4 + 1, none⟩) (Nat.lt_of_lt_of_le hb7 HBI.out.size)).trans hc1
                clear hc2 hog hbg
                by_cases k1 : Kd = 1
                rotate_left
                · have e1 : (Kd == 1) = false := by simp [k1]
                  have G2 : Hid (Good1 L s j (u + 1) wb) := Lib.hid (G.out.skip (fun l' kp' h => by rw [HRI.out] at h; exact absurd (congrArg (fun x => x.1) (Option.some.inj h)) k1))
                  clear k1
                  go_wp2_with fail
                  exact ⟨⟨u + 1, wb, by omega, by go_num, rfl, rfl, G2, HB10.out⟩, by simp [intOf]; omega⟩
                subst k1
                by_cases k2 : sd = (s : Int)
                rotate_left
                · have e1 : (sd == (s : Int)) = false := by simp [k2]
                  have G2 : Hid (Good1 L s j (u + 1) wb) := Lib.hid (G.out.skip (fun l' kp' h => by rw [HRI.out] at h; exact absurd (congrArg (fun x => x.2.1) (Option.some.inj h)) k2))
                  clear k2
                  go_wp2_with fail
                  exact ⟨⟨u + 1, wb, by omega, by go_num, rfl, rfl, G2, HB10.out⟩, by simp [intOf]; omega⟩
                have e3 : (sd == (s : Int)) = true := by simp [k2]
                clear k2
                by_cases hl256 : l.length ≤ 256
                rotate_left
                · have e2 := fill256n hl256
                  rw [e2]
                  have G2 : Hid (Good1 L s j (u + 1) wb) := Lib.hid (G.out.skip (fun l' kp' h hl' => by rw [HRI.out] at h; have h5 := congrArg (fun x => x.2.2.1) (Option.some.inj h); simp only at h5; rw [← h5] at hl'; exact absurd hl' hl256))
                  clear hl256 e2
                  go_wp2_with fail
                  exact ⟨⟨u + 1, wb, by omega, by go_num, rfl, rfl, G2, HB10.out⟩, by simp [intOf]; omega⟩
                obtain ⟨e2, e4⟩ := fill256 hl256
                rw [e2]
                clear hl256 e2 e4
                go_wp2_with fail
                exact ⟨⟨u + 1, true, by omega, by go_num, rfl, rfl, Lib.hid (fun h => by cases h), HB10.out⟩, by simp [intOf]; omega⟩
          have hs16n : ¬ (s : Int) < 16 := by omega
          clear hs16
          have Ke := Lib.hid (Kc.out.down hb)
          have Re := Lib.hid (Rc.out.st (St.fresh hb (fun _ => False) colc) (fun h => h))
          have Qe := Lib.hid (Qc.out.st (St.fresh hb (fun _ => False) colc) (fun h => h) (fun h => h))
          clear hb Hc Kc Wc Rc Qc
          obtain ⟨we, hwe⟩ : ∃ x, x = wr := ⟨_, rfl⟩
          rw [← hwe] at Ke Re Qe ⊢
          clear hwe
          obtain ⟨np, hnp⟩ : ∃ x, x = D.P.length := ⟨_, rfl⟩
          have hpen := I.out.fits.pen
          rw [← hnp] at hpen
          have HNP := Lib.hid hnp
          clear hnp
          go_wp2_with fail
          go_loopw [26, 27] (fun v26 v27 wr => ∃ u a9 c9, u ≤ np ∧ v27 = .int .i64 (u : Nat) ∧ v26 = .slice a9 u c9 ∧ Hid (Own wr we.heap.size 1 (.slice a9 u c9) u (ints (countI u))) ∧ Below we.heap.size we wr) (fun _ v27 _ => np - (intOf v27).toNat)
          case atStart => exact ⟨0, none, 0, by omega, rfl, rfl, Lib.hid (Own.nil _ _ _), Below.refl _ _⟩
          case round =>
            obtain ⟨u, a9, c9, hu, rfl, rfl, O9, hb⟩ := hrel
            have Hq := Lib.hid (Qe.out.st (St.fresh hb (fun _ => False) colc) (fun h => h) (fun h => h))
            obtain ⟨ap, cp, dp⟩ := Hq.out.c1
            rw [← HNP.out] at dp
            go_wp2_with fail
            refine (pending_any q ap np cp wr dp).mono ?_
            rintro e wr' ⟨rfl, rfl⟩
            clear dp
            by_cases hun : u = np
            rotate_left
            · have hlt3 : u < np := by omega
              have hlt3' : (u : Int) < np := by omega
              have HBU := Lib.hid hb
              have hb7 : Below wr.heap.size wr (wr.alloc (.cells #[.int .i64 (u : Int)] 3)) := (Below.refl _ _).alloc (Nat.le_refl _) _
              have HO7 := Lib.hid (O9.out.below hb7)
              have HS7 := Lib.hid (Sl.one wr (.int .i64 (u : Int)) 3)
              have hbb := hb.trans (hb7.mono hb.size)
              clear hb7 hb
              go_wp2_with (at_builtin; refine wpL_appendY etI rfl _ _ rfl HO7.out rfl HS7.out rfl (by simp [Value.oneCell']) (by omega) (by simp [maxLen]; omega) hbb.size ?_; intro v8 w8 ho8 hg8 hor8; obtain ⟨a8, c8, rfl⟩ := ho8.form; have HO8 := Lib.hid ho8; have HG8 := Lib.hid hg8; clear ho8 hg8 hor8)
              refine ⟨⟨u + 1, a8, c8, by omega, by go_num, rfl, Lib.hid ?_, below_own hbb HO7.out HG8.out (Nat.le_refl _) hbb.size⟩, by simp [intOf]; omega⟩
              rw [countI_succ, ints_app]
              exact HO8.out
            subst hun
            have kf := St.new hb NZ colc 0
            have Kf := Lib.hid (Ke.out.trans kf)
            have Rf := Lib.hid (Re.out.st (St.new hb (fun _ => False) colc 0) (fun h => h))
            have Qf := Lib.hid (Qe.out.st (St.new hb (fun _ => False) colc 0) (fun h => h) (fun h => h))
            have CF : Hid (∀ g, (Value.slice a9 u c9).ownBlock = some g → recol colc we.heap.size 0 g = 0) := Lib.hid (fun g hg => recol_ge (O9.out.lt g hg))
            clear kf Hq hb Ke Re Qe
            generalize recol colc we.heap.size 0 = colf at Kf Rf Qf CF
            go_wp2_with fail
            refine (off_p 3 colf q D wr Qf.out (offD D) (Lib.hid rfl)).mono ?_
            rintro e wg ⟨⟨vg, rfl⟩, colg, kg, qg⟩
            have Kg := Lib.hid (Kf.out.trans (kg.mono three_ne))
            have Rg := Lib.hid (Rf.out.st kg (by decide))
            have Qg := Lib.hid qg
            have SG := Lib.hid (O9.out.sl.mods0 kg.mods (fun _ g hg => by rw [CF.out g hg]; decide))
            have CG : Hid (countI u ≠ [] → ∀ g, (Value.slice a9 u c9).ownBlock = some g → ¬ colg g = 3) := Lib.hid (fun hne g hg => by
              rw [kg.ext g (O9.out.sl.ownLt (ints_ne hne) hg), CF.out g hg]; decide)
            clear kg qg Kf Rf Qf CF
            go_wp2_with fail
            refine (on_p 3 colg q (offD D) (2 * j + 2) wg Qg.out FT.out.2 (by omega) (-1) a9 u c9 (countI u) SG.out CG.out 0 (Lib.hid TW.out.1) (crashD D (countI u) (-1)) (Lib.hid (by rw [HNP.out]; exact TW.out.2.1))).mono ?_
            rintro e wh ⟨rfl, colh, kh, qh⟩
            have Kh := Lib.hid (Kg.out.trans (kh.mono three_ne))
            have Rh := Lib.hid (Rg.out.st kh (by decide))
            have Qh := Lib.hid qh
            have FH := Lib.hid (I.out.crashFits (countI u) (-1)).1
            have SH : Hid ((crashD D (countI u) (-1)).S = readsL D 16) := Lib.hid (by rw [HNP.out]; exact TW.out.2.2)
            clear kh qh Kg Rg Qg SG CG
            go_wp2_with fail
            refine (image_q 3 colh q (crashD D (countI u) (-1)) (2 * j + 4) wh Qh.out FH.out 16 (by rw [SH.out]; exact readsL_len D 16)).mono ?_
            rintro e wi ⟨ai, ci, rfl, hii, hbi⟩
            rw [SH.out] at hii
            have Ki := Lib.hid (Kh.out.down hbi)
            have Ri := Lib.hid (Rh.out.st (St.fresh hbi (fun _ => False) colh) (fun h => h))
            have Ii := Lib.hid hii.imr
            have LE := Lib.hid (readsL_le I.out)
            clear hii hbi Kh Rh Qh
            go_wp2_with fail
            refine (sameImage_any ai 16 ci (readsL D 16) _ 16 _ (readsL D 16) wi Ii.out Ri.out.imr (by decide) LE.out LE.out true (Lib.hid (by simp))).mono ?_
            rintro e wj ⟨rfl, hbj⟩
            have Kj := Lib.hid (Ki.out.down hbj)
            clear hbj Ki Ri Ii
            go_wp2_with fail
            refine (works_any wj).mono ?_
            rintro e wz ⟨rfl, hbz⟩
            go_wp2_with fail
            go_ret
            exact ⟨rfl, ((HB1.out.trans (Kj.out.below.mono HB1.out.size))).trans (hbz.mono ((HB1.out.trans (Kj.out.below.mono HB1.out.size))).size)⟩
end Go.Proofs.Ytcocodpeigbdaaa
