/-
  DiskReads, walked. Conditions: the steps read.
-/
import Derived.Test.YtcocodpeigbdaaaDskL1
namespace Go.Proofs.Ytcocodpeigbdaaa
open Go.RowKit
set_option linter.unusedVariables false
set_option linter.unusedSimpArgs false

theorem penAt_app {P : Pend} {p : Nat × List UInt8} {i : Nat} (h : i < P.length) : penAt (P ++ [p]) i = penAt P i := by
  unfold penAt
  rw [List.getD_eq_getElem?_getD, List.getElem?_append_left h, List.getD_eq_getElem?_getD]
theorem penAt_last (P : Pend) (p : Nat × List UInt8) : penAt (P ++ [p]) P.length = p := by
  unfold penAt
  rw [List.getD_eq_getElem?_getD, List.getElem?_append_right (Nat.le_refl _), Nat.sub_self]; rfl
theorem pickN_app {S : List (List UInt8)} {P : Pend} {p : Nat × List UInt8} {s : Nat} : ∀ n, n ≤ P.length → pickN S (P ++ [p]) s n = pickN S P s n := by
  intro n
  induction n with
  | zero => intro _; rfl
  | succ n ih =>
    intro hn
    rw [pickN, pickN, penAt_app (by omega), ih (by omega)]
theorem pick_push {S : List (List UInt8)} {P : Pend} {q k : Nat} {l : List UInt8} : pickN S (P ++ [(q, l)]) k (P ++ [(q, l)]).length = if q = k then l else pickN S P k P.length := by
  rw [List.length_append, List.length_singleton, pickN, penAt_last, pickN_app _ (Nat.le_refl _)]
theorem settle_pick {D : Dk} (h : D.Fit) (k : Nat) : ∀ n, n ≤ D.P.length → (settleN allF D.S D.P n).getD k [] = pickN D.S D.P k n := by
  intro n
  induction n with
  | zero => intro _; rfl
  | succ n ih =>
    intro hn
    have e : settleN allF D.S D.P (n + 1) = (settleN allF D.S D.P n).set (penAt D.P n).1 (penAt D.P n).2 := rfl
    rw [e, pickN]
    have hlt := penAt_lt h (i := n) (by omega)
    by_cases hk : (penAt D.P n).1 = k
    · rw [if_pos hk, ← hk, getD_set_eq (by rw [settleN_len]; exact hlt)]
    · rw [if_neg hk, getD_set_ne hk, ih (by omega)]
structure RdInv (D : Dk) (k i : Nat) (F : List UInt8) : Prop where
  live : D.dead = false
  arm : D.armed = 0
  len : D.S.length = 16
  fits : D.Fits (2 * i)
  pick : pickD D k = F
  full : F.length = 256
theorem RdInv.form {D : Dk} {k i : Nat} {F : List UInt8} (h : RdInv D k i F) : D = ⟨D.S, D.P, false, 0, D.steps⟩ := by
  obtain ⟨S, P, d, a, n⟩ := D
  have h1 := h.live
  have h2 := h.arm
  simp only at h1 h2
  subst h1 h2
  rfl
theorem RdInv.start (k : Nat) (hk : k < 16) : RdInv wk0 k 0 (List.replicate 256 0) := ⟨rfl, rfl, blankD_len 16, wk_f0, blankD_get hk, List.length_replicate⟩
theorem RdInv.more {D : Dk} {k i : Nat} {F : List UInt8} (h : RdInv D k i F) : RdInv D k (i + 1) F := ⟨h.live, h.arm, h.len, h.fits.le (by omega), h.pick, h.full⟩
theorem RdInv.read {D : Dk} {k i : Nat} {F : List UInt8} (h : RdInv D k i F) (hk : k < 16) : 0 = readE D k ∧ readB D k = F := by
  have h1 := read_live (S := D.S) (P := D.P) (a := 0) (n := D.steps) (k := k) (by rw [h.len]; exact hk)
  rw [← h.form] at h1
  have h2 : pickN D.S D.P k D.P.length = F := h.pick
  rw [h2, if_neg (fun e => by have := h.full; rw [e] at this; cases this)] at h1
  exact ⟨h1.1.symm, h1.2⟩
theorem RdInv.bar {D : Dk} {k i : Nat} {F : List UInt8} (h : RdInv D k i F) : RdInv (barrierD D) k (i + 1) F := by
  have h1 := bar_live (S := D.S) (P := D.P) (n := D.steps)
  rw [← h.form] at h1
  have h2 := settle_pick h.fits.fit k D.P.length (Nat.le_refl _)
  refine ⟨?_, ?_, ?_, barrierD_fits h.fits, ?_, h.full⟩
  · rw [h1.2]
  · rw [h1.2]
  · rw [h1.2]; show (settleN allF D.S D.P D.P.length).length = 16; rw [settleN_len]; exact h.len
  · rw [h1.2]; exact h2.trans h.pick
theorem RdInv.no {D : Dk} {k i : Nat} {F : List UInt8} (h : RdInv D k i F) {s : Int} {l : List UInt8} (hw : writeIs D s l = false) : 1 = writeE D s l ∧ RdInv (writeD D s l) k (i + 1) F := by
  rw [h.form] at hw
  have h1 := write_off hw
  rw [← h.form] at h1
  exact ⟨h1.1.symm, by rw [h1.2]; exact h.more⟩
theorem RdInv.yes {D : Dk} {k i : Nat} {F : List UInt8} (h : RdInv D k i F) {q : Nat} {l : List UInt8} (hq : q < 16) (hl : l.length ≤ 256) : 0 = writeE D q l ∧ RdInv (writeD D q l) k (i + 1) (if q = k then fullB l else F) := by
  have h1 := write_live (S := D.S) (P := D.P) (n := D.steps) (k := q) (l := l) (by rw [h.len]; exact hq) hl
  rw [← h.form] at h1
  refine ⟨h1.1.symm, ?_, ?_, ?_, writeD_fits h.fits _ _, ?_, ?_⟩
  · rw [h1.2]
  · rw [h1.2]
  · rw [h1.2]; exact h.len
  · rw [h1.2]
    show pickN D.S (D.P ++ [(q, fullB l)]) k (D.P ++ [(q, fullB l)]).length = _
    rw [pick_push]
    have : pickN D.S D.P k D.P.length = F := h.pick
    rw [this]
  · split
    · exact fullB_len hl
    · exact h.full
theorem writeIs_cases {D : Dk} (hS : D.S.length = 16) (s : Int) (l : List UInt8) : (∃ q : Nat, s = q ∧ q < 16 ∧ l.length ≤ 256) ∨ (writeIs D s l = false ∧ (s < 0 ∨ (0 ≤ s ∧ ¬ s < 16) ∨ (0 ≤ s ∧ s < 16 ∧ 256 < l.length))) := by
  by_cases h0 : s < 0
  · exact .inr ⟨by simp [writeIs, inD]; omega, .inl h0⟩
  by_cases h1 : s < 16
  · by_cases h2 : l.length ≤ 256
    · exact .inl ⟨s.toNat, by omega, by omega, h2⟩
    · exact .inr ⟨by simp [writeIs, inD]; omega, .inr (.inr ⟨by omega, h1, by omega⟩)⟩
  · exact .inr ⟨by simp [writeIs, inD, hS]; omega, .inr (.inl ⟨by omega, h1⟩)⟩
set_option maxRecDepth 100000 in
set_option maxHeartbeats 4000000 in
theorem diskReads_walk (a : Option Addr) (n c : Nat) (L : List Stp) (x : Nat) (hx : x < 256) (w : World) (hl : SlOf VStep 4 w (.slice a n c) L) :
    Calls Try.prog 4 #[.slice a n c, .int .u8 (x : Int)] w fun e w' => e = .returned (.bool true) ∧ Below w.heap.size w w' := by
  obtain ⟨k, hk⟩ : ∃ k, k = x % 16 := ⟨_, rfl⟩
  have hk16 : k < 16 := by omega
  have hke : (x : Int) % 16 = (k : Int) := by omega
  have HN := Lib.hid hl.len.1
  clear hk
  go_enter Try.func4, Try.ntmps4
  go_wp2_with fail
  refine (vast_any a n c L w hl).mono ?_
  rintro e w1 ⟨Bv, rfl, HV, hb1⟩
  cases Bv with
  | true =>
    go_wp2_with fail
    refine (works_any w1).mono ?_
    rintro e wz ⟨rfl, hbz⟩
    go_wp2_with fail
    go_ret
    exact ⟨rfl, (hb1).trans (hbz.mono (hb1).size)⟩
  | false =>
  have HF : Hid (FewS L) := Lib.hid (HV.out rfl)
  have hn120 : n ≤ 120 := by rw [HN.out]; exact HF.out.1
  clear HV
  go_wp2_with fail
  refine (new16 w1 col0).mono ?_
  rintro e w2 ⟨b, rfl, col2, k2, h2⟩
  have K2 : Hid (St NZ col0 w col2 w2) := Lib.hid ((St.fresh hb1 NZ col0).trans (k2.mono (fun _ h => h.elim)))
  have H2 := Lib.hid h2
  clear k2 h2 hb1
  go_wp2_with (at_make; refine wpL_make etB rfl rfl _ _ rfl 256 w2.heap.size rfl rfl rfl rfl (by omega) (by simp only [maxLen]; omega) (Nat.le_refl _) ?_; rintro v3 w3 ho3 hb3 ⟨g3, o3, rfl, hg3⟩; clear hg3; rw [bvs_replicate] at ho3; have H3 := Lib.hid (H2.out.st (St.new hb3 (fun _ => False) col2 9) (fun h => h) (fun h => h)); have K3 := Lib.hid (K2.out.trans (St.new hb3 NZ col2 9)); have O3 : Hid (OwnC (recol col2 w2.heap.size 9) w3 9 1 (.slice (some ⟨g3, o3, none⟩) 256 256) 256 (bvs (List.replicate 256 0))) := Lib.hid (OwnC.new ho3); clear ho3 hb3 H2 K2)
  go_loopw [8, 9] (fun v8 v9 wr => ∃ i aw cw col D F, i ≤ n ∧ v9 = .int .i64 (i : Nat) ∧ v8 = .slice aw 256 cw ∧ Hid (St NZ col0 w col wr) ∧ Hid (DkAt 74 1 col wr b D) ∧ Hid (OwnC col wr 9 1 (.slice aw 256 cw) 256 (bvs F)) ∧ Hid (RdInv D k i F)) (fun _ v9 _ => n - (intOf v9).toNat)
  case atStart => exact ⟨0, _, _, _, wk0, _, Nat.zero_le _, rfl, rfl, K3, H3, O3, Lib.hid (RdInv.start k hk16)⟩
  case round =>
    obtain ⟨i, aw, cw, col, D, F, hi, rfl, rfl, K, H, O, R⟩ := hrel
    by_cases hin : i = n
    · subst hin
      have hB := K.out.below
      go_wp2_with fail
      refine (works_any wr).mono ?_
      rintro e wz ⟨rfl, hbz⟩
      go_wp2_with fail
      go_ret
      exact ⟨rfl, (hB).trans (hbz.mono (hB).size)⟩
    have hlt : i < n := by omega
    have hlt' : (i : Int) < n := by omega
    obtain ⟨b7, o7, aB, nB, cB, l, aK, nK, cK, keep, Kd, s, rfl, hri, hrm, hrk, hop0, hd0, hd1, hd2, hd3⟩ := stp_at hl i hlt
    have hfew := HF.out.2 i Kd s l keep hri
    have hb7 : b7 < w.heap.size := lt_of_cell hd0
    have hc0 := (K.out.below.cell (p := ⟨b7, o7 + i * 4, none⟩) hb7).trans hd0
    have hc1 := (K.out.below.cell (p := ⟨b7, o7 + i * 4 + 1, none⟩) hb7).trans hd1
    have hc2 := (K.out.below.cell (p := ⟨b7, o7 + i * 4 + 2, none⟩) hb7).trans hd2
    have hc3 := (K.out.below.cell (p := ⟨b7, o7 + i * 4 + 3, none⟩) hb7).trans hd3
    have HKC : Hid (keep ≠ [] → ∀ g, (Value.slice aK nK cK).ownBlock = some g → ¬ col g = 1) := Lib.hid (fun hne g hg e => by
      have h1 := hop0.sk.ownLt (by cases keep; exact absurd rfl hne; simp [ints]) hg
      have h2 := K.out.ext g h1
      rw [e] at h2
      cases h2)
    have hop : StpIs wr Kd s aB nB cB l aK nK cK keep := ⟨hop0.sb.below K.out.below, hop0.sk.below K.out.below, hop0.hi⟩
    have hnB : nB ≤ 1024 := by omega
    have HRM := Lib.hid hrm
    have HSB0 := Lib.hid hop0.sb
    clear hri hrm hrk hop0 hfew
    by_cases k0 : Kd = 0
    · subst k0
      have R2 : Hid (RdInv D k (i + 1) F) := Lib.hid R.out.more
      go_wp2_with fail
      refine (do_p 1 col b D (2 * i) wr 0 s aB nB cB l aK nK cK keep H.out R.out.fits (by omega) (by decide) hop.sb (by omega) hop.sk HKC.out (doE D 0 s l) (Lib.hid rfl) _ (Lib.hid rfl) D (Lib.hid rfl)).mono ?_
      rintro e w2 ⟨v2, rfl, col2, k2, h2, o2⟩
      have H2 := Lib.hid h2
      have K2 := Lib.hid (K.out.trans (k2.mono one_ne))
      have O2 := Lib.hid (O.out.st k2 (by decide))
      replace hc0 := (K2.out.below.cell (p := ⟨b7, o7 + i * 4, none⟩) hb7).trans hd0
      replace hc1 := (K2.out.below.cell (p := ⟨b7, o7 + i * 4 + 1, none⟩) hb7).trans hd1
      replace hc2 := (K2.out.below.cell (p := ⟨b7, o7 + i * 4 + 2, none⟩) hb7).trans hd2
      replace hc3 := (K2.out.below.cell (p := ⟨b7, o7 + i * 4 + 3, none⟩) hb7).trans hd3
      clear k2 h2 o2
      go_wp2_with fail
      refine (read_ok 1 _ b D (2 * (i + 1)) k w2 _ (H2).out (R2).out.fits (by omega) ((R2).out.read hk16).1 ((R2).out.read hk16).2 (R2).out.full).mono ?_
      rintro e wa ⟨aa, ca, rfl, hoa, hba⟩
      have HA := Lib.hid ((H2).out.st (St.fresh hba (fun _ => False) _) (fun h => h) (fun h => h))
      have KA := Lib.hid ((K2).out.down hba)
      have OA := Lib.hid ((O2).out.st (St.fresh hba (fun _ => False) _) (fun h => h))
      clear hba
      go_wp2_with fail
      refine (eqb_any aa 256 ca _ 256 _ _ _ wa hoa.sl OA.out.1.sl (by decide) (by decide)).mono ?_
      rintro e wc ⟨rfl, hbc⟩
      rw [decide_eq_true rfl]
      go_wp2_with fail
      exact ⟨⟨i + 1, _, _, _, D, _, by omega, by go_num, rfl, Lib.hid (KA.out.down hbc), Lib.hid (HA.out.st (St.fresh hbc (fun _ => False) _) (fun h => h) (fun h => h)), Lib.hid (OA.out.st (St.fresh hbc (fun _ => False) _) (fun h => h)), R2⟩, by simp [intOf]; omega⟩
    by_cases k1 : Kd = 1
    · subst k1
      rcases writeIs_cases R.out.len s l with ⟨q, rfl, hq, hl256⟩ | ⟨hw, hwhy⟩
      · have hql : (q : Int) < 16 := by omega
        have hnB2 : (nB : Int) ≤ 256 := by rw [HRM.out]; omega
        have Y := Lib.hid (R.out.yes hq hl256)
        have HFL : Hid (fillIs l 256 = true ∧ fillL l 256 = fullB l ∧ (fullB l).length = 256) := Lib.hid ⟨(fill256 hl256).1, (fill256 hl256).2, fullB_len hl256⟩
        clear hl256
        by_cases hqk : q = k
        · have e1 : ((q : Int) == (k : Int)) = true := by simp; omega
          have R2 : Hid (RdInv (writeD D q l) k (i + 1) (fullB l)) := Lib.hid (by have := Y.out.2; rwa [if_pos hqk] at this)
          obtain ⟨s, hs⟩ : ∃ s, s = (q : Int) := ⟨_, rfl⟩
          rw [← hs] at hql e1 hc1 hd1 hop Y R2
          have hs0 : 0 ≤ s := by omega
          clear hqk hs
          go_wp2_with fail
          refine (do_p 1 col b D (2 * i) wr 1 s aB nB cB l aK nK cK keep H.out R.out.fits (by omega) (by decide) hop.sb (by omega) hop.sk HKC.out 0 (Lib.hid Y.out.1) _ (Lib.hid rfl) (writeD D s l) (Lib.hid rfl)).mono ?_
          rintro e w2 ⟨v2, rfl, col2, k2, h2, o2⟩
          have H2 := Lib.hid h2
          have K2 := Lib.hid (K.out.trans (k2.mono one_ne))
          have O2 := Lib.hid (O.out.st k2 (by decide))
          replace hc0 := (K2.out.below.cell (p := ⟨b7, o7 + i * 4, none⟩) hb7).trans hd0
          replace hc1 := (K2.out.below.cell (p := ⟨b7, o7 + i * 4 + 1, none⟩) hb7).trans hd1
          replace hc2 := (K2.out.below.cell (p := ⟨b7, o7 + i * 4 + 2, none⟩) hb7).trans hd2
          replace hc3 := (K2.out.below.cell (p := ⟨b7, o7 + i * 4 + 3, none⟩) hb7).trans hd3
          clear k2 h2 o2
          clear hop
          go_wp2_with fail
          refine (rfill_any aB nB cB l w2 256 (HSB0.out.below K2.out.below)).mono ?_
          rintro e w4 ⟨v4, rfl, ho4, hb4⟩
          rw [HFL.out.2.1, HFL.out.2.2] at ho4
          rw [HFL.out.1]
          obtain ⟨a4, c4, rfl⟩ := ho4.form
          have H4 := Lib.hid (H2.out.st (St.new hb4 (fun _ => False) col2 9) (fun h => h) (fun h => h))
          have K4 := Lib.hid (K2.out.trans (St.new hb4 NZ col2 9))
          have O4 : Hid (OwnC (recol col2 w2.heap.size 9) w4 9 1 (.slice a4 256 c4) 256 (bvs (fullB l))) := Lib.hid (OwnC.new ho4)
          clear ho4 hb4
          go_wp2_with fail
          refine (read_ok 1 _ b (writeD D s l) (2 * (i + 1)) k w4 _ (H4).out (R2).out.fits (by omega) ((R2).out.read hk16).1 ((R2).out.read hk16).2 (R2).out.full).mono ?_
          rintro e wa ⟨aa, ca, rfl, hoa, hba⟩
          have HA := Lib.hid ((H4).out.st (St.fresh hba (fun _ => False) _) (fun h => h) (fun h => h))
          have KA := Lib.hid ((K4).out.down hba)
          have OA := Lib.hid ((O4).out.st (St.fresh hba (fun _ => False) _) (fun h => h))
          clear hba
          go_wp2_with fail
          refine (eqb_any aa 256 ca _ 256 _ _ _ wa hoa.sl OA.out.1.sl (by decide) (by decide)).mono ?_
          rintro e wc ⟨rfl, hbc⟩
          rw [decide_eq_true rfl]
          go_wp2_with fail
          exact ⟨⟨i + 1, _, _, _, (writeD D s l), _, by omega, by go_num, rfl, Lib.hid (KA.out.down hbc), Lib.hid (HA.out.st (St.fresh hbc (fun _ => False) _) (fun h => h) (fun h => h)), Lib.hid (OA.out.st (St.fresh hbc (fun _ => False) _) (fun h => h)), R2⟩, by simp [intOf]; omega⟩
        · have e1 : ((q : Int) == (k : Int)) = false := by rw [beq_eq_false_iff_ne]; omega
          have R2 : Hid (RdInv (writeD D q l) k (i + 1) F) := Lib.hid (by have := Y.out.2; rwa [if_neg hqk] at this)
          obtain ⟨s, hs⟩ : ∃ s, s = (q : Int) := ⟨_, rfl⟩
          rw [← hs] at hql e1 hc1 hd1 hop Y R2
          have hs0 : 0 ≤ s := by omega
          clear hqk hs
          go_wp2_with fail
          refine (do_p 1 col b D (2 * i) wr 1 s aB nB cB l aK nK cK keep H.out R.out.fits (by omega) (by decide) hop.sb (by omega) hop.sk HKC.out 0 (Lib.hid Y.out.1) _ (Lib.hid rfl) (writeD D s l) (Lib.hid rfl)).mono ?_
          rintro e w2 ⟨v2, rfl, col2, k2, h2, o2⟩
          have H2 := Lib.hid h2
          have K2 := Lib.hid (K.out.trans (k2.mono one_ne))
          have O2 := Lib.hid (O.out.st k2 (by decide))
          replace hc0 := (K2.out.below.cell (p := ⟨b7, o7 + i * 4, none⟩) hb7).trans hd0
          replace hc1 := (K2.out.below.cell (p := ⟨b7, o7 + i * 4 + 1, none⟩) hb7).trans hd1
          replace hc2 := (K2.out.below.cell (p := ⟨b7, o7 + i * 4 + 2, none⟩) hb7).trans hd2
          replace hc3 := (K2.out.below.cell (p := ⟨b7, o7 + i * 4 + 3, none⟩) hb7).trans hd3
          clear k2 h2 o2
          go_wp2_with fail
          refine (read_ok 1 _ b (writeD D s l) (2 * (i + 1)) k w2 _ (H2).out (R2).out.fits (by omega) ((R2).out.read hk16).1 ((R2).out.read hk16).2 (R2).out.full).mono ?_
          rintro e wa ⟨aa, ca, rfl, hoa, hba⟩
          have HA := Lib.hid ((H2).out.st (St.fresh hba (fun _ => False) _) (fun h => h) (fun h => h))
          have KA := Lib.hid ((K2).out.down hba)
          have OA := Lib.hid ((O2).out.st (St.fresh hba (fun _ => False) _) (fun h => h))
          clear hba
          go_wp2_with fail
          refine (eqb_any aa 256 ca _ 256 _ _ _ wa hoa.sl OA.out.1.sl (by decide) (by decide)).mono ?_
          rintro e wc ⟨rfl, hbc⟩
          rw [decide_eq_true rfl]
          go_wp2_with fail
          exact ⟨⟨i + 1, _, _, _, (writeD D s l), _, by omega, by go_num, rfl, Lib.hid (KA.out.down hbc), Lib.hid (HA.out.st (St.fresh hbc (fun _ => False) _) (fun h => h) (fun h => h)), Lib.hid (OA.out.st (St.fresh hbc (fun _ => False) _) (fun h => h)), R2⟩, by simp [intOf]; omega⟩
      · have Y := Lib.hid (R.out.no hw)
        have R2 : Hid (RdInv (writeD D s l) k (i + 1) F) := Lib.hid Y.out.2
        clear hw
        rcases hwhy with h0 | ⟨h0, h1⟩ | ⟨h0, h1, h2⟩
        · have h0' : ¬ 0 ≤ s := by omega
          go_wp2_with fail
          refine (do_p 1 col b D (2 * i) wr 1 s aB nB cB l aK nK cK keep H.out R.out.fits (by omega) (by decide) hop.sb (by omega) hop.sk HKC.out 1 (Lib.hid Y.out.1) _ (Lib.hid rfl) (writeD D s l) (Lib.hid rfl)).mono ?_
          rintro e w2 ⟨v2, rfl, col2, k2, h2, o2⟩
          have H2 := Lib.hid h2
          have K2 := Lib.hid (K.out.trans (k2.mono one_ne))
          have O2 := Lib.hid (O.out.st k2 (by decide))
          replace hc0 := (K2.out.below.cell (p := ⟨b7, o7 + i * 4, none⟩) hb7).trans hd0
          replace hc1 := (K2.out.below.cell (p := ⟨b7, o7 + i * 4 + 1, none⟩) hb7).trans hd1
          replace hc2 := (K2.out.below.cell (p := ⟨b7, o7 + i * 4 + 2, none⟩) hb7).trans hd2
          replace hc3 := (K2.out.below.cell (p := ⟨b7, o7 + i * 4 + 3, none⟩) hb7).trans hd3
          clear k2 h2 o2
          go_wp2_with fail
          refine (read_ok 1 _ b (writeD D s l) (2 * (i + 1)) k w2 _ (H2).out (R2).out.fits (by omega) ((R2).out.read hk16).1 ((R2).out.read hk16).2 (R2).out.full).mono ?_
          rintro e wa ⟨aa, ca, rfl, hoa, hba⟩
          have HA := Lib.hid ((H2).out.st (St.fresh hba (fun _ => False) _) (fun h => h) (fun h => h))
          have KA := Lib.hid ((K2).out.down hba)
          have OA := Lib.hid ((O2).out.st (St.fresh hba (fun _ => False) _) (fun h => h))
          clear hba
          go_wp2_with fail
          refine (eqb_any aa 256 ca _ 256 _ _ _ wa hoa.sl OA.out.1.sl (by decide) (by decide)).mono ?_
          rintro e wc ⟨rfl, hbc⟩
          rw [decide_eq_true rfl]
          go_wp2_with fail
          exact ⟨⟨i + 1, _, _, _, (writeD D s l), _, by omega, by go_num, rfl, Lib.hid (KA.out.down hbc), Lib.hid (HA.out.st (St.fresh hbc (fun _ => False) _) (fun h => h) (fun h => h)), Lib.hid (OA.out.st (St.fresh hbc (fun _ => False) _) (fun h => h)), R2⟩, by simp [intOf]; omega⟩
        · go_wp2_with fail
          refine (do_p 1 col b D (2 * i) wr 1 s aB nB cB l aK nK cK keep H.out R.out.fits (by omega) (by decide) hop.sb (by omega) hop.sk HKC.out 1 (Lib.hid Y.out.1) _ (Lib.hid rfl) (writeD D s l) (Lib.hid rfl)).mono ?_
          rintro e w2 ⟨v2, rfl, col2, k2, h2, o2⟩
          have H2 := Lib.hid h2
          have K2 := Lib.hid (K.out.trans (k2.mono one_ne))
          have O2 := Lib.hid (O.out.st k2 (by decide))
          replace hc0 := (K2.out.below.cell (p := ⟨b7, o7 + i * 4, none⟩) hb7).trans hd0
          replace hc1 := (K2.out.below.cell (p := ⟨b7, o7 + i * 4 + 1, none⟩) hb7).trans hd1
          replace hc2 := (K2.out.below.cell (p := ⟨b7, o7 + i * 4 + 2, none⟩) hb7).trans hd2
          replace hc3 := (K2.out.below.cell (p := ⟨b7, o7 + i * 4 + 3, none⟩) hb7).trans hd3
          clear k2 h2 o2
          go_wp2_with fail
          refine (read_ok 1 _ b (writeD D s l) (2 * (i + 1)) k w2 _ (H2).out (R2).out.fits (by omega) ((R2).out.read hk16).1 ((R2).out.read hk16).2 (R2).out.full).mono ?_
          rintro e wa ⟨aa, ca, rfl, hoa, hba⟩
          have HA := Lib.hid ((H2).out.st (St.fresh hba (fun _ => False) _) (fun h => h) (fun h => h))
          have KA := Lib.hid ((K2).out.down hba)
          have OA := Lib.hid ((O2).out.st (St.fresh hba (fun _ => False) _) (fun h => h))
          clear hba
          go_wp2_with fail
          refine (eqb_any aa 256 ca _ 256 _ _ _ wa hoa.sl OA.out.1.sl (by decide) (by decide)).mono ?_
          rintro e wc ⟨rfl, hbc⟩
          rw [decide_eq_true rfl]
          go_wp2_with fail
          exact ⟨⟨i + 1, _, _, _, (writeD D s l), _, by omega, by go_num, rfl, Lib.hid (KA.out.down hbc), Lib.hid (HA.out.st (St.fresh hbc (fun _ => False) _) (fun h => h) (fun h => h)), Lib.hid (OA.out.st (St.fresh hbc (fun _ => False) _) (fun h => h)), R2⟩, by simp [intOf]; omega⟩
        · have h2' : ¬ (nB : Int) ≤ 256 := by rw [HRM.out]; omega
          clear h2
          go_wp2_with fail
          refine (do_p 1 col b D (2 * i) wr 1 s aB nB cB l aK nK cK keep H.out R.out.fits (by omega) (by decide) hop.sb (by omega) hop.sk HKC.out 1 (Lib.hid Y.out.1) _ (Lib.hid rfl) (writeD D s l) (Lib.hid rfl)).mono ?_
          rintro e w2 ⟨v2, rfl, col2, k2, h2, o2⟩
          have H2 := Lib.hid h2
          have K2 := Lib.hid (K.out.trans (k2.mono one_ne))
          have O2 := Lib.hid (O.out.st k2 (by decide))
          replace hc0 := (K2.out.below.cell (p := ⟨b7, o7 + i * 4, none⟩) hb7).trans hd0
          replace hc1 := (K2.out.below.cell (p := ⟨b7, o7 + i * 4 + 1, none⟩) hb7).trans hd1
          replace hc2 := (K2.out.below.cell (p := ⟨b7, o7 + i * 4 + 2, none⟩) hb7).trans hd2
          replace hc3 := (K2.out.below.cell (p := ⟨b7, o7 + i * 4 + 3, none⟩) hb7).trans hd3
          clear k2 h2 o2
          go_wp2_with fail
          refine (read_ok 1 _ b (writeD D s l) (2 * (i + 1)) k w2 _ (H2).out (R2).out.fits (by omega) ((R2).out.read hk16).1 ((R2).out.read hk16).2 (R2).out.full).mono ?_
          rintro e wa ⟨aa, ca, rfl, hoa, hba⟩
          have HA := Lib.hid ((H2).out.st (St.fresh hba (fun _ => False) _) (fun h => h) (fun h => h))
          have KA := Lib.hid ((K2).out.down hba)
          have OA := Lib.hid ((O2).out.st (St.fresh hba (fun _ => False) _) (fun h => h))
          clear hba
          go_wp2_with fail
          refine (eqb_any aa 256 ca _ 256 _ _ _ wa hoa.sl OA.out.1.sl (by decide) (by decide)).mono ?_
          rintro e wc ⟨rfl, hbc⟩
          rw [decide_eq_true rfl]
          go_wp2_with fail
          exact ⟨⟨i + 1, _, _, _, (writeD D s l), _, by omega, by go_num, rfl, Lib.hid (KA.out.down hbc), Lib.hid (HA.out.st (St.fresh hbc (fun _ => False) _) (fun h => h) (fun h => h)), Lib.hid (OA.out.st (St.fresh hbc (fun _ => False) _) (fun h => h)), R2⟩, by simp [intOf]; omega⟩
    have k1' : (Kd == 1) = false := by simp [k1]
    have k1'' : (Kd != 1) = true := by simp [k1]
    by_cases k2 : Kd = 2
    · subst k2
      have R2 : Hid (RdInv (barrierD D) k (i + 1) F) := Lib.hid R.out.bar
      go_wp2_with fail
      refine (do_p 1 col b D (2 * i) wr 2 s aB nB cB l aK nK cK keep H.out R.out.fits (by omega) (by decide) hop.sb (by omega) hop.sk HKC.out (doE D 2 s l) (Lib.hid rfl) _ (Lib.hid rfl) (barrierD D) (Lib.hid rfl)).mono ?_
      rintro e w2 ⟨v2, rfl, col2, k2, h2, o2⟩
      have H2 := Lib.hid h2
      have K2 := Lib.hid (K.out.trans (k2.mono one_ne))
      have O2 := Lib.hid (O.out.st k2 (by decide))
      replace hc0 := (K2.out.below.cell (p := ⟨b7, o7 + i * 4, none⟩) hb7).trans hd0
      replace hc1 := (K2.out.below.cell (p := ⟨b7, o7 + i * 4 + 1, none⟩) hb7).trans hd1
      replace hc2 := (K2.out.below.cell (p := ⟨b7, o7 + i * 4 + 2, none⟩) hb7).trans hd2
      replace hc3 := (K2.out.below.cell (p := ⟨b7, o7 + i * 4 + 3, none⟩) hb7).trans hd3
      clear k2 h2 o2
      go_wp2_with fail
      refine (read_ok 1 _ b (barrierD D) (2 * (i + 1)) k w2 _ (H2).out (R2).out.fits (by omega) ((R2).out.read hk16).1 ((R2).out.read hk16).2 (R2).out.full).mono ?_
      rintro e wa ⟨aa, ca, rfl, hoa, hba⟩
      have HA := Lib.hid ((H2).out.st (St.fresh hba (fun _ => False) _) (fun h => h) (fun h => h))
      have KA := Lib.hid ((K2).out.down hba)
      have OA := Lib.hid ((O2).out.st (St.fresh hba (fun _ => False) _) (fun h => h))
      clear hba
      go_wp2_with fail
      refine (eqb_any aa 256 ca _ 256 _ _ _ wa hoa.sl OA.out.1.sl (by decide) (by decide)).mono ?_
      rintro e wc ⟨rfl, hbc⟩
      rw [decide_eq_true rfl]
      go_wp2_with fail
      exact ⟨⟨i + 1, _, _, _, (barrierD D), _, by omega, by go_num, rfl, Lib.hid (KA.out.down hbc), Lib.hid (HA.out.st (St.fresh hbc (fun _ => False) _) (fun h => h) (fun h => h)), Lib.hid (OA.out.st (St.fresh hbc (fun _ => False) _) (fun h => h)), R2⟩, by simp [intOf]; omega⟩
    have k2'' : (Kd != 2) = true := by simp [k2]
    have k0'' : (Kd != 0) = true := by simp [k0]
    clear k0 k1 k2
    go_wp2_with fail
    exact ⟨⟨i + 1, _, _, col, D, F, by omega, by go_num, rfl, K, H, O, Lib.hid R.out.more⟩, by simp [intOf]; omega⟩
theorem diskReads_go (a : Option Addr) (n c : Nat) (L : List Stp) (x : Int) (hx : (Lit.int .u8 x).wf = true) (w : World) (hl : SlOf VStep 4 w (.slice a n c) L) :
    Calls Try.prog 4 #[.slice a n c, .int .u8 x] w fun e w' => e = .returned (.bool true) ∧ Below w.heap.size w w' := by
  obtain ⟨k, rfl, hk⟩ := wf_u8 hx
  exact diskReads_walk a n c L k hk w hl
end Go.Proofs.Ytcocodpeigbdaaa
