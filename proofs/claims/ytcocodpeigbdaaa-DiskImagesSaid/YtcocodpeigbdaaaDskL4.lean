/-
  DiskArms, walked. Conditions: the slice reads.
-/
import Derived.Test.YtcocodpeigbdaaaDskL1
namespace Go.Proofs.Ytcocodpeigbdaaa
open Go.RowKit
set_option linter.unusedVariables false
set_option linter.unusedSimpArgs false

/-- an image that nobody writes -/
def ImI (col : Nat → Nat) (w : World) (v : Value) (L : List (List UInt8)) : Prop := ∃ vs, Sl w 1 v L.length vs ∧ (vs ≠ [] → ∀ g, v.ownBlock = some g → col g = 0) ∧ Imms col w vs L
theorem ImI.st {C : Nat → Prop} {col col' : Nat → Nat} {w w' : World} {v : Value} {L : List (List UInt8)} (h : ImI col w v L) (k : St C col w col' w') (hC : ¬ C 0) : ImI col' w' v L := by
  obtain ⟨vs, h1, h2, h3⟩ := h
  refine ⟨vs, h1.mods0 k.mods (fun hne g hg => by rw [h2 hne g hg]; exact hC), fun hne g hg => ?_, h3.st k hC⟩
  rw [k.ext g (h1.ownLt hne hg)]
  exact h2 hne g hg
theorem ImI.imr {col : Nat → Nat} {w : World} {v : Value} {L : List (List UInt8)} (h : ImI col w v L) : ImR w v L := by
  obtain ⟨vs, h1, h2, h3⟩ := h
  exact ⟨vs, h1, h3.sls⟩
theorem ImI.new {col : Nat → Nat} {w w' : World} {v : Value} {n : Nat} {us : List Value} {L : List (List UInt8)} (h : Imgs w' w.heap.size v n us L) : ImI (recol col w.heap.size 0) w' v L := by
  have h1 := h.own.1
  have h2 := h.ins.sls.len
  have h3 := h.own.sl
  have hn : n = L.length := by omega
  subst hn
  exact ⟨us, h3, fun _ g hg => recol_ge (h.own.lt g hg), h.ins.imms fun u hu g hg => recol_ge (h.ins.lives u hu g hg).1⟩

/-! ### how the power goes -/
structure ArC (D : Dk) (n i : Nat) : Prop where
  live : n = 0 ∨ i < n → D.dead = false ∧ D.armed = (if n = 0 then 0 else (n : Int) - i) ∧ D.steps = i
  gone : 0 < n → n ≤ i → D.dead = true ∧ D.steps = n
theorem ArC.step {D : Dk} {n i : Nat} (h : ArC D n i) (ha : n = 0 ∨ i < n) : ArC (stepD D) n (i + 1) ∧ (stepD D).dead = decide (0 < n ∧ i + 1 = n) := by
  obtain ⟨h1, h2, h3⟩ := h.live ha
  obtain ⟨S, P, d, a, k⟩ := D
  simp only at h1 h2 h3
  subst h1 h3
  by_cases hn : n = 0
  · rw [if_pos hn] at h2
    subst h2
    rw [step_no (by omega)]
    refine ⟨⟨fun _ => ⟨rfl, by rw [if_pos hn], by simp⟩, fun h _ => by omega⟩, ?_⟩
    simp [hn]
  · rw [if_neg hn] at h2
    have hlt : i < n := by omega
    subst h2
    rw [step_yes (by omega)]
    refine ⟨⟨fun hl => ⟨?_, by rw [if_neg hn]; simp only; omega, by simp⟩, fun h1 h2 => ⟨?_, ?_⟩⟩, ?_⟩
    · simp only [beq_eq_false_iff_ne]; omega
    · simp only [beq_iff_eq]; omega
    · simp only; omega
    · simp only
      rw [Bool.eq_iff_iff]
      simp
      omega
structure ArInv (D : Dk) (n i p : Nat) : Prop where
  len : D.S.length = 16
  fits : D.Fits (2 * i)
  pen : D.P.length = p
  core : ArC D n i
theorem ArInv.start {n : Nat} (hn : n < 256) : ArInv (armD wk0 n) n 0 0 ∧ 0 = armE wk0 n := by
  have e : armD wk0 n = ⟨blankD 16, [], false, n, 0⟩ := by
    unfold armD
    rw [if_neg (by decide), if_neg (by omega)]; rfl
  refine ⟨?_, ?_⟩
  · rw [e]
    refine ⟨blankD_len 16, ⟨⟨wk_f0.fit.at_, wk_f0.fit.sl, wk_f0.fit.pl⟩, by simp only; omega, Nat.zero_le _, Int.le_refl 0, Int.le_refl 0, wk_f0.sec⟩, rfl, ⟨fun h => ⟨rfl, ?_, rfl⟩, fun h1 h2 => by omega⟩⟩
    simp only
    split
    · rename_i h; subst h; rfl
    · omega
  · unfold armE
    rw [if_neg (by decide), if_neg (by omega)]
theorem ArInv.dead {D : Dk} {n i p : Nat} (h : ArInv D n i p) (h1 : 0 < n) (h2 : n ≤ i) (q : Int) (l : List UInt8) : 4 = writeE D q l ∧ D = writeD D q l ∧ 4 = barrierE D ∧ D = barrierD D ∧ ArInv D n (i + 1) p ∧ D.dead = true := by
  have hd := (h.core.gone h1 h2).1
  refine ⟨by simp [writeE, hd], by simp [writeD, hd], by simp [barrierE, hd], by simp [barrierD, hd], ⟨h.len, h.fits.le (by omega), h.pen, ⟨fun hl => by omega, fun _ _ => h.core.gone h1 h2⟩⟩, hd⟩
theorem ArInv.write {D : Dk} {n i p : Nat} (h : ArInv D n i p) (ha : n = 0 ∨ i < n) {q : Nat} {l : List UInt8} (hq : q < 16) (hl : l.length ≤ 256) :
    (if 0 < n ∧ i + 1 = n then 4 else 0) = writeE D q l ∧ ArInv (writeD D q l) n (i + 1) (p + 1) ∧ (writeD D q l).S = D.S ∧ (writeD D q l).dead = decide (0 < n ∧ i + 1 = n) := by
  have hd := (h.core.live ha).1
  have hw : writeIs D q l = true := by simp [writeIs, inD, h.len]; omega
  have hc : ArC (writeM D q l) n i := ⟨h.core.live, h.core.gone⟩
  obtain ⟨k1, k2⟩ := hc.step ha
  have e : writeD D q l = stepD (writeM D q l) := by unfold writeD; rw [if_neg (by rw [hd]; simp), if_neg (by rw [hw]; simp)]
  have e2 : writeE D q l = powE (stepD D) := by unfold writeE; rw [if_neg (by rw [hd]; simp), if_neg (by rw [hw]; simp)]
  obtain ⟨g1, g2, _⟩ := stepD_fields (writeM D q l)
  refine ⟨?_, ⟨?_, ?_, ?_, ?_⟩, ?_, ?_⟩
  · rw [e2, powE, ← stepD_writeM D q l, k2]
    by_cases hg : 0 < n ∧ i + 1 = n <;> simp [hg]
  · rw [e, g1]; exact h.len
  · exact writeD_fits h.fits _ _
  · rw [e, g2]; show (D.P ++ [_]).length = _; rw [List.length_append, h.pen]; rfl
  · rw [e]; exact k1
  · rw [e, g1]; rfl
  · rw [e, k2]
theorem ArInv.bar {D : Dk} {n i p : Nat} (h : ArInv D n i p) (ha : n = 0 ∨ i < n) :
    (0 < n ∧ i + 1 = n → 4 = barrierE D ∧ ArInv (barrierD D) n (i + 1) p ∧ (barrierD D).S = D.S ∧ (barrierD D).dead = true) ∧ (¬ (0 < n ∧ i + 1 = n) → 0 = barrierE D ∧ ArInv (barrierD D) n (i + 1) 0 ∧ (barrierD D).dead = false) := by
  have hd := (h.core.live ha).1
  obtain ⟨k1, k2⟩ := h.core.step ha
  obtain ⟨g1, g2, _⟩ := stepD_fields D
  refine ⟨fun hg => ?_, fun hg => ?_⟩
  · have hs : (stepD D).dead = true := by rw [k2]; exact decide_eq_true hg
    have e : barrierD D = stepD D := by unfold barrierD; rw [if_neg (by rw [hd]; simp), if_pos hs]
    refine ⟨by unfold barrierE powE; rw [if_neg (by rw [hd]; simp), if_pos hs], ⟨?_, barrierD_fits h.fits, ?_, ?_⟩, ?_, ?_⟩
    · rw [e, g1]; exact h.len
    · rw [e, g2]; exact h.pen
    · rw [e]; exact k1
    · rw [e, g1]
    · rw [e]; exact hs
  · have hs : (stepD D).dead = false := by rw [k2]; exact decide_eq_false hg
    have e : barrierD D = settleD allF (stepD D) := by unfold barrierD; rw [if_neg (by rw [hd]; simp), if_neg (by rw [hs]; simp)]
    refine ⟨by unfold barrierE powE; rw [if_neg (by rw [hd]; simp), if_neg (by rw [hs]; simp)], ⟨?_, barrierD_fits h.fits, ?_, ?_⟩, ?_⟩
    · rw [e]; show (settleN allF (stepD D).S (stepD D).P (stepD D).P.length).length = 16; rw [settleN_len, g1]; exact h.len
    · rw [e]; rfl
    · rw [e]; exact ⟨k1.live, k1.gone⟩
    · rw [e]; exact hs
theorem DkAt.c1 {e : TypeId} {c : Nat} {col : Nat → Nat} {w : World} {b : Nat} {D : Dk} (h : DkAt e c col w b D) : ∃ a cc, w.cell? ⟨b, 1, none⟩ = some (.slice a D.P.length cc) := by
  obtain ⟨aS, cS, aP, cP, sv, pv, h⟩ := h
  exact ⟨aP, cP, h.row.cell 1⟩
theorem image_q (c : Nat) (col : Nat → Nat) (b : Nat) (D : Dk) (k : Nat) (w : World) (h : DkAt 74 c col w b D) (hF : D.Fits k) (n : Nat) (hn : D.S.length = n) :
    Calls Try.prog 23 #[.pointer (some ⟨b, 0, none⟩)] w fun e w' => ∃ a cc, e = .returned (.slice a n cc) ∧ ImI (recol col w.heap.size 0) w' (.slice a n cc) D.S ∧ Below w.heap.size w w' := by
  refine (image_p c col b D w h hF.sec (fun l hl => by have := hF.fit.sl l hl; omega)).mono ?_
  rintro e w' ⟨v, us, rfl, hi, hb⟩
  have h2 := ImI.new (col := col) hi
  rw [hn] at hi
  obtain ⟨a, cc, rfl⟩ := hi.own.form
  exact ⟨a, cc, rfl, h2, hb⟩
set_option maxRecDepth 100000 in
set_option maxHeartbeats 4000000 in
theorem diskArms_walk (n : Nat) (hn : n < 256) (a : Option Addr) (m c : Nat) (l : List Bool) (w : World) (hl : Sl w 1 (.slice a m c) m (bos l)) :
    Calls Try.prog 5 #[.int .u8 (n : Int), .slice a m c] w fun e w' => e = .returned (.bool true) ∧ Below w.heap.size w w' := by
  have HM : Hid (l.length = m) := Lib.hid (by have h := hl.cap; rw [bos_length] at h; omega)
  by_cases hm : 120 < m
  · have hm' : (120 : Int) < m := by omega
    have hB := Below.refl w.heap.size w
    go_enter Try.func5, Try.ntmps5
    go_wp2_with fail
    refine (works_any w).mono ?_
    rintro e wz ⟨rfl, hbz⟩
    go_wp2_with fail
    go_ret
    exact ⟨rfl, (hB).trans (hbz.mono (hB).size)⟩
  have hm' : ¬ (120 : Int) < m := by omega
  go_enter Try.func5, Try.ntmps5
  go_wp2_with fail
  refine (new16 w col0).mono ?_
  rintro e w2 ⟨b, rfl, col2, k2, h2⟩
  have K2 : Hid (St NZ col0 w col2 w2) := Lib.hid (k2.mono (fun _ h => h.elim))
  have A0 := Lib.hid (ArInv.start hn)
  clear k2
  go_wp2_with fail
  refine (arm_p 1 col2 b wk0 n w2 h2 0 (Lib.hid A0.out.2) (armD wk0 n) (Lib.hid rfl)).mono ?_
  rintro e w3 ⟨rfl, col3, k3, h3⟩
  have K3 := Lib.hid (K2.out.trans (k3.mono one_ne))
  have N3 : Hid (1 = armE (armD wk0 n) (-1) ∧ armD wk0 n = armD (armD wk0 n) (-1)) := Lib.hid (by
    have hd := (A0.out.1.core.live (by omega)).1
    exact ⟨by simp [armE, hd], by rw [armD.eq_1 (armD wk0 n) (-1), if_neg (by rw [hd]; simp), if_pos (by decide)]⟩)
  clear k3 h2 K2
  go_wp2_with fail
  refine (arm_p 1 col3 b (armD wk0 n) (-1) w3 h3 1 (Lib.hid N3.out.1) (armD wk0 n) (Lib.hid N3.out.2)).mono ?_
  rintro e w4 ⟨rfl, col4, k4, h4⟩
  have K4 := Lib.hid (K3.out.trans (k4.mono one_ne))
  have H4 := Lib.hid h4
  clear k4 h3 K3 h4
  go_wp2_with fail
  go_loopw [7, 8] (fun v7 v8 wr => ∃ i p col D, i ≤ m ∧ v8 = .int .i64 (i : Nat) ∧ v7 = .int .i64 (p : Nat) ∧ p ≤ i ∧ Hid (St NZ col0 w col wr) ∧ Hid (DkAt 74 1 col wr b D) ∧ Hid (ArInv D n i p)) (fun _ v8 _ => m - (intOf v8).toNat)
  case atStart => exact ⟨0, 0, col4, _, Nat.zero_le _, rfl, rfl, Nat.le_refl _, K4, H4, Lib.hid A0.out.1⟩
  case round =>
    obtain ⟨i, p, col, D, hi, rfl, rfl, hpi, K, H, R⟩ := hrel
    by_cases him : i = m
    · subst him
      have hst := H.out.c4
      have hB := K.out.below
      by_cases hn0 : n = 0
      · subst hn0
        rw [(R.out.core.live (.inl rfl)).2.2] at hst
        have hii : ((i : Int) == (i : Int)) = true := by simp
        go_wp2_with fail
        refine (steps_any b i wr hst).mono ?_
        rintro e wx ⟨rfl, rfl⟩
        go_wp2_with fail
        refine (works_any wr).mono ?_
        rintro e wz ⟨rfl, hbz⟩
        go_wp2_with fail
        go_ret
        exact ⟨rfl, (hB).trans (hbz.mono (hB).size)⟩
      · have g0 : (0 : Int) < n := by omega
        have hii : ((i : Int) == (i : Int)) = true := by simp
        have hnn : ((n : Int) == (n : Int)) = true := by simp
        by_cases hni : n < i
        · rw [(R.out.core.gone (by omega) (by omega)).2] at hst
          go_wp2_with fail
          refine (steps_any b n wr hst).mono ?_
          rintro e wx ⟨rfl, rfl⟩
          go_wp2_with fail
          refine (works_any wr).mono ?_
          rintro e wz ⟨rfl, hbz⟩
          go_wp2_with fail
          go_ret
          exact ⟨rfl, (hB).trans (hbz.mono (hB).size)⟩
        · have hsi : D.steps = i := by
            by_cases hlt : i < n
            · exact (R.out.core.live (.inr hlt)).2.2
            · rw [(R.out.core.gone (by omega) (by omega)).2]; omega
          rw [hsi] at hst
          go_wp2_with fail
          refine (steps_any b i wr hst).mono ?_
          rintro e wx ⟨rfl, rfl⟩
          go_wp2_with fail
          refine (works_any wr).mono ?_
          rintro e wz ⟨rfl, hbz⟩
          go_wp2_with fail
          go_ret
          exact ⟨rfl, (hB).trans (hbz.mono (hB).size)⟩
    have hlt : i < m := by omega
    have hlt' : (i : Int) < m := by omega
    obtain ⟨q, hq⟩ : ∃ q, q = i % 16 := ⟨_, rfl⟩
    have hq16 : q < 16 := by omega
    have hqe : (i : Int) % 16 = (q : Int) := by omega
    obtain ⟨b7, o7, rfl, hb7, hcs⟩ := hl.addr (by omega)
    have hc0 := hcs i _ (bos_get l i (by rw [HM.out]; exact hlt))
    have hc := (K.out.below.cell (p := ⟨b7, o7 + i, none⟩) hb7).trans hc0
    clear hcs hq
    have hpp : ((p : Int) + 1 != (p : Int) + 1) = false := by simp
    have hp0 : ((p : Int) != (p : Int)) = false := by simp
    rcases (show n = 0 ∨ (0 < n ∧ i + 1 < n) ∨ (0 < n ∧ i + 1 = n) ∨ (0 < n ∧ n ≤ i) by omega) with hm0 | ⟨hm0, hm1⟩ | ⟨hm0, hm1⟩ | ⟨hm0, hm1⟩
    · have g0 : ¬ (0 : Int) < n := by omega
      have M := Lib.hid hm0
      clear hm0
      cases hk : l.getD i false with
      | true =>
        rw [hk] at hc hc0
        clear hk
        have Wr := Lib.hid (R.out.write (.inl M.out) hq16 (l := [UInt8.ofNat i, 1]) (by simp))
        have R2 := Lib.hid Wr.out.2.1
        have TS := Lib.hid Wr.out.2.2.1
        have DE : Hid ((writeD D q [UInt8.ofNat i, 1]).dead = false) := Lib.hid (by rw [Wr.out.2.2.2]; exact decide_eq_false (by have := M.out; omega))
        go_wp2_with fail
        refine (image_q 1 col b D (2 * i) wr H.out R.out.fits 16 R.out.len).mono ?_
        rintro e w2 ⟨a2, c2, rfl, hi2, hb2⟩
        have H2 := Lib.hid (H.out.st (St.new hb2 (fun _ => False) col 0) (fun h => h) (fun h => h))
        have K2 := Lib.hid (K.out.trans (St.new hb2 NZ col 0))
        replace hc := (hb2.cell (p := ⟨b7, o7 + i, none⟩) (lt_of_cell hc)).trans hc
        have hb3 : Below w2.heap.size w2 (w2.alloc (.cells #[.int .u8 (i : Int), .int .u8 1] 5)) := (Below.refl _ _).alloc (Nat.le_refl _) _
        have k3 : St (fun _ => False) (recol col wr.heap.size 0) w2 (recol col wr.heap.size 0) (w2.alloc (.cells #[.int .u8 (i : Int), .int .u8 1] 5)) := St.fresh hb3 _ _
        have H3 := Lib.hid (H2.out.st k3 (fun h => h) (fun h => h))
        have K3 := Lib.hid (K2.out.down hb3)
        have I3 := Lib.hid (hi2.st k3 (fun h => h))
        have S3 : Hid (Sl (w2.alloc (.cells #[.int .u8 (i : Int), .int .u8 1] 5)) 1 (.slice (some ⟨w2.heap.size, 0, none⟩) 2 2) 2 (bvs [UInt8.ofNat i, 1])) := Lib.hid (by
          have h := Sl.lit w2 [.int .u8 (i : Int), .int .u8 1] 5 2 rfl (by decide)
          have e : bvs [UInt8.ofNat i, 1] = [.int .u8 (i : Int), .int .u8 1] := by simp [bvs, UInt8.toNat_ofNat', Nat.mod_eq_of_lt (show i < 256 by omega)]
          rw [e]; exact h)
        have hcz := (hb3.cell (p := ⟨b7, o7 + i, none⟩) (lt_of_cell hc)).trans hc
        clear hb2 hb3 k3 hi2
        go_wp2_with fail
        refine (write_p 1 _ b D q (2 * i) _ 2 2 [UInt8.ofNat i, 1] _ H3.out R.out.fits (by omega) S3.out 0 (Lib.hid (by have := Wr.out.1; rwa [if_neg (by have := M.out; omega)] at this)) (writeD D q [UInt8.ofNat i, 1]) (Lib.hid rfl)).mono ?_
        rintro e w4 ⟨rfl, col4, k4, h4⟩
        have I4 := Lib.hid (I3.out.st k4 (by decide))
        have K4 := Lib.hid (K3.out.trans (k4.mono one_ne))
        have H4 := Lib.hid h4
        have hc4 := (K4.out.below.cell (p := ⟨b7, o7 + i, none⟩) hb7).trans hc0
        clear hc hcz k4 h4 H2 K2 H3 K3 I3 S3
        have hcd := H4.out.c2
        rw [(DE).out] at hcd
        go_wp2_with fail
        refine (dead_any b false w4 hcd).mono ?_
        rintro e wx ⟨rfl, rfl⟩
        obtain ⟨ap, cp, hcp⟩ := H4.out.c1
        rw [(R2).out.pen] at hcp
        go_wp2_with fail
        refine (pending_any b ap (p + 1) cp w4 hcp).mono ?_
        rintro e wx ⟨rfl, rfl⟩
        clear hcd hcp
        go_wp2_with fail
        refine (image_q 1 col4 b (writeD D q [UInt8.ofNat i, 1]) (2 * (i + 1)) w4 H4.out (R2).out.fits 16 (R2).out.len).mono ?_
        rintro e w5 ⟨a5, c5, rfl, hi5, hb5⟩
        have H5 := Lib.hid (H4.out.st (St.new hb5 (fun _ => False) col4 0) (fun h => h) (fun h => h))
        have K5 := Lib.hid (K4.out.trans (St.new hb5 NZ col4 0))
        have I5 := Lib.hid (I4.out.st (St.new hb5 (fun _ => False) col4 0) (fun h => h))
        have HSL : Hid (∀ l ∈ D.S, l.length ≤ 1048576) := Lib.hid (fun l hl => by have := R.out.fits.fit.sl l hl; omega)
        have hi6 := hi5.imr
        rw [(TS).out] at hi6
        clear hb5
        go_wp2_with fail
        refine (sameImage_any a5 16 c5 D.S a2 16 c2 D.S w5 hi6 I5.out.imr (by decide) HSL.out HSL.out true (Lib.hid (by simp))).mono ?_
        rintro e w6 ⟨rfl, hb6⟩
        clear hi5 hi6
        go_wp2_with fail
        exact ⟨⟨i + 1, (p + 1), _, (writeD D q [UInt8.ofNat i, 1]), by omega, by go_num, by go_num, by omega, Lib.hid (K5.out.down hb6), Lib.hid (H5.out.st (St.fresh hb6 (fun _ => False) _) (fun h => h) (fun h => h)), R2⟩, by simp [intOf]; omega⟩
      | false =>
        rw [hk] at hc hc0
        clear hk
        have Wr := Lib.hid ((R.out.bar (.inl M.out)).2 (by have := M.out; omega))
        have R2 := Lib.hid Wr.out.2.1
        have DE := Lib.hid Wr.out.2.2
        go_wp2_with fail
        refine (image_q 1 col b D (2 * i) wr H.out R.out.fits 16 R.out.len).mono ?_
        rintro e w2 ⟨a2, c2, rfl, hi2, hb2⟩
        have H2 := Lib.hid (H.out.st (St.new hb2 (fun _ => False) col 0) (fun h => h) (fun h => h))
        have K2 := Lib.hid (K.out.trans (St.new hb2 NZ col 0))
        have I3 := Lib.hid hi2
        replace hc := (hb2.cell (p := ⟨b7, o7 + i, none⟩) (lt_of_cell hc)).trans hc
        clear hb2 hi2
        go_wp2_with fail
        refine (barrier_p 1 _ b D (2 * i) _ H2.out R.out.fits (by omega) 0 (Lib.hid Wr.out.1) (barrierD D) (Lib.hid rfl)).mono ?_
        rintro e w4 ⟨rfl, col4, k4, h4⟩
        have I4 := Lib.hid (I3.out.st k4 (by decide))
        have K4 := Lib.hid (K2.out.trans (k4.mono one_ne))
        have H4 := Lib.hid h4
        have hc4 := (K4.out.below.cell (p := ⟨b7, o7 + i, none⟩) hb7).trans hc0
        clear hc k4 h4 H2 K2 I3
        have hcd := H4.out.c2
        rw [(DE).out] at hcd
        go_wp2_with fail
        refine (dead_any b false w4 hcd).mono ?_
        rintro e wx ⟨rfl, rfl⟩
        obtain ⟨ap, cp, hcp⟩ := H4.out.c1
        rw [(R2).out.pen] at hcp
        go_wp2_with fail
        refine (pending_any b ap 0 cp w4 hcp).mono ?_
        rintro e wx ⟨rfl, rfl⟩
        clear hcd hcp
        go_wp2_with fail
        exact ⟨⟨i + 1, 0, _, barrierD D, by omega, by go_num, rfl, by omega, K4, H4, R2⟩, by simp [intOf]; omega⟩
    · have g0 : (0 : Int) < n := by omega
      have g1 : ((i : Int) == (n : Int) - 1) = false := by rw [beq_eq_false_iff_ne]; omega
      have g2 : ¬ (n : Int) ≤ i := by omega
      have g3 : ¬ n ≤ i := by omega
      have M := Lib.hid (And.intro hm0 hm1)
      clear hm0 hm1
      cases hk : l.getD i false with
      | true =>
        rw [hk] at hc hc0
        clear hk
        have Wr := Lib.hid (R.out.write (.inr (by have := M.out; omega)) hq16 (l := [UInt8.ofNat i, 1]) (by simp))
        have R2 := Lib.hid Wr.out.2.1
        have TS := Lib.hid Wr.out.2.2.1
        have DE : Hid ((writeD D q [UInt8.ofNat i, 1]).dead = false) := Lib.hid (by rw [Wr.out.2.2.2]; exact decide_eq_false (by have := M.out; omega))
        go_wp2_with fail
        refine (image_q 1 col b D (2 * i) wr H.out R.out.fits 16 R.out.len).mono ?_
        rintro e w2 ⟨a2, c2, rfl, hi2, hb2⟩
        have H2 := Lib.hid (H.out.st (St.new hb2 (fun _ => False) col 0) (fun h => h) (fun h => h))
        have K2 := Lib.hid (K.out.trans (St.new hb2 NZ col 0))
        replace hc := (hb2.cell (p := ⟨b7, o7 + i, none⟩) (lt_of_cell hc)).trans hc
        have hb3 : Below w2.heap.size w2 (w2.alloc (.cells #[.int .u8 (i : Int), .int .u8 1] 5)) := (Below.refl _ _).alloc (Nat.le_refl _) _
        have k3 : St (fun _ => False) (recol col wr.heap.size 0) w2 (recol col wr.heap.size 0) (w2.alloc (.cells #[.int .u8 (i : Int), .int .u8 1] 5)) := St.fresh hb3 _ _
        have H3 := Lib.hid (H2.out.st k3 (fun h => h) (fun h => h))
        have K3 := Lib.hid (K2.out.down hb3)
        have I3 := Lib.hid (hi2.st k3 (fun h => h))
        have S3 : Hid (Sl (w2.alloc (.cells #[.int .u8 (i : Int), .int .u8 1] 5)) 1 (.slice (some ⟨w2.heap.size, 0, none⟩) 2 2) 2 (bvs [UInt8.ofNat i, 1])) := Lib.hid (by
          have h := Sl.lit w2 [.int .u8 (i : Int), .int .u8 1] 5 2 rfl (by decide)
          have e : bvs [UInt8.ofNat i, 1] = [.int .u8 (i : Int), .int .u8 1] := by simp [bvs, UInt8.toNat_ofNat', Nat.mod_eq_of_lt (show i < 256 by omega)]
          rw [e]; exact h)
        have hcz := (hb3.cell (p := ⟨b7, o7 + i, none⟩) (lt_of_cell hc)).trans hc
        clear hb2 hb3 k3 hi2
        go_wp2_with fail
        refine (write_p 1 _ b D q (2 * i) _ 2 2 [UInt8.ofNat i, 1] _ H3.out R.out.fits (by omega) S3.out 0 (Lib.hid (by have := Wr.out.1; rwa [if_neg (by have := M.out; omega)] at this)) (writeD D q [UInt8.ofNat i, 1]) (Lib.hid rfl)).mono ?_
        rintro e w4 ⟨rfl, col4, k4, h4⟩
        have I4 := Lib.hid (I3.out.st k4 (by decide))
        have K4 := Lib.hid (K3.out.trans (k4.mono one_ne))
        have H4 := Lib.hid h4
        have hc4 := (K4.out.below.cell (p := ⟨b7, o7 + i, none⟩) hb7).trans hc0
        clear hc hcz k4 h4 H2 K2 H3 K3 I3 S3
        have hcd := H4.out.c2
        rw [(DE).out] at hcd
        go_wp2_with fail
        refine (dead_any b false w4 hcd).mono ?_
        rintro e wx ⟨rfl, rfl⟩
        obtain ⟨ap, cp, hcp⟩ := H4.out.c1
        rw [(R2).out.pen] at hcp
        go_wp2_with fail
        refine (pending_any b ap (p + 1) cp w4 hcp).mono ?_
        rintro e wx ⟨rfl, rfl⟩
        clear hcd hcp
        go_wp2_with fail
        refine (image_q 1 col4 b (writeD D q [UInt8.ofNat i, 1]) (2 * (i + 1)) w4 H4.out (R2).out.fits 16 (R2).out.len).mono ?_
        rintro e w5 ⟨a5, c5, rfl, hi5, hb5⟩
        have H5 := Lib.hid (H4.out.st (St.new hb5 (fun _ => False) col4 0) (fun h => h) (fun h => h))
        have K5 := Lib.hid (K4.out.trans (St.new hb5 NZ col4 0))
        have I5 := Lib.hid (I4.out.st (St.new hb5 (fun _ => False) col4 0) (fun h => h))
        have HSL : Hid (∀ l ∈ D.S, l.length ≤ 1048576) := Lib.hid (fun l hl => by have := R.out.fits.fit.sl l hl; omega)
        have hi6 := hi5.imr
        rw [(TS).out] at hi6
        clear hb5
        go_wp2_with fail
        refine (sameImage_any a5 16 c5 D.S a2 16 c2 D.S w5 hi6 I5.out.imr (by decide) HSL.out HSL.out true (Lib.hid (by simp))).mono ?_
        rintro e w6 ⟨rfl, hb6⟩
        clear hi5 hi6
        go_wp2_with fail
        exact ⟨⟨i + 1, (p + 1), _, (writeD D q [UInt8.ofNat i, 1]), by omega, by go_num, by go_num, by omega, Lib.hid (K5.out.down hb6), Lib.hid (H5.out.st (St.fresh hb6 (fun _ => False) _) (fun h => h) (fun h => h)), R2⟩, by simp [intOf]; omega⟩
      | false =>
        rw [hk] at hc hc0
        clear hk
        have Wr := Lib.hid ((R.out.bar (.inr (by have := M.out; omega))).2 (by have := M.out; omega))
        have R2 := Lib.hid Wr.out.2.1
        have DE := Lib.hid Wr.out.2.2
        go_wp2_with fail
        refine (image_q 1 col b D (2 * i) wr H.out R.out.fits 16 R.out.len).mono ?_
        rintro e w2 ⟨a2, c2, rfl, hi2, hb2⟩
        have H2 := Lib.hid (H.out.st (St.new hb2 (fun _ => False) col 0) (fun h => h) (fun h => h))
        have K2 := Lib.hid (K.out.trans (St.new hb2 NZ col 0))
        have I3 := Lib.hid hi2
        replace hc := (hb2.cell (p := ⟨b7, o7 + i, none⟩) (lt_of_cell hc)).trans hc
        clear hb2 hi2
        go_wp2_with fail
        refine (barrier_p 1 _ b D (2 * i) _ H2.out R.out.fits (by omega) 0 (Lib.hid Wr.out.1) (barrierD D) (Lib.hid rfl)).mono ?_
        rintro e w4 ⟨rfl, col4, k4, h4⟩
        have I4 := Lib.hid (I3.out.st k4 (by decide))
        have K4 := Lib.hid (K2.out.trans (k4.mono one_ne))
        have H4 := Lib.hid h4
        have hc4 := (K4.out.below.cell (p := ⟨b7, o7 + i, none⟩) hb7).trans hc0
        clear hc k4 h4 H2 K2 I3
        have hcd := H4.out.c2
        rw [(DE).out] at hcd
        go_wp2_with fail
        refine (dead_any b false w4 hcd).mono ?_
        rintro e wx ⟨rfl, rfl⟩
        obtain ⟨ap, cp, hcp⟩ := H4.out.c1
        rw [(R2).out.pen] at hcp
        go_wp2_with fail
        refine (pending_any b ap 0 cp w4 hcp).mono ?_
        rintro e wx ⟨rfl, rfl⟩
        clear hcd hcp
        go_wp2_with fail
        exact ⟨⟨i + 1, 0, _, barrierD D, by omega, by go_num, rfl, by omega, K4, H4, R2⟩, by simp [intOf]; omega⟩
    · have g0 : (0 : Int) < n := by omega
      have g1 : ((i : Int) == (n : Int) - 1) = true := by simp; omega
      have g2 : ¬ (n : Int) ≤ i := by omega
      have g3 : ¬ n ≤ i := by omega
      have M := Lib.hid (And.intro hm0 hm1)
      clear hm0 hm1
      cases hk : l.getD i false with
      | true =>
        rw [hk] at hc hc0
        clear hk
        have Wr := Lib.hid (R.out.write (.inr (by have := M.out; omega)) hq16 (l := [UInt8.ofNat i, 1]) (by simp))
        have R2 := Lib.hid Wr.out.2.1
        have TS := Lib.hid Wr.out.2.2.1
        have DE : Hid ((writeD D q [UInt8.ofNat i, 1]).dead = true) := Lib.hid (by rw [Wr.out.2.2.2]; exact decide_eq_true (by have := M.out; omega))
        go_wp2_with fail
        refine (image_q 1 col b D (2 * i) wr H.out R.out.fits 16 R.out.len).mono ?_
        rintro e w2 ⟨a2, c2, rfl, hi2, hb2⟩
        have H2 := Lib.hid (H.out.st (St.new hb2 (fun _ => False) col 0) (fun h => h) (fun h => h))
        have K2 := Lib.hid (K.out.trans (St.new hb2 NZ col 0))
        replace hc := (hb2.cell (p := ⟨b7, o7 + i, none⟩) (lt_of_cell hc)).trans hc
        have hb3 : Below w2.heap.size w2 (w2.alloc (.cells #[.int .u8 (i : Int), .int .u8 1] 5)) := (Below.refl _ _).alloc (Nat.le_refl _) _
        have k3 : St (fun _ => False) (recol col wr.heap.size 0) w2 (recol col wr.heap.size 0) (w2.alloc (.cells #[.int .u8 (i : Int), .int .u8 1] 5)) := St.fresh hb3 _ _
        have H3 := Lib.hid (H2.out.st k3 (fun h => h) (fun h => h))
        have K3 := Lib.hid (K2.out.down hb3)
        have I3 := Lib.hid (hi2.st k3 (fun h => h))
        have S3 : Hid (Sl (w2.alloc (.cells #[.int .u8 (i : Int), .int .u8 1] 5)) 1 (.slice (some ⟨w2.heap.size, 0, none⟩) 2 2) 2 (bvs [UInt8.ofNat i, 1])) := Lib.hid (by
          have h := Sl.lit w2 [.int .u8 (i : Int), .int .u8 1] 5 2 rfl (by decide)
          have e : bvs [UInt8.ofNat i, 1] = [.int .u8 (i : Int), .int .u8 1] := by simp [bvs, UInt8.toNat_ofNat', Nat.mod_eq_of_lt (show i < 256 by omega)]
          rw [e]; exact h)
        have hcz := (hb3.cell (p := ⟨b7, o7 + i, none⟩) (lt_of_cell hc)).trans hc
        clear hb2 hb3 k3 hi2
        go_wp2_with fail
        refine (write_p 1 _ b D q (2 * i) _ 2 2 [UInt8.ofNat i, 1] _ H3.out R.out.fits (by omega) S3.out 4 (Lib.hid (by have := Wr.out.1; rwa [if_pos (by have := M.out; omega)] at this)) (writeD D q [UInt8.ofNat i, 1]) (Lib.hid rfl)).mono ?_
        rintro e w4 ⟨rfl, col4, k4, h4⟩
        have I4 := Lib.hid (I3.out.st k4 (by decide))
        have K4 := Lib.hid (K3.out.trans (k4.mono one_ne))
        have H4 := Lib.hid h4
        have hc4 := (K4.out.below.cell (p := ⟨b7, o7 + i, none⟩) hb7).trans hc0
        clear hc hcz k4 h4 H2 K2 H3 K3 I3 S3
        have hcd := H4.out.c2
        rw [(DE).out] at hcd
        go_wp2_with fail
        refine (dead_any b true w4 hcd).mono ?_
        rintro e wx ⟨rfl, rfl⟩
        obtain ⟨ap, cp, hcp⟩ := H4.out.c1
        rw [(R2).out.pen] at hcp
        go_wp2_with fail
        refine (pending_any b ap (p + 1) cp w4 hcp).mono ?_
        rintro e wx ⟨rfl, rfl⟩
        clear hcd hcp
        go_wp2_with fail
        refine (image_q 1 col4 b (writeD D q [UInt8.ofNat i, 1]) (2 * (i + 1)) w4 H4.out (R2).out.fits 16 (R2).out.len).mono ?_
        rintro e w5 ⟨a5, c5, rfl, hi5, hb5⟩
        have H5 := Lib.hid (H4.out.st (St.new hb5 (fun _ => False) col4 0) (fun h => h) (fun h => h))
        have K5 := Lib.hid (K4.out.trans (St.new hb5 NZ col4 0))
        have I5 := Lib.hid (I4.out.st (St.new hb5 (fun _ => False) col4 0) (fun h => h))
        have HSL : Hid (∀ l ∈ D.S, l.length ≤ 1048576) := Lib.hid (fun l hl => by have := R.out.fits.fit.sl l hl; omega)
        have hi6 := hi5.imr
        rw [(TS).out] at hi6
        clear hb5
        go_wp2_with fail
        refine (sameImage_any a5 16 c5 D.S a2 16 c2 D.S w5 hi6 I5.out.imr (by decide) HSL.out HSL.out true (Lib.hid (by simp))).mono ?_
        rintro e w6 ⟨rfl, hb6⟩
        clear hi5 hi6
        go_wp2_with fail
        exact ⟨⟨i + 1, (p + 1), _, (writeD D q [UInt8.ofNat i, 1]), by omega, by go_num, by go_num, by omega, Lib.hid (K5.out.down hb6), Lib.hid (H5.out.st (St.fresh hb6 (fun _ => False) _) (fun h => h) (fun h => h)), R2⟩, by simp [intOf]; omega⟩
      | false =>
        rw [hk] at hc hc0
        clear hk
        have Wr := Lib.hid ((R.out.bar (.inr (by have := M.out; omega))).1 (by have := M.out; omega))
        have R2 := Lib.hid Wr.out.2.1
        have TS := Lib.hid Wr.out.2.2.1
        have DE := Lib.hid Wr.out.2.2.2
        go_wp2_with fail
        refine (image_q 1 col b D (2 * i) wr H.out R.out.fits 16 R.out.len).mono ?_
        rintro e w2 ⟨a2, c2, rfl, hi2, hb2⟩
        have H2 := Lib.hid (H.out.st (St.new hb2 (fun _ => False) col 0) (fun h => h) (fun h => h))
        have K2 := Lib.hid (K.out.trans (St.new hb2 NZ col 0))
        have I3 := Lib.hid hi2
        replace hc := (hb2.cell (p := ⟨b7, o7 + i, none⟩) (lt_of_cell hc)).trans hc
        clear hb2 hi2
        go_wp2_with fail
        refine (barrier_p 1 _ b D (2 * i) _ H2.out R.out.fits (by omega) 4 (Lib.hid Wr.out.1) (barrierD D) (Lib.hid rfl)).mono ?_
        rintro e w4 ⟨rfl, col4, k4, h4⟩
        have I4 := Lib.hid (I3.out.st k4 (by decide))
        have K4 := Lib.hid (K2.out.trans (k4.mono one_ne))
        have H4 := Lib.hid h4
        have hc4 := (K4.out.below.cell (p := ⟨b7, o7 + i, none⟩) hb7).trans hc0
        clear hc k4 h4 H2 K2 I3
        have hcd := H4.out.c2
        rw [(DE).out] at hcd
        go_wp2_with fail
        refine (dead_any b true w4 hcd).mono ?_
        rintro e wx ⟨rfl, rfl⟩
        obtain ⟨ap, cp, hcp⟩ := H4.out.c1
        rw [(R2).out.pen] at hcp
        go_wp2_with fail
        refine (pending_any b ap p cp w4 hcp).mono ?_
        rintro e wx ⟨rfl, rfl⟩
        clear hcd hcp
        go_wp2_with fail
        refine (image_q 1 col4 b (barrierD D) (2 * (i + 1)) w4 H4.out (R2).out.fits 16 (R2).out.len).mono ?_
        rintro e w5 ⟨a5, c5, rfl, hi5, hb5⟩
        have H5 := Lib.hid (H4.out.st (St.new hb5 (fun _ => False) col4 0) (fun h => h) (fun h => h))
        have K5 := Lib.hid (K4.out.trans (St.new hb5 NZ col4 0))
        have I5 := Lib.hid (I4.out.st (St.new hb5 (fun _ => False) col4 0) (fun h => h))
        have HSL : Hid (∀ l ∈ D.S, l.length ≤ 1048576) := Lib.hid (fun l hl => by have := R.out.fits.fit.sl l hl; omega)
        have hi6 := hi5.imr
        rw [(TS).out] at hi6
        clear hb5
        go_wp2_with fail
        refine (sameImage_any a5 16 c5 D.S a2 16 c2 D.S w5 hi6 I5.out.imr (by decide) HSL.out HSL.out true (Lib.hid (by simp))).mono ?_
        rintro e w6 ⟨rfl, hb6⟩
        clear hi5 hi6
        go_wp2_with fail
        exact ⟨⟨i + 1, p, _, (barrierD D), by omega, by go_num, by go_num, by omega, Lib.hid (K5.out.down hb6), Lib.hid (H5.out.st (St.fresh hb6 (fun _ => False) _) (fun h => h) (fun h => h)), R2⟩, by simp [intOf]; omega⟩
    · have g0 : (0 : Int) < n := by omega
      have g1 : ((i : Int) == (n : Int) - 1) = false := by rw [beq_eq_false_iff_ne]; omega
      have g2 : (n : Int) ≤ i := by omega
      have Wr := Lib.hid (R.out.dead hm0 hm1 q [UInt8.ofNat i, 1])
      clear hm0 hm1
      have R2 := Lib.hid Wr.out.2.2.2.2.1
      have DE := Lib.hid Wr.out.2.2.2.2.2
      cases hk : l.getD i false with
      | true =>
        rw [hk] at hc hc0
        clear hk
        go_wp2_with fail
        refine (image_q 1 col b D (2 * i) wr H.out R.out.fits 16 R.out.len).mono ?_
        rintro e w2 ⟨a2, c2, rfl, hi2, hb2⟩
        have H2 := Lib.hid (H.out.st (St.new hb2 (fun _ => False) col 0) (fun h => h) (fun h => h))
        have K2 := Lib.hid (K.out.trans (St.new hb2 NZ col 0))
        replace hc := (hb2.cell (p := ⟨b7, o7 + i, none⟩) (lt_of_cell hc)).trans hc
        have hb3 : Below w2.heap.size w2 (w2.alloc (.cells #[.int .u8 (i : Int), .int .u8 1] 5)) := (Below.refl _ _).alloc (Nat.le_refl _) _
        have k3 : St (fun _ => False) (recol col wr.heap.size 0) w2 (recol col wr.heap.size 0) (w2.alloc (.cells #[.int .u8 (i : Int), .int .u8 1] 5)) := St.fresh hb3 _ _
        have H3 := Lib.hid (H2.out.st k3 (fun h => h) (fun h => h))
        have K3 := Lib.hid (K2.out.down hb3)
        have I3 := Lib.hid (hi2.st k3 (fun h => h))
        have S3 : Hid (Sl (w2.alloc (.cells #[.int .u8 (i : Int), .int .u8 1] 5)) 1 (.slice (some ⟨w2.heap.size, 0, none⟩) 2 2) 2 (bvs [UInt8.ofNat i, 1])) := Lib.hid (by
          have h := Sl.lit w2 [.int .u8 (i : Int), .int .u8 1] 5 2 rfl (by decide)
          have e : bvs [UInt8.ofNat i, 1] = [.int .u8 (i : Int), .int .u8 1] := by simp [bvs, UInt8.toNat_ofNat', Nat.mod_eq_of_lt (show i < 256 by omega)]
          rw [e]; exact h)
        have hcz := (hb3.cell (p := ⟨b7, o7 + i, none⟩) (lt_of_cell hc)).trans hc
        clear hb2 hb3 k3 hi2
        go_wp2_with fail
        refine (write_p 1 _ b D q (2 * i) _ 2 2 [UInt8.ofNat i, 1] _ H3.out R.out.fits (by omega) S3.out 4 (Lib.hid Wr.out.1) D (Lib.hid Wr.out.2.1)).mono ?_
        rintro e w4 ⟨rfl, col4, k4, h4⟩
        have I4 := Lib.hid (I3.out.st k4 (by decide))
        have K4 := Lib.hid (K3.out.trans (k4.mono one_ne))
        have H4 := Lib.hid h4
        have hc4 := (K4.out.below.cell (p := ⟨b7, o7 + i, none⟩) hb7).trans hc0
        clear hc hcz k4 h4 H2 K2 H3 K3 I3 S3
        have hcd := H4.out.c2
        rw [(DE).out] at hcd
        go_wp2_with fail
        refine (dead_any b true w4 hcd).mono ?_
        rintro e wx ⟨rfl, rfl⟩
        obtain ⟨ap, cp, hcp⟩ := H4.out.c1
        rw [(R2).out.pen] at hcp
        go_wp2_with fail
        refine (pending_any b ap p cp w4 hcp).mono ?_
        rintro e wx ⟨rfl, rfl⟩
        clear hcd hcp
        go_wp2_with fail
        refine (image_q 1 col4 b D (2 * (i + 1)) w4 H4.out (R2).out.fits 16 (R2).out.len).mono ?_
        rintro e w5 ⟨a5, c5, rfl, hi5, hb5⟩
        have H5 := Lib.hid (H4.out.st (St.new hb5 (fun _ => False) col4 0) (fun h => h) (fun h => h))
        have K5 := Lib.hid (K4.out.trans (St.new hb5 NZ col4 0))
        have I5 := Lib.hid (I4.out.st (St.new hb5 (fun _ => False) col4 0) (fun h => h))
        have HSL : Hid (∀ l ∈ D.S, l.length ≤ 1048576) := Lib.hid (fun l hl => by have := R.out.fits.fit.sl l hl; omega)
        have hi6 := hi5.imr
        rw [((Lib.hid (Eq.refl D.S))).out] at hi6
        clear hb5
        go_wp2_with fail
        refine (sameImage_any a5 16 c5 D.S a2 16 c2 D.S w5 hi6 I5.out.imr (by decide) HSL.out HSL.out true (Lib.hid (by simp))).mono ?_
        rintro e w6 ⟨rfl, hb6⟩
        clear hi5 hi6
        go_wp2_with fail
        exact ⟨⟨i + 1, p, _, D, by omega, by go_num, by go_num, by omega, Lib.hid (K5.out.down hb6), Lib.hid (H5.out.st (St.fresh hb6 (fun _ => False) _) (fun h => h) (fun h => h)), R2⟩, by simp [intOf]; omega⟩
      | false =>
        rw [hk] at hc hc0
        clear hk
        go_wp2_with fail
        refine (image_q 1 col b D (2 * i) wr H.out R.out.fits 16 R.out.len).mono ?_
        rintro e w2 ⟨a2, c2, rfl, hi2, hb2⟩
        have H2 := Lib.hid (H.out.st (St.new hb2 (fun _ => False) col 0) (fun h => h) (fun h => h))
        have K2 := Lib.hid (K.out.trans (St.new hb2 NZ col 0))
        have I3 := Lib.hid hi2
        replace hc := (hb2.cell (p := ⟨b7, o7 + i, none⟩) (lt_of_cell hc)).trans hc
        clear hb2 hi2
        go_wp2_with fail
        refine (barrier_p 1 _ b D (2 * i) _ H2.out R.out.fits (by omega) 4 (Lib.hid Wr.out.2.2.1) D (Lib.hid Wr.out.2.2.2.1)).mono ?_
        rintro e w4 ⟨rfl, col4, k4, h4⟩
        have I4 := Lib.hid (I3.out.st k4 (by decide))
        have K4 := Lib.hid (K2.out.trans (k4.mono one_ne))
        have H4 := Lib.hid h4
        have hc4 := (K4.out.below.cell (p := ⟨b7, o7 + i, none⟩) hb7).trans hc0
        clear hc k4 h4 H2 K2 I3
        have hcd := H4.out.c2
        rw [(DE).out] at hcd
        go_wp2_with fail
        refine (dead_any b true w4 hcd).mono ?_
        rintro e wx ⟨rfl, rfl⟩
        obtain ⟨ap, cp, hcp⟩ := H4.out.c1
        rw [(R2).out.pen] at hcp
        go_wp2_with fail
        refine (pending_any b ap p cp w4 hcp).mono ?_
        rintro e wx ⟨rfl, rfl⟩
        clear hcd hcp
        go_wp2_with fail
        refine (image_q 1 col4 b D (2 * (i + 1)) w4 H4.out (R2).out.fits 16 (R2).out.len).mono ?_
        rintro e w5 ⟨a5, c5, rfl, hi5, hb5⟩
        have H5 := Lib.hid (H4.out.st (St.new hb5 (fun _ => False) col4 0) (fun h => h) (fun h => h))
        have K5 := Lib.hid (K4.out.trans (St.new hb5 NZ col4 0))
        have I5 := Lib.hid (I4.out.st (St.new hb5 (fun _ => False) col4 0) (fun h => h))
        have HSL : Hid (∀ l ∈ D.S, l.length ≤ 1048576) := Lib.hid (fun l hl => by have := R.out.fits.fit.sl l hl; omega)
        have hi6 := hi5.imr
        rw [((Lib.hid (Eq.refl D.S))).out] at hi6
        clear hb5
        go_wp2_with fail
        refine (sameImage_any a5 16 c5 D.S a2 16 c2 D.S w5 hi6 I5.out.imr (by decide) HSL.out HSL.out true (Lib.hid (by simp))).mono ?_
        rintro e w6 ⟨rfl, hb6⟩
        clear hi5 hi6
        go_wp2_with fail
        exact ⟨⟨i + 1, p, _, D, by omega, by go_num, by go_num, by omega, Lib.hid (K5.out.down hb6), Lib.hid (H5.out.st (St.fresh hb6 (fun _ => False) _) (fun h => h) (fun h => h)), R2⟩, by simp [intOf]; omega⟩
theorem diskArms_go (x : Int) (hx : (Lit.int .u8 x).wf = true) (a : Option Addr) (m c : Nat) (l : List Bool) (w : World) (hl : SlOf VBool 1 w (.slice a m c) l) :
    Calls Try.prog 5 #[.int .u8 x, .slice a m c] w fun e w' => e = .returned (.bool true) ∧ Below w.heap.size w w' := by
  obtain ⟨k, rfl, hk⟩ := wf_u8 hx
  have hb := hl.bools
  rw [← hl.len.1] at hb
  exact diskArms_walk k hk a m c l w hb
theorem opensBool : Opens Try.prog 4 1 VBool := opens_bool Try.underlying4 (by kernel_rfl)
end Go.Proofs.Ytcocodpeigbdaaa
