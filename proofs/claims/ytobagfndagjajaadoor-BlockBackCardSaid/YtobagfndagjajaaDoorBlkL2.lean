/-
  BlockBack, walked.
-/
import Derived.Test.YtobagfndagjajaaDoorBlkS
namespace Go.Proofs.YtobagfndagjajaaDoor
open Go.RowKit
set_option linter.unusedVariables false
set_option linter.unusedSimpArgs false

set_option maxHeartbeats 8000000 in
theorem blockBack_walk (K : UInt8) (a : Option Addr) (n c : Nat) (l : List UInt8) (a2 : Option Addr) (m c2 : Nat) (b : List UInt8) (w : World) (hl : Sl w 1 (.slice a n c) n (bvs l)) (hl2 : Sl w 1 (.slice a2 m c2) m (bvs b)) :
    Calls Tryd.prog 5 #[.int .u8 (K.toNat : Int), .slice a n c, .slice a2 m c2] w fun e w' => e = .returned (.bool true) ∧ Below w.heap.size w w' := by
  have HN : Hid (l.length = n) := by have := hl.len.1; show _ = _; omega
  have HM := Lib.hid hl2.len.1
  obtain ⟨k, hk⟩ : ∃ k : Nat, k = K.toNat := ⟨_, rfl⟩
  rw [← hk]
  have hk9 : k < 256 := by rw [hk]; exact K.toNat_lt
  have HK : Hid (K.toNat = k) := hk.symm
  clear hk
  have hB0 := Below.refl w.heap.size w
  go_enter Tryd.func5, Tryd.ntmps5
  by_cases hbig : 4096 < n
  · have hbigi : (4096 : Int) < n := by omega
    go_wp2_with fail
    refine (works_any w).mono ?_
    rintro e wZ ⟨rfl, hbZ⟩
    go_wp2_with fail
    go_ret
    exact ⟨rfl, (hB0).trans (hbZ.mono (hB0).size)⟩
  have hbigi : ¬ (4096 : Int) < n := by omega
  by_cases hbig2 : 4096 < m
  · have hbigi2 : (4096 : Int) < m := by omega
    go_wp2_with fail
    refine (works_any w).mono ?_
    rintro e wZ ⟨rfl, hbZ⟩
    go_wp2_with fail
    go_ret
    exact ⟨rfl, (hB0).trans (hbZ.mono (hB0).size)⟩
  have hbigi2 : ¬ (4096 : Int) < m := by omega
  by_cases h0 : K = 0
  · have hk0 : k = 0 := by rw [← HK.out, h0]; rfl
    have hki : ((k : Int) = 0) = True := eq_true (by omega)
    have hkb : ((k : Int) == 0) = true := by simp [hk0]
    have hkn : ((k : Int) != 0) = false := by simp [hk0]
    have hkd : decide ((k : Int) = 0) = true := by simp [hk0]
    clear hk0
    go_wp2_with fail
    refine (seal_non K k HK a n c l w hl (.inl h0)).mono ?_
    rintro e w1 ⟨v1, rfl, ho1, hb1⟩
    obtain ⟨a1, c1, rfl⟩ := ho1.form
    clear h0
    cases hok : opOk b with
    | false =>
      have HO := Lib.hid hok
      clear hok
      go_wp2_with fail
      refine (open_bad a2 m c2 b w1 (hl2.below hb1) HO).mono ?_
      rintro e wT ⟨vT, rfl, hoT, hbT⟩
      obtain ⟨aT, cT, rfl⟩ := hoT.form
      have hBT := (hb1).trans (hbT.mono (hb1).size)
      go_wp2_with fail
      refine (works_any wT).mono ?_
      rintro e wZ ⟨rfl, hbZ⟩
      go_wp2_with fail
      go_ret
      exact ⟨rfl, (hBT).trans (hbZ.mono (hBT).size)⟩
    | true =>
      have HO := Lib.hid hok
      obtain ⟨q, hq⟩ : ∃ q, (opK b).toNat = q := ⟨_, rfl⟩
      obtain ⟨N, hN⟩ : ∃ N, (opB b).length = N := ⟨_, rfl⟩
      have HQ := Lib.hid hq
      have HNN := Lib.hid hN
      clear hok hq hN
      go_wp2_with fail
      refine (open_good a2 m c2 b w1 (hl2.below hb1) HO q N HQ HNN).mono ?_
      rintro e wT ⟨vT, rfl, hoT, hbT⟩
      obtain ⟨aT, cT, rfl⟩ := hoT.form
      have hBT := (hb1).trans (hbT.mono (hb1).size)
      go_wp2_with fail
      refine (reseal aT cT b HO q N HQ wT hoT.sl).mono ?_
      rintro e wU ⟨vU, rfl, hoU, hbU⟩
      obtain ⟨aU, cU, rfl⟩ := hoU.form
      have hBU := hBT.trans (hbU.mono hBT.size)
      go_wp2_with fail
      refine (eqb_any aU 256 cU a2 m c2 b b wU hoU.sl (hl2.below hBU) (by omega) (by omega)).mono ?_
      rintro e wV ⟨rfl, hbV⟩
      rw [decide_eq_true rfl]
      have hBV := hBU.trans (hbV.mono hBU.size)
      go_wp2_with fail
      refine (works_any wV).mono ?_
      rintro e wZ ⟨rfl, hbZ⟩
      go_wp2_with fail
      go_ret
      exact ⟨rfl, (hBV).trans (hbZ.mono (hBV).size)⟩
  · have hk0 : k ≠ 0 := by intro h; apply h0; rw [← HK.out] at h; exact UInt8.toNat_inj.1 h
    have hki : ¬ (k : Int) = 0 := by omega
    have hkb : ((k : Int) == 0) = false := by simp [hk0]
    have hkn : ((k : Int) != 0) = true := by simp [hk0]
    by_cases hn : n ≤ 248
    · have hni : (n : Int) ≤ 248 := by omega
      have hkk : ((k : Int) == k) = true := by simp
      go_wp2_with fail
      refine (seal_yes K k HK h0 a n c l w hl hn).mono ?_
      rintro e w1 ⟨v1, rfl, ho1, hb1⟩
      obtain ⟨a1, c1, rfl⟩ := ho1.form
      go_wp2_with fail
      refine (open_yes K k HK h0 a1 c1 n l w1 HN hn ho1.sl).mono ?_
      rintro e w2 ⟨v2, rfl, ho2, hb2⟩
      obtain ⟨a3, c3, rfl⟩ := ho2.form
      have hB2 := hb1.trans (hb2.mono hb1.size)
      go_wp2_with fail
      refine (eqb_any a3 n c3 a n c l l w2 ho2.sl (hl.below hB2) (by omega) (by omega)).mono ?_
      rintro e w3 ⟨rfl, hb3⟩
      rw [decide_eq_true rfl]
      have hB3 := hB2.trans (hb3.mono hB2.size)
      clear ho1 ho2 hb1 hb2 hb3 hB2
      cases hok : opOk b with
      | false =>
        have HO := Lib.hid hok
        clear hok
        go_wp2_with fail
        refine (open_bad a2 m c2 b w3 (hl2.below hB3) HO).mono ?_
        rintro e wT ⟨vT, rfl, hoT, hbT⟩
        obtain ⟨aT, cT, rfl⟩ := hoT.form
        have hBT := (hB3).trans (hbT.mono (hB3).size)
        go_wp2_with fail
        refine (works_any wT).mono ?_
        rintro e wZ ⟨rfl, hbZ⟩
        go_wp2_with fail
        go_ret
        exact ⟨rfl, (hBT).trans (hbZ.mono (hBT).size)⟩
      | true =>
        have HO := Lib.hid hok
        obtain ⟨q, hq⟩ : ∃ q, (opK b).toNat = q := ⟨_, rfl⟩
        obtain ⟨N, hN⟩ : ∃ N, (opB b).length = N := ⟨_, rfl⟩
        have HQ := Lib.hid hq
        have HNN := Lib.hid hN
        clear hok hq hN
        go_wp2_with fail
        refine (open_good a2 m c2 b w3 (hl2.below hB3) HO q N HQ HNN).mono ?_
        rintro e wT ⟨vT, rfl, hoT, hbT⟩
        obtain ⟨aT, cT, rfl⟩ := hoT.form
        have hBT := (hB3).trans (hbT.mono (hB3).size)
        go_wp2_with fail
        refine (reseal aT cT b HO q N HQ wT hoT.sl).mono ?_
        rintro e wU ⟨vU, rfl, hoU, hbU⟩
        obtain ⟨aU, cU, rfl⟩ := hoU.form
        have hBU := hBT.trans (hbU.mono hBT.size)
        go_wp2_with fail
        refine (eqb_any aU 256 cU a2 m c2 b b wU hoU.sl (hl2.below hBU) (by omega) (by omega)).mono ?_
        rintro e wV ⟨rfl, hbV⟩
        rw [decide_eq_true rfl]
        have hBV := hBU.trans (hbV.mono hBU.size)
        go_wp2_with fail
        refine (works_any wV).mono ?_
        rintro e wZ ⟨rfl, hbZ⟩
        go_wp2_with fail
        go_ret
        exact ⟨rfl, (hBV).trans (hbZ.mono (hBV).size)⟩
    · have hni : ¬ (n : Int) ≤ 248 := by omega
      go_wp2_with fail
      refine (seal_non K k HK a n c l w hl (.inr (by omega))).mono ?_
      rintro e w1 ⟨v1, rfl, ho1, hb1⟩
      obtain ⟨a1, c1, rfl⟩ := ho1.form
      cases hok : opOk b with
      | false =>
        have HO := Lib.hid hok
        clear hok
        go_wp2_with fail
        refine (open_bad a2 m c2 b w1 (hl2.below hb1) HO).mono ?_
        rintro e wT ⟨vT, rfl, hoT, hbT⟩
        obtain ⟨aT, cT, rfl⟩ := hoT.form
        have hBT := (hb1).trans (hbT.mono (hb1).size)
        go_wp2_with fail
        refine (works_any wT).mono ?_
        rintro e wZ ⟨rfl, hbZ⟩
        go_wp2_with fail
        go_ret
        exact ⟨rfl, (hBT).trans (hbZ.mono (hBT).size)⟩
      | true =>
        have HO := Lib.hid hok
        obtain ⟨q, hq⟩ : ∃ q, (opK b).toNat = q := ⟨_, rfl⟩
        obtain ⟨N, hN⟩ : ∃ N, (opB b).length = N := ⟨_, rfl⟩
        have HQ := Lib.hid hq
        have HNN := Lib.hid hN
        clear hok hq hN
        go_wp2_with fail
        refine (open_good a2 m c2 b w1 (hl2.below hb1) HO q N HQ HNN).mono ?_
        rintro e wT ⟨vT, rfl, hoT, hbT⟩
        obtain ⟨aT, cT, rfl⟩ := hoT.form
        have hBT := (hb1).trans (hbT.mono (hb1).size)
        go_wp2_with fail
        refine (reseal aT cT b HO q N HQ wT hoT.sl).mono ?_
        rintro e wU ⟨vU, rfl, hoU, hbU⟩
        obtain ⟨aU, cU, rfl⟩ := hoU.form
        have hBU := hBT.trans (hbU.mono hBT.size)
        go_wp2_with fail
        refine (eqb_any aU 256 cU a2 m c2 b b wU hoU.sl (hl2.below hBU) (by omega) (by omega)).mono ?_
        rintro e wV ⟨rfl, hbV⟩
        rw [decide_eq_true rfl]
        have hBV := hBU.trans (hbV.mono hBU.size)
        go_wp2_with fail
        refine (works_any wV).mono ?_
        rintro e wZ ⟨rfl, hbZ⟩
        go_wp2_with fail
        go_ret
        exact ⟨rfl, (hBV).trans (hbZ.mono (hBV).size)⟩
theorem blockBack_top (x : Int) (hx : (Lit.int .u8 x).wf = true) (a : Option Addr) (n c : Nat) (l : List UInt8) (a2 : Option Addr) (m c2 : Nat) (b : List UInt8) (w : World) (hl : Sl w 1 (.slice a n c) n (bvs l)) (hl2 : Sl w 1 (.slice a2 m c2) m (bvs b)) :
    Calls Tryd.prog 5 #[.int .u8 x, .slice a n c, .slice a2 m c2] w fun e w' => e = .returned (.bool true) ∧ Below w.heap.size w w' := by
  obtain ⟨K, rfl⟩ := u8_of hx
  exact blockBack_walk K a n c l a2 m c2 b w hl hl2
end Go.Proofs.YtobagfndagjajaaDoor
