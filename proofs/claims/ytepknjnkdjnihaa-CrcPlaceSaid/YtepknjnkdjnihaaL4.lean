/-
  The walk of CrcPlace: it returns true, and writes nothing that was there. No condition.
-/
import Derived.Test.YtepknjnkdjnihaaW4
import Derived.Test.YtepknjnkdjnihaaP4
import Derived.Lib.MinMax
namespace Go.Proofs.Ytepknjnkdjnihaa
open Go.RowKit
set_option linter.unusedVariables false

/-- the front of a slice -/
theorem Sl.front {w : World} {a : Option Addr} {n c m : Nat} {xs : List Value} (h : Sl w 1 (.slice a n c) n xs) (hm : m ≤ n) : Sl w 1 (.slice a m c) m (xs.take m) := by
  obtain ⟨hl, a', c', he, h1, h2, h3, h4⟩ := h
  cases he
  refine ⟨by simp; omega, a, c, rfl, by omega, h2, h3, fun j u hu => h4 j u ?_⟩
  rw [List.getElem?_take] at hu
  split at hu
  · exact hu
  · cases hu
theorem Sl.cap {w : World} {a : Option Addr} {n c s : Nat} {xs : List Value} (h : Sl w s (.slice a n c) n xs) : n ≤ c ∧ c ≤ 9223372036854775807 := by
  obtain ⟨hl, a', c', he, h1, h2, h3, h4⟩ := h
  cases he
  exact ⟨h1, by simp [maxLen] at h2; omega⟩
theorem bvs_take (l : List UInt8) (m : Nat) : (bvs l).take m = bvs (l.take m) := by simp [bvs, List.map_take]
theorem u8x2 (x t : UInt8) : bits BinOp.xor IntKind.u8 (x.toNat : Int) (t.toNat : Int) = ((x ^^^ t).toNat : Int) := by
  rw [u8_xor_nat x.toNat t.toNat x.toNat_lt t.toNat_lt, UInt8.toNat_xor]

set_option maxHeartbeats 400000 in
theorem place_walk (i : Nat) (t : UInt8) (hi : i < 65536) (a : Option Addr) (n c : Nat) (l : List UInt8) (a1 : Option Addr) (n1 c1 : Nat) (l1 : List UInt8) (w : World) (hl : Sl w 1 (.slice a n c) n (bvs l)) (hl1 : Sl w 1 (.slice a1 n1 c1) n1 (bvs l1)) :
    Calls Try.prog 8 #[.slice a n c, .slice a1 n1 c1, .int .u16 i, .int .u8 (t.toNat : Int)] w fun e w' => e = .returned (.bool true) ∧ Below w.heap.size w w' := by
  have HL := Lib.hid hl
  have hn := hl.len
  have HL1 := Lib.hid hl1
  have hn1 := hl1.len
  clear hl hl1
  obtain ⟨m, hm⟩ : ∃ m, m = min n n1 := ⟨_, rfl⟩
  have hmin : min (n : Int) (n1 : Int) = (m : Int) := by omega
  have hm0 : m ≤ n ∧ m ≤ n1 := by omega
  clear hm
  by_cases hbig : 4096 < m
  · go_enter Try.func8, Try.ntmps8
    go_wp2_with fail
    refine (works_any _).mono ?_
    rintro e w9 ⟨rfl, hb9⟩
    go_wp2_with fail
    go_ret
    exact ⟨rfl, hb9⟩
  by_cases hz : m = 0
  · subst hz
    go_enter Try.func8, Try.ntmps8
    go_wp2_with fail
    refine (works_any _).mono ?_
    rintro e w9 ⟨rfl, hb9⟩
    go_wp2_with fail
    go_ret
    exact ⟨rfl, hb9⟩
  · obtain ⟨x, hx⟩ : ∃ f : Nat, f = i % m := ⟨_, rfl⟩
    have hx1 : x < m := by have := Nat.mod_lt i (show m > 0 by omega); omega
    have hxe : (i : Int) % (m : Int) = (x : Int) := by rw [hx, Int.natCast_emod]
    clear hx
    have F := Lib.hid (HL.out.front hm0.1)
    have F1 := Lib.hid (HL1.out.front hm0.2)
    rw [bvs_take] at F F1
    have hp1 : (l.take m).length = m := by simp; omega
    have hp2 : (l1.take m).length = m := by simp; omega
    generalize l.take m = p at *
    generalize l1.take m = q at *
    have PL := Lib.hid hp1
    have QL := Lib.hid hp2
    clear hp1 hp2
    go_enter Try.func8, Try.ntmps8
    have hc1 := HL.out.cap
    have hc2 := HL1.out.cap
    have hmc : m ≤ c ∧ m ≤ c1 := by omega
    have hz0 : ((m : Int) == 0) = false := by rw [beq_eq_false_iff_ne]; omega
    go_wp2_with (first | (at_builtin; refine wpL_append0 et23 rfl (.tmp 31) _ rfl w.heap.size rfl F.out rfl (bvs_one _) (by omega) (by simp [maxLen]; omega) (Nat.le_refl _) ?_; intro v2 w2 hown2 hg2; have hb2 := below_append0 (Below.refl _ _) (Nat.le_refl _) hg2; obtain ⟨g2, cap2, rfl, hg21, hg22, _⟩ := own_open hown2 (by omega); clear hg2; have HO := Lib.hid hown2; have HB := Lib.hid hb2; clear hown2 hb2) | (at_builtin; refine wpL_append0 et23 rfl (.tmp 36) _ rfl w2.heap.size rfl (F1.out.below HB.out) rfl (bvs_one _) (by omega) (by simp [maxLen]; omega) (Nat.le_refl _) ?_; intro v3 w3 hown3 hg3; have hb3 := below_append0 (Below.refl _ _) (Nat.le_refl _) hg3; obtain ⟨g3, cap3, rfl, hg31, hg32, _⟩ := own_open hown3 (by omega); have HO2 := Lib.hid (own_below HO.out hb3); have HO3 := Lib.hid hown3; have HB3 := Lib.hid (HB.out.trans (hb3.mono HB.out.size)); clear hown3 hb3 hg3))
    have hne : g2 ≠ g3 := by omega
    have hne' : g3 ≠ g2 := by omega
    refine (crcSum_any _ _ _ p _ (Sl.ofOwn HO2.out)).mono ?_
    rintro e w4 ⟨rfl, hb4⟩
    have HO4 := Lib.hid (own_below HO2.out hb4)
    have HQ4 := Lib.hid (own_below HO3.out hb4)
    have HB4 := Lib.hid (HB3.out.trans (hb4.mono HB3.out.size))
    clear hb4
    go_wp2_with fail
    refine (crcSum_any _ _ _ q _ (Sl.ofOwn HQ4.out)).mono ?_
    rintro e w5 ⟨rfl, hb5⟩
    have HO5 := Lib.hid (own_below HO4.out hb5)
    have HQ5 := Lib.hid (own_below HQ4.out hb5)
    have HB5 := Lib.hid (HB4.out.trans (hb5.mono HB4.out.size))
    clear hb5
    have d1 := own_get HO5.out x hx1
    rw [bvs_get _ _ (by rw [PL.out]; exact hx1)] at d1
    have d2 := own_get HQ5.out x hx1
    rw [bvs_get _ _ (by rw [QL.out]; exact hx1)] at d2
    have e1 := HO5.out.frozenAt x
    have e2 := HQ5.out.frozenAt x
    have x1 := u8x2 (p.getD x 0) t
    have x2 := u8x2 (q.getD x 0) t
    have P1 := Lib.hid (place_xor p x t (by rw [PL.out]; exact hx1))
    have P2 := Lib.hid (place_xor q x t (by rw [QL.out]; exact hx1))
    have P3 := Lib.hid (place_iff p x t (by rw [PL.out]; exact hx1))
    obtain ⟨pt, hpt⟩ : ∃ z, z = p.getD x 0 ^^^ t := ⟨_, rfl⟩
    obtain ⟨qt, hqt⟩ : ∃ z, z = q.getD x 0 ^^^ t := ⟨_, rfl⟩
    rw [← hpt] at x1 P1 P3
    rw [← hqt] at x2 P2
    clear hpt hqt
    obtain ⟨pv, hpv⟩ : ∃ z, z = p.getD x 0 := ⟨_, rfl⟩
    obtain ⟨qv, hqv⟩ : ∃ z, z = q.getD x 0 := ⟨_, rfl⟩
    rw [← hpv] at d1 x1
    rw [← hqv] at d2 x2
    clear hpv hqv
    go_wp2_with fail
    have o1 := own_other (own_set HO5.out x (.int .u8 (pt.toNat : Int))) (a := ⟨g3, x, none⟩) hne (.int .u8 (qt.toNat : Int))
    have o2 := own_set (own_other HQ5.out (a := ⟨g2, x, none⟩) hne' (.int .u8 (pt.toNat : Int))) x (.int .u8 (qt.toNat : Int))
    have b6 := (HB5.out.setCell (p := ⟨g2, x, none⟩) hg21 (.int .u8 (pt.toNat : Int))).setCell (p := ⟨g3, x, none⟩) (Nat.le_trans HB.out.size hg31) (.int .u8 (qt.toNat : Int))
    rw [bvs_set] at o1 o2
    generalize (w5.setCell ⟨g2, x, none⟩ (.int .u8 (pt.toNat : Int))).setCell ⟨g3, x, none⟩ (.int .u8 (qt.toNat : Int)) = w6 at *
    have O1 := Lib.hid o1
    have O2 := Lib.hid o2
    have B6 := Lib.hid b6
    clear o1 o2 b6 d1 d2 e1 e2 x1 x2
    have PL2 := PL.out
    have QL2 := QL.out
    have L1 := extend_lt 0 p
    have L2 := extend_lt 0 q
    have L3 := extend_lt 0 (p.set x pt)
    have L4 := extend_lt 0 (q.set x qt)
    have y1 := u32_xor_nat _ _ L3 L1
    have y2 := u32_xor_nat _ _ L4 L2
    rw [P1.out, PL2] at y1
    rw [P2.out, QL2] at y2
    have y3 : ((extend 0 (p.set x pt) : Int) == (extend 0 p : Int)) = ((t.toNat : Int) == 0) := by
      have h := P3.out
      have ht : t = 0 ↔ t.toNat = 0 := ⟨fun h => by rw [h]; rfl, fun h => UInt8.toNat_inj.1 h⟩
      rw [ht] at h
      rw [Bool.eq_iff_iff, beq_iff_eq, beq_iff_eq]
      omega
    clear PL2 QL2 L1 L2 L3 L4
    have Y1 := Lib.hid y1
    have Y2 := Lib.hid y2
    have Y3 := Lib.hid y3
    clear y1 y2 y3
    refine (crcSum_any _ _ _ _ _ (Sl.ofOwn O1.out)).mono ?_
    rintro e w7 ⟨rfl, hb7⟩
    have O17 := Lib.hid (own_below O1.out hb7)
    have O27 := Lib.hid (own_below O2.out hb7)
    have B7 := Lib.hid (B6.out.trans (hb7.mono B6.out.size))
    have y1 := Y1.out
    clear hb7
    go_wp2_with fail
    clear y1
    refine (crcSum_any _ _ _ _ _ (Sl.ofOwn O27.out)).mono ?_
    rintro e w8 ⟨rfl, hb8⟩
    have O18 := Lib.hid (own_below O17.out hb8)
    have B8 := Lib.hid (B7.out.trans (hb8.mono B7.out.size))
    clear hb8
    have y2 := Y2.out
    go_wp2_with fail
    clear y2
    refine (crcSum_any _ _ _ _ _ (Sl.ofOwn O18.out)).mono ?_
    rintro e w9 ⟨rfl, hb9⟩
    have B9 := Lib.hid (B8.out.trans (hb9.mono B8.out.size))
    clear hb9
    have y3 := Y3.out
    go_wp2_with fail
    refine (works_any _).mono ?_
    rintro e w10 ⟨rfl, hb10⟩
    go_wp2_with fail
    go_ret
    exact ⟨rfl, B9.out.trans (hb10.mono B9.out.size)⟩
end Go.Proofs.Ytepknjnkdjnihaa
