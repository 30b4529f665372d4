/-
  OctetParts, walked.
-/
import Derived.Test.YtnbabdeklceklaaOctW
namespace Go.Proofs.Ytnbabdeklceklaa
open Go.RowKit
set_option linter.unusedVariables false

theorem cutIs_yes (l : List UInt8) (p q : Nat) (h : p + q ≤ l.length) : cutIs l p q = true := by simp [cutIs]; omega
theorem cutL_yes (l : List UInt8) (p q : Nat) (h : p + q ≤ l.length) : cutL l p q = (l.drop p).take q := by rw [cutL, cutIs_yes l p q h]; rfl
theorem cutL_len (l : List UInt8) (p q : Nat) (h : p + q ≤ l.length) : (cutL l p q).length = q := by rw [cutL_yes l p q h]; simp; omega

set_option maxRecDepth 100000 in
set_option maxHeartbeats 1000000 in
theorem parts_walk (a a2 : Option Addr) (n c m c2 : Nat) (l s : List UInt8) (w : World) (hl : Sl w 1 (.slice a n c) n (bvs l)) (hs : Sl w 1 (.slice a2 m c2) m (bvs s)) :
    Calls Try.prog 5 #[.slice a n c, .slice a2 m c2] w fun e w' => e = .returned (.bool true) ∧ Below w.heap.size w w' := by
  have hn := hl.len
  have hm := hs.len
  have HL := Lib.hid hl
  have HS := Lib.hid hs
  clear hl hs
  by_cases h1 : 16384 < n
  · have h1' : (16384 : Int) < n := by omega
    go_enter Try.func5, Try.ntmps5
    go_wp2_with fail
    refine (works_any w).mono ?_
    rintro e w1 ⟨rfl, hb⟩
    go_wp2_with fail
    go_ret
    exact ⟨rfl, hb⟩
  by_cases h2 : 16384 < m
  · have h1' : ¬ (16384 : Int) < n := by omega
    have h2' : (16384 : Int) < m := by omega
    go_enter Try.func5, Try.ntmps5
    go_wp2_with fail
    refine (works_any w).mono ?_
    rintro e w1 ⟨rfl, hb⟩
    go_wp2_with fail
    go_ret
    exact ⟨rfl, hb⟩
  have h1' : ¬ (16384 : Int) < n := by omega
  have h2' : ¬ (16384 : Int) < m := by omega
  go_enter Try.func5, Try.ntmps5
  go_wp2_with fail
  obtain ⟨W0, hW0⟩ : ∃ W0 : World, W0 = w := ⟨_, rfl⟩
  go_loopw [5, 6, 7] (fun v5 v6 v7 wr => ∃ p i : Nat, p ≤ n ∧ (i ≤ m ∨ i = m + 1 ∧ p = n) ∧ v6 = .int .i64 p ∧ v7 = .int .i64 i ∧ Own wr w.heap.size 1 v5 p (bvs (l.take p)) ∧ Below w.heap.size w wr)
    (fun v5 v6 v7 _ => (n - (intOf v6).toNat) + (m + 1 - (intOf v7).toNat))
  case atStart => exact ⟨0, 0, by omega, .inl (by omega), rfl, rfl, by rw [List.take_zero]; exact Own.nil w w.heap.size 1, Below.refl _ _⟩
  case round =>
    obtain ⟨p, i, hp, hi, rfl, rfl, ho, hb⟩ := hrel
    have HO := Lib.hid ho
    have HB := Lib.hid hb
    obtain ⟨a5, c5, rfl⟩ := ho.form
    clear ho hb
    by_cases hpn : p = n
    · subst hpn
      have k1 : cutIs l p 0 = true := cutIs_yes l p 0 (by omega)
      have k2 : (cutL l p 0).length = 0 := cutL_len l p 0 (by omega)
      have k3 : cutIs l (p + 1) 0 = false := by simp [cutIs]; omega
      have HT : Hid (l.take p = l) := by show _ = _; rw [← hn.1]; exact List.take_length
      go_wp2_with fail
      refine (cut_any a p c l _ _ _ (HL.out.below HB.out) (by omega)).mono ?_
      rintro e w1 ⟨v1, rfl, ho1, hb1⟩
      rw [k1, k2] at *
      obtain ⟨a1, c1, rfl⟩ := ho1.form
      have HB1 := Lib.hid (HB.out.trans (hb1.mono HB.out.size))
      have HO1 := Lib.hid (HO.out.below hb1)
      clear ho1 hb1
      go_wp2_with fail
      refine (cut_any a p c l _ _ _ (HL.out.below HB1.out) (by omega)).mono ?_
      rintro e w2 ⟨v2, rfl, ho2, hb2⟩
      rw [k3]
      obtain ⟨a2', c2', rfl⟩ := ho2.form
      have HB2 := Lib.hid (HB1.out.trans (hb2.mono HB1.out.size))
      have HO2 := Lib.hid (HO1.out.below hb2)
      rw [HT.out] at HO2
      clear ho2 hb2
      go_wp2_with (refine wpList_unguard rfl ?_; first | refine wpL_toString rfl 22 9 (.tmp 95) rfl Try.underlying22 Try.underlying5 Try.underlying9 HO2.out.sl rfl ?_ | refine wpL_toString rfl 22 9 (.tmp 97) rfl Try.underlying22 Try.underlying5 Try.underlying9 (HL.out.below HB2.out) rfl ?_)
      refine (works_any _).mono ?_
      rintro e w3 ⟨rfl, hb3⟩
      go_wp2_with fail
      go_ret
      exact ⟨rfl, HB2.out.trans (hb3.mono HB2.out.size)⟩
    · have hpn' : (p : Int) < n := by omega
      obtain ⟨d, hd⟩ : ∃ d : Nat, d = n - p := ⟨_, rfl⟩
      have hd1 : (n : Int) - (p : Int) = (d : Int) := by omega
      obtain ⟨q, hq⟩ : ∃ q : Nat, q = if i < m then min d (s.getD i 0).toNat else d := ⟨_, rfl⟩
      have hqd : q ≤ d := by rw [hq]; split <;> omega
      have hqi : ¬ i < m → q = d := fun h => by rw [hq, if_neg h]
      have k1 : cutIs l p q = true := cutIs_yes l p q (by omega)
      have k2 : (cutL l p q).length = q := cutL_len l p q (by omega)
      have k3 : cutIs l p (d + 1) = false := by simp [cutIs]; omega
      have HK : Hid (l.take p ++ cutL l p q = l.take (p + q)) := by
        show _ = _
        rw [cutL_yes l p q (by omega), List.take_add]
      have HK1 := Lib.hid k1
      have HK2 := Lib.hid k2
      have HK3 := Lib.hid k3
      have hq0 : i < m → (s.getD i 0).toNat < d ∧ q = (s.getD i 0).toNat ∨ d ≤ (s.getD i 0).toNat ∧ q = d := by
        intro him; rw [if_pos him] at hq; omega
      have hi' : i ≤ m := by omega
      clear k1 k2 k3 hq hi
      have hcase : (i < m ∧ ∃ b2 o2, ∃ z : Nat, z < 256 ∧ a2 = some ⟨b2, o2, none⟩ ∧ wr.cell? ⟨b2, o2 + i, none⟩ = some (.int .u8 (z : Int)) ∧ (z < d ∧ q = z ∨ d ≤ z ∧ q = d)) ∨ (i = m ∧ q = d) := by
        by_cases him : i < m
        · obtain ⟨b2, o2, rfl, hb2⟩ := (HS.out.below HB.out).byte him
          exact .inl ⟨him, b2, o2, _, (s.getD i 0).toNat_lt, rfl, hb2, hq0 him⟩
        · exact .inr ⟨by omega, hqi him⟩
      clear hq0 hqi hd
      have hdn : (d : Int) ≤ 16384 := by omega
      have hst : Hid (q = d ∨ i < m) := by show _ ∨ _; rcases hcase with h | h <;> omega
      have hpd : Hid (p + d = n) := by show _ = _; omega
      rcases hcase with ⟨him, b2, o2, z, hz, rfl, hb2, ⟨hlt, rfl⟩ | ⟨hge, rfl⟩⟩ | ⟨rfl, rfl⟩
      · have him' : (i : Int) < m := by omega
        have hlt' : (q : Int) < d := by omega
        go_wp2_with fail
        refine (cut_any a n c l _ p q (HL.out.below HB.out) (by omega)).mono ?_
        rintro e w1 ⟨v1, rfl, ho1, hb1⟩
        rw [HK1.out]
        rw [HK2.out] at ho1
        obtain ⟨a1, c1, rfl⟩ := ho1.form
        have HB1 := Lib.hid (HB.out.trans (hb1.mono HB.out.size))
        have HP1 := Lib.hid ho1
        have HO1 := Lib.hid (HO.out.below hb1)
        clear ho1 hb1
        go_wp2_with fail
        refine (cut_any a n c l _ p (d + 1) (HL.out.below HB1.out) (by omega)).mono ?_
        rintro e w2 ⟨v2, rfl, ho2, hb2⟩
        rw [HK3.out]
        obtain ⟨a2', c2', rfl⟩ := ho2.form
        have HB2 := Lib.hid (HB1.out.trans (hb2.mono HB1.out.size))
        have HO2 := Lib.hid (HO1.out.below hb2)
        have HP2 := Lib.hid (HP1.out.below hb2)
        clear ho2 hb2
        go_wp2_with (at_builtin; refine wpL_append etB rfl _ _ rfl HO2.out rfl HP2.out.sl rfl (bvs_one _) (by omega) (by simp [maxLen]; omega) HB2.out.size ?_; intro v3 w3 hown3 hgr3; have HO3 := Lib.hid hown3; have HB3 := Lib.hid (below_own HB2.out HO2.out hgr3 (Nat.le_refl _) HB2.out.size); clear hown3 hgr3)
        have hst' := hst.out
        have hpd' := hpd.out
        have e2 : (i : Int) + 1 = ((i + 1 : Nat) : Int) := by omega
        have e1 : (p : Int) + (q : Int) = ((p + q : Nat) : Int) := by omega
        refine ⟨⟨p + q, i + 1, by omega, by omega, by rw [e1], by rw [e2], ?_, HB3.out⟩, by simp [intOf]; omega⟩
        rw [← HK.out, bvs_append]
        exact HO3.out
      · have him' : (i : Int) < m := by omega
        have hge' : ¬ ((z : Int) < q) := by omega
        go_wp2_with fail
        refine (cut_any a n c l _ p q (HL.out.below HB.out) (by omega)).mono ?_
        rintro e w1 ⟨v1, rfl, ho1, hb1⟩
        rw [HK1.out]
        rw [HK2.out] at ho1
        obtain ⟨a1, c1, rfl⟩ := ho1.form
        have HB1 := Lib.hid (HB.out.trans (hb1.mono HB.out.size))
        have HP1 := Lib.hid ho1
        have HO1 := Lib.hid (HO.out.below hb1)
        clear ho1 hb1
        go_wp2_with fail
        refine (cut_any a n c l _ p (q + 1) (HL.out.below HB1.out) (by omega)).mono ?_
        rintro e w2 ⟨v2, rfl, ho2, hb2⟩
        rw [HK3.out]
        obtain ⟨a2', c2', rfl⟩ := ho2.form
        have HB2 := Lib.hid (HB1.out.trans (hb2.mono HB1.out.size))
        have HO2 := Lib.hid (HO1.out.below hb2)
        have HP2 := Lib.hid (HP1.out.below hb2)
        clear ho2 hb2
        go_wp2_with (at_builtin; refine wpL_append etB rfl _ _ rfl HO2.out rfl HP2.out.sl rfl (bvs_one _) (by omega) (by simp [maxLen]; omega) HB2.out.size ?_; intro v3 w3 hown3 hgr3; have HO3 := Lib.hid hown3; have HB3 := Lib.hid (below_own HB2.out HO2.out hgr3 (Nat.le_refl _) HB2.out.size); clear hown3 hgr3)
        have hst' := hst.out
        have hpd' := hpd.out
        have e2 : (i : Int) + 1 = ((i + 1 : Nat) : Int) := by omega
        have e1 : (p : Int) + (q : Int) = ((p + q : Nat) : Int) := by omega
        refine ⟨⟨p + q, i + 1, by omega, by omega, by rw [e1], by rw [e2], ?_, HB3.out⟩, by simp [intOf]; omega⟩
        rw [← HK.out, bvs_append]
        exact HO3.out
      · have him' : ¬ (i : Int) < i := by omega
        go_wp2_with fail
        refine (cut_any a n c l _ p q (HL.out.below HB.out) (by omega)).mono ?_
        rintro e w1 ⟨v1, rfl, ho1, hb1⟩
        rw [HK1.out]
        rw [HK2.out] at ho1
        obtain ⟨a1, c1, rfl⟩ := ho1.form
        have HB1 := Lib.hid (HB.out.trans (hb1.mono HB.out.size))
        have HP1 := Lib.hid ho1
        have HO1 := Lib.hid (HO.out.below hb1)
        clear ho1 hb1
        go_wp2_with fail
        refine (cut_any a n c l _ p (q + 1) (HL.out.below HB1.out) (by omega)).mono ?_
        rintro e w2 ⟨v2, rfl, ho2, hb2⟩
        rw [HK3.out]
        obtain ⟨a2', c2', rfl⟩ := ho2.form
        have HB2 := Lib.hid (HB1.out.trans (hb2.mono HB1.out.size))
        have HO2 := Lib.hid (HO1.out.below hb2)
        have HP2 := Lib.hid (HP1.out.below hb2)
        clear ho2 hb2
        go_wp2_with (at_builtin; refine wpL_append etB rfl _ _ rfl HO2.out rfl HP2.out.sl rfl (bvs_one _) (by omega) (by simp [maxLen]; omega) HB2.out.size ?_; intro v3 w3 hown3 hgr3; have HO3 := Lib.hid hown3; have HB3 := Lib.hid (below_own HB2.out HO2.out hgr3 (Nat.le_refl _) HB2.out.size); clear hown3 hgr3)
        have hst' := hst.out
        have hpd' := hpd.out
        have e2 : (i : Int) + 1 = ((i + 1 : Nat) : Int) := by omega
        have e1 : (p : Int) + (q : Int) = ((p + q : Nat) : Int) := by omega
        refine ⟨⟨p + q, i + 1, by omega, by omega, by rw [e1], by rw [e2], ?_, HB3.out⟩, by simp [intOf]; omega⟩
        rw [← HK.out, bvs_append]
        exact HO3.out
end Go.Proofs.Ytnbabdeklceklaa
