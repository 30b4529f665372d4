/-
  'stand', walked. Conditions: eight answers at most, of 2^20 bytes at most.
-/
import Derived.Test.YtobagfndagjajaaDoorApartA
namespace Go.Proofs.YtobagfndagjajaaDoor
open Go.RowKit
set_option linter.unusedVariables false
set_option linter.unusedSimpArgs false

theorem tail_get (l : List UInt8) (n i j : Nat) (h : l.length = n) (hj : n ≤ j) (hj2 : j < n + 10) : (l ++ List.replicate 10 (UInt8.ofNat i)).getD j 0 = UInt8.ofNat i := by
  rw [List.getD_eq_getElem?_getD, List.getElem?_append_right (by omega), List.getElem?_replicate, if_pos (by omega)]; rfl
set_option maxHeartbeats 1000000 in
theorem stand_any (a : Option Addr) (k c : Nat) (R : List Rc) (z : Int) (B : Nat) (X : Nat → Prop) (w : World) (hl : Sl w 3 (.slice a k c) k (hcells R)) (hr : Recs w B X R) (ht : Told R) (hk8 : k ≤ 8) :
    Calls Tryd.prog 30 #[.slice a k c, .int .i64 z] w fun e w' => e = .returned (.bool true) ∧ Below w.heap.size w w' := by
  have HT := Lib.hid ht
  clear ht
  go_enter Tryd.func30, Tryd.ntmps30
  go_wp2_with fail
  go_loopw [5, 6] (fun v5 v6 wr => ∃ i : Nat, i ≤ k ∧ v5 = .int .i64 i ∧ Below w.heap.size w wr) (fun v5 _ _ => k - (intOf v5).toNat)
  case atStart => exact ⟨0, Nat.zero_le _, rfl, Below.refl _ _⟩
  case round =>
    obtain ⟨i, hi, rfl, hb⟩ := hrel
    by_cases hik : i = k
    · subst hik
      go_wp2_with fail
      go_ret
      exact ⟨rfl, hb⟩
    have hlt : i < k := by omega
    have hlt' : (i : Int) < k := by omega
    obtain ⟨b, off, r, rfl, hri, hc0, hc1, hc2⟩ := hold_at (hl.below hb) i hlt
    have hd := (hr.below hb).hd i r hri
    obtain ⟨ht1, ht2, ht3⟩ := HT.out i r hri
    have hm := hd.more
    have hs := hd.own.sl
    have hln := hd.1
    rw [ht2, List.length_replicate] at hm
    rw [ht1] at hc1
    have HM := hm.sl
    obtain ⟨a1, c1, h1⟩ := hs.form
    obtain ⟨a2, c2, h2⟩ := HM.form
    rw [h1] at hc0 hs
    rw [h2] at hc2 HM
    obtain ⟨l, hl0⟩ : ∃ l, l = r.l := ⟨_, rfl⟩
    obtain ⟨n, hn0⟩ : ∃ n, n = r.n := ⟨_, rfl⟩
    rw [← hl0, ← hn0] at hs hln HM
    rw [← hn0] at ht3 hc0 hc2
    rw [← hl0] at hc1
    have HL := Lib.hid hln
    obtain ⟨S, hS⟩ : ∃ S, S = str l := ⟨_, rfl⟩
    have k1 := conv_later (w := wr.drew) hs.drew
    rw [← hS] at k1 hc1
    have q0 := later_cell hc0
    have q1 := later_cell hc1
    have q2 := later_cell hc2
    clear hS hri ht1 ht2 hd hm h1 h2 hl0 hn0 hln
    by_cases hiz : (i : Int) = z
    · have hiz' : ((i : Int) != z) = false := by rw [hiz]; simp
      clear hiz
      go_wp2_with fail
      refine wp_region_lex Rb Rb_refl Rb_trans [0,0,0,0,0,0,0,0,0,0,0,0,0,0,0,0,0] (by kernel_rfl) (by kernel_rfl) ?_
      refine wpCan_seg 17 (by kernel_rfl) ?_
      simp only [List.zip_cons_cons, List.zip_nil_left, List.take_succ_cons, List.take_zero, List.drop_succ_cons, List.drop_zero, List.map_cons, List.map_nil]
      iterate 17 (go_big_quiet_step (fail))
      refine wpQuiet_nil ?_
      unfold wpCan
      clear k1 q0 q1 q2
      go_wp2_with fail
      go_loop [6] (fun v6 => ∃ j : Nat, n ≤ j ∧ j ≤ n + 10 ∧ v6 = .int .i64 j) (fun v6 => n + 10 - (intOf v6).toNat)
      case atStart => exact ⟨n, Nat.le_refl _, by omega, rfl⟩
      case round =>
        obtain ⟨j, hj1, hj2, rfl⟩ := hrel
        by_cases hj3 : j = n + 10
        · subst hj3
          go_wp2_with fail
          exact ⟨⟨i + 1, by omega, by go_num, hb.drew⟩, by simp [intOf]; omega⟩
        · have hj4 : j < n + 10 := by omega
          have hj5 : (j : Int) < (n : Int) + 10 := by omega
          obtain ⟨b2, o2, rfl, hc⟩ := HM.byte hj4
          rw [tail_get l n i j HL.out hj1 hj4, show ((UInt8.ofNat i).toNat : Int) = (i : Int) by simp; omega] at hc
          go_wp2_with fail
          exact ⟨⟨j + 1, by omega, by omega, by go_num⟩, by simp [intOf]; omega⟩
    · have hiz' : ((i : Int) != z) = true := by rw [bne_iff_ne]; exact hiz
      clear hiz
      go_wp2_with fail
      refine wp_region_lex Rb Rb_refl Rb_trans [0,0,0,0,0,0,0,0,0,0,0,0,0,0,0,0,0] (by kernel_rfl) (by kernel_rfl) ?_
      refine wpCan_seg 17 (by kernel_rfl) ?_
      simp only [List.zip_cons_cons, List.zip_nil_left, List.take_succ_cons, List.take_zero, List.drop_succ_cons, List.drop_zero, List.map_cons, List.map_nil]
      iterate 17 (go_big_quiet_step (fail))
      refine wpQuiet_nil ?_
      unfold wpCan
      clear k1 q0 q1 q2
      go_wp2_with fail
      go_loop [6] (fun v6 => ∃ j : Nat, n ≤ j ∧ j ≤ n + 10 ∧ v6 = .int .i64 j) (fun v6 => n + 10 - (intOf v6).toNat)
      case atStart => exact ⟨n, Nat.le_refl _, by omega, rfl⟩
      case round =>
        obtain ⟨j, hj1, hj2, rfl⟩ := hrel
        by_cases hj3 : j = n + 10
        · subst hj3
          go_wp2_with fail
          exact ⟨⟨i + 1, by omega, by go_num, hb.drew⟩, by simp [intOf]; omega⟩
        · have hj4 : j < n + 10 := by omega
          have hj5 : (j : Int) < (n : Int) + 10 := by omega
          obtain ⟨b2, o2, rfl, hc⟩ := HM.byte hj4
          rw [tail_get l n i j HL.out hj1 hj4, show ((UInt8.ofNat i).toNat : Int) = (i : Int) by simp; omega] at hc
          go_wp2_with fail
          exact ⟨⟨j + 1, by omega, by omega, by go_num⟩, by simp [intOf]; omega⟩
end Go.Proofs.YtobagfndagjajaaDoor
