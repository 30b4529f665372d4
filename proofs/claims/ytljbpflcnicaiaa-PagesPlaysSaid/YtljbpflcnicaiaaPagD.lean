/-
  The document's Lay, walked. Conditions: a map reads as one, bytes of 2^20 at most.
-/
import Derived.Test.YtljbpflcnicaiaaPagC
namespace Go.Proofs.Ytljbpflcnicaiaa
open Go.RowKit
set_option linter.unusedVariables false
set_option linter.unusedSimpArgs false

theorem laid_take (k : Nat) (l : List UInt8) (q : Nat) (h : q < (laidL k l).length) : (laidL k l).take (q + 1) = (laidL k l).take q ++ [(laidL k l).getD q 0] := by
  rw [List.take_succ_eq_append_getElem h, List.getD_eq_getElem?_getD, List.getElem?_eq_getElem h]; rfl
theorem laid_get (k : Nat) (l : List UInt8) (q : Nat) (h2 : l.length % 2 = 0) : (laidL k l).getD q 0 = if 2 * q < l.length then (l.getD (2 * q) 0).toNat + 256 * (l.getD (2 * q + 1) 0).toNat else 0 := by
  unfold laidL
  rw [List.getD_eq_getElem?_getD]
  split
  · rw [List.getElem?_append_left (by rw [words_len]; omega), ← List.getD_eq_getElem?_getD, words_get l q (by omega)]
  · rw [List.getElem?_append_right (by rw [words_len]; omega), List.getElem?_replicate]; split <;> rfl

set_option maxRecDepth 100000 in
set_option maxHeartbeats 2000000 in
theorem rlay_p (b : Nat) (S : List Nat) (i : Int) (a : Option Addr) (n c : Nat) (l : List UInt8) (w : World) (h : RM w b S) (hl : Sl w 1 (.slice a n c) n (bvs l)) (hne : 0 < n → ∀ g, (Value.slice a n c).ownBlock = some g → ¬ g = b) (hsz : n ≤ 1048576) (B : Bool) (hB : Hid (B = layIs i l)) (T : List Nat) (hT : Hid (T = layS S i l)) :
    Calls Try.prog 39 #[.pointer (some ⟨b, 0, none⟩), .int .i64 i, .slice a n c] w fun e w' => e = .returned (.bool B) ∧ RM w' b T ∧ Mods (fun g => g = b) w w' := by
  have hn := hl.len
  have hn1 := hn.1
  rcases lay_cases i l n hn1 with ⟨h1, h2⟩ | ⟨k, rfl, hk, h2⟩
  · obtain rfl : B = false := hB.out.trans h2
    have hTS : T = S := hT.out.trans (by rw [layS, h2]; rfl)
    clear h2 hB hT hn hn1
    subst hTS
    rcases h1 with h1 | h1
    · go_enter Try.func39, Try.ntmps39
      go_wp2_with fail
      go_ret
      exact ⟨rfl, h, Mods.refl _ _⟩
    · have h0 : ¬ i < 0 := by omega
      go_enter Try.func39, Try.ntmps39
      go_wp2_with fail
      go_ret
      exact ⟨rfl, h, Mods.refl _ _⟩
  · obtain ⟨P, hP⟩ : ∃ P, P = partN k := ⟨_, rfl⟩
    obtain ⟨O, hO⟩ : ∃ O, O = 124 * k := ⟨_, rfl⟩
    have hP2 := partN_le k
    have hO2 := part_end k hk
    have hP8 : (O = 992 ∧ P = 32) ∨ P = 124 := by
      rw [hO, hP, partN]
      split <;> omega
    rw [← hP] at h2 hP2 hO2
    rw [← hO] at hO2
    have hkO : (k : Int) * 124 = (O : Int) := by omega
    have hk0 : ¬ (k : Int) < 0 := by omega
    have hk9 : ¬ (9 : Int) ≤ k := by omega
    have HP := Lib.hid hP
    have HO := Lib.hid hO
    clear hP hO
    have HN := Lib.hid hn1
    have hn2 := hn.2.1
    clear hn hn1
    rcases h2 with ⟨h3, h2⟩ | ⟨h3, h4, h2⟩ | ⟨h3, h2⟩ | ⟨j, h3, h4, h5, h2⟩
    · obtain rfl : B = false := hB.out.trans h2
      have hTS : T = S := hT.out.trans (by rw [layS, h2]; rfl)
      have h3' : (n : Int) % 2 = 1 := by omega
      clear h2 hB hT h3
      subst hTS
      by_cases h9 : (248 : Int) < n
      · go_enter Try.func39, Try.ntmps39
        go_wp2_with fail
        go_ret
        exact ⟨rfl, h, Mods.refl _ _⟩
      · go_enter Try.func39, Try.ntmps39
        go_wp2_with fail
        go_ret
        exact ⟨rfl, h, Mods.refl _ _⟩
    · obtain rfl : B = false := hB.out.trans h2
      have hTS : T = S := hT.out.trans (by rw [layS, h2]; rfl)
      have h3' : (n : Int) % 2 = 0 := by omega
      clear h2 hB hT
      subst hTS
      by_cases h9 : (248 : Int) < n
      · go_enter Try.func39, Try.ntmps39
        go_wp2_with fail
        go_ret
        exact ⟨rfl, h, Mods.refl _ _⟩
      · obtain ⟨j, rfl⟩ : ∃ j, n = j + 2 := ⟨n - 2, by omega⟩
        have h9' : ¬ (248 : Int) < (j : Int) + 2 := by omega
        have h3'' : ((j : Int) + 2) % 2 = 0 := by omega
        obtain ⟨b1, o1, rfl, hc1⟩ := hl.byte (show j + 1 < j + 2 by omega)
        obtain ⟨b2, o2, he, hc2⟩ := hl.byte (show j < j + 2 by omega)
        cases he
        have hbig : 1024 < (O : Int) + ((j : Int) + 2) / 2 := by omega
        have hbig2 : 1024 < (O : Int) + ((j : Int) / 2 + 1) := by omega
        obtain ⟨y, hy⟩ : ∃ y, y = (l.getD (j + 1) 0).toNat := ⟨_, rfl⟩
        obtain ⟨x, hx⟩ : ∃ x, x = (l.getD j 0).toNat := ⟨_, rfl⟩
        rw [← hy] at hc1
        rw [← hx] at hc2
        clear hy hx h3 h3'
        by_cases hy : y = 0
        · subst hy
          by_cases hx : x = 0
          · subst hx
            go_enter Try.func39, Try.ntmps39
            go_wp2_with fail
            go_ret
            exact ⟨rfl, h, Mods.refl _ _⟩
          · have hx' : ((x : Int) == 0) = false := by rw [beq_eq_false_iff_ne]; omega
            go_enter Try.func39, Try.ntmps39
            go_wp2_with fail
            go_ret
            exact ⟨rfl, h, Mods.refl _ _⟩
        · have hy' : ((y : Int) == 0) = false := by rw [beq_eq_false_iff_ne]; omega
          go_enter Try.func39, Try.ntmps39
          go_wp2_with fail
          go_ret
          exact ⟨rfl, h, Mods.refl _ _⟩
    · obtain rfl : B = true := hB.out.trans h2
      have h3' : (n : Int) % 2 = 0 := by omega
      have h4' : ¬ (0 : Int) < n := by omega
      have h5' : ¬ (248 : Int) < n := by omega
      have h6' : ¬ 1024 < (O : Int) + (n : Int) / 2 := by omega
      have HE : Hid (n % 2 = 0) := by show n % 2 = 0; omega
      have HLL : Hid ((laidL k l).length = P) := by show _ = _; rw [laid_len k l (by rw [HN.out, ← HP.out]; omega), ← HP.out]
      have HTS : Hid (T = splice S O ((laidL k l).take P)) := by
        show _ = _
        rw [hT.out, layS, ← hB.out, if_pos rfl, Int.toNat_natCast, ← HO.out, List.take_of_length_le (by rw [HLL.out]; exact Nat.le_refl _)]
      have HTG : Hid (Good T) := by
        show Good T
        rw [hT.out]; exact good_lay h.2 _ _
      have HSL : Hid (S.length = 1024) := h.2.1
      clear h2 hB hT h3
      go_enter Try.func39, Try.ntmps39
      go_wp2_with fail
      clear h6' h3'
      go_loopw [8] (fun v8 wr => ∃ q : Nat, q ≤ P ∧ v8 = .int .i64 q ∧ Row wr b 66 (secs .i64 (splice S O ((laidL k l).take q))) ∧ Mods (fun g => g = b) w wr) (fun v8 _ => P - (intOf v8).toNat)
      case atStart => exact ⟨0, Nat.zero_le _, rfl, by simpa [splice] using h.1, Mods.refl _ _⟩
      case' round =>
        obtain ⟨q, hq, rfl, hr, hm⟩ := hrel
        by_cases hqP : q = P
        · rcases hP8 with ⟨e1, e2⟩ | e1
          · have hx1 : ¬ (O : Int) + (q : Int) < 1024 := by omega
            have hx2 : (q : Int) < 124 := by omega
            subst hqP
            go_wp2_with fail
            go_ret
            exact ⟨rfl, ⟨by rw [HTS.out]; exact hr, HTG.out⟩, hm⟩
          · have hx2 : ¬ (q : Int) < 124 := by omega
            subst hqP
            go_wp2_with fail
            go_ret
            exact ⟨rfl, ⟨by rw [HTS.out]; exact hr, HTG.out⟩, hm⟩
        have hlt : q < P := by omega
        have hx1 : (O : Int) + (q : Int) < 1024 := by omega
        have hx2 : (q : Int) < 124 := by omega
        have hlt3 : ((laidL k l).take q).length = q := by rw [List.length_take, HLL.out]; omega
        have hSL := HSL.out
        have hc := hr.cell (O + q)
        rw [secs_get _ _ _ (by rw [length_splice _ _ _ (by omega)]; omega)] at hc
        generalize (splice S O ((laidL k l).take q)).getD (O + q) 0 = old at hc
        have hf := hr.free (O + q)
        have hr1 : Row (wr.setCell ⟨b, O + q, none⟩ (.int .i64 0)) b 66 (secs .i64 ((splice S O ((laidL k l).take q)).set (O + q) 0)) := by
          rw [← secs_set]
          exact hr.set (O + q) (.int .i64 0)
        have hm1 := hm.trans (Mods.set wr b (O + q) (.int .i64 0))
        have e1 : (splice S O ((laidL k l).take q)).set (O + q) 0 = splice S O ((laidL k l).take q ++ [0]) := by
          have := splice_snoc S ((laidL k l).take q) O 0 (by omega)
          rwa [hlt3] at this
        have e2 := laid_take k l q (by rw [HLL.out]; exact hlt)
        have e3 := laid_get k l q (by rw [HN.out]; exact HE.out)
        rw [HN.out] at e3
      have h2q : ¬ 2 * q < n := by omega
      rw [if_neg h2q] at e3
      have h2q' : ¬ (2 : Int) * (q : Int) < (n : Int) := by omega
      rw [e1, ← e3, ← e2] at hr1
      have HR1 := Lib.hid hr1
      clear hr hr1 e1 e2 e3 hlt3 hSL
      go_wp2_with fail
      exact ⟨⟨q + 1, by omega, by go_num, HR1.out, hm1⟩, by simp [intOf]; omega⟩
    · subst h3
      obtain ⟨b1, o1, rfl, hc1⟩ := hl.byte (show j + 1 < j + 2 by omega)
      obtain ⟨b2, o2, he, hc2⟩ := hl.byte (show j < j + 2 by omega)
      cases he
      have h3' : ((j : Int) + 2) % 2 = 0 := by omega
      have h5' : ¬ (248 : Int) < (j : Int) + 2 := by omega
      have h6' : ¬ 1024 < (O : Int) + ((j : Int) + 2) / 2 := by omega
      have h7' : ¬ 1024 < (O : Int) + ((j : Int) / 2 + 1) := by omega
      have HE : Hid ((j + 2) % 2 = 0) := by show (j + 2) % 2 = 0; omega
      have HLL : Hid ((laidL k l).length = P) := by show _ = _; rw [laid_len k l (by rw [HN.out, ← HP.out]; omega), ← HP.out]
      obtain ⟨y, hy⟩ : ∃ y, y = (l.getD (j + 1) 0).toNat := ⟨_, rfl⟩
      obtain ⟨x, hx⟩ : ∃ x, x = (l.getD j 0).toNat := ⟨_, rfl⟩
      rw [← hy, ← hx] at h2
      rw [← hy] at hc1
      rw [← hx] at hc2
      clear hy hx
      by_cases hy : y = 0
      · subst hy
        by_cases hx : x = 0
        · subst hx
          obtain rfl : B = false := hB.out.trans h2
          have hTS : T = S := hT.out.trans (by rw [layS, h2]; rfl)
          clear h2 hB hT
          subst hTS
          go_enter Try.func39, Try.ntmps39
          go_wp2_with fail
          go_ret
          exact ⟨rfl, h, Mods.refl _ _⟩
        · have hx' : ((x : Int) == 0) = false := by rw [beq_eq_false_iff_ne]; omega
          have hB2 : B = true := hB.out.trans (by rw [h2, decide_eq_false hx]; rfl)
          subst hB2
          have HTS : Hid (T = splice S O ((laidL k l).take P)) := by
            show _ = _
            rw [hT.out, layS, ← hB.out, if_pos rfl, Int.toNat_natCast, ← HO.out, List.take_of_length_le (by rw [HLL.out]; exact Nat.le_refl _)]
          have HTG : Hid (Good T) := by
            show Good T
            rw [hT.out]; exact good_lay h.2 _ _
          have HSL : Hid (S.length = 1024) := h.2.1
          clear h2 hB hT h4
          go_enter Try.func39, Try.ntmps39
          go_wp2_with fail
          clear h6' h7' h3' hc1 hc2 hx' hx
          go_loopw [8] (fun v8 wr => ∃ q : Nat, q ≤ P ∧ v8 = .int .i64 q ∧ Row wr b 66 (secs .i64 (splice S O ((laidL k l).take q))) ∧ Mods (fun g => g = b) w wr) (fun v8 _ => P - (intOf v8).toNat)
          case atStart => exact ⟨0, Nat.zero_le _, rfl, by simpa [splice] using h.1, Mods.refl _ _⟩
          case' round =>
            obtain ⟨q, hq, rfl, hr, hm⟩ := hrel
            by_cases hqP : q = P
            · rcases hP8 with ⟨e1, e2⟩ | e1
              · have hx1 : ¬ (O : Int) + (q : Int) < 1024 := by omega
                have hx2 : (q : Int) < 124 := by omega
                subst hqP
                go_wp2_with fail
                go_ret
                exact ⟨rfl, ⟨by rw [HTS.out]; exact hr, HTG.out⟩, hm⟩
              · have hx2 : ¬ (q : Int) < 124 := by omega
                subst hqP
                go_wp2_with fail
                go_ret
                exact ⟨rfl, ⟨by rw [HTS.out]; exact hr, HTG.out⟩, hm⟩
            have hlt : q < P := by omega
            have hx1 : (O : Int) + (q : Int) < 1024 := by omega
            have hx2 : (q : Int) < 124 := by omega
            have hlt3 : ((laidL k l).take q).length = q := by rw [List.length_take, HLL.out]; omega
            have hSL := HSL.out
            have hc := hr.cell (O + q)
            rw [secs_get _ _ _ (by rw [length_splice _ _ _ (by omega)]; omega)] at hc
            generalize (splice S O ((laidL k l).take q)).getD (O + q) 0 = old at hc
            have hf := hr.free (O + q)
            have hr1 : Row (wr.setCell ⟨b, O + q, none⟩ (.int .i64 0)) b 66 (secs .i64 ((splice S O ((laidL k l).take q)).set (O + q) 0)) := by
              rw [← secs_set]
              exact hr.set (O + q) (.int .i64 0)
            have hm1 := hm.trans (Mods.set wr b (O + q) (.int .i64 0))
            have e1 : (splice S O ((laidL k l).take q)).set (O + q) 0 = splice S O ((laidL k l).take q ++ [0]) := by
              have := splice_snoc S ((laidL k l).take q) O 0 (by omega)
              rwa [hlt3] at this
            have e2 := laid_take k l q (by rw [HLL.out]; exact hlt)
            have e3 := laid_get k l q (by rw [HN.out]; exact HE.out)
            rw [HN.out] at e3
          by_cases h2q : 2 * q < j + 2
          · rw [if_pos h2q] at e3
            have h2q' : (2 : Int) * (q : Int) < ((j : Int) + 2) := by omega
            have h2q3 : (2 : Int) * (q : Int) + 1 < ((j : Int) + 2) := by have := HE.out; omega
            have h2q4 : (0 : Int) ≤ (2 : Int) * (q : Int) + 1 := by omega
            obtain ⟨b3, o3, he3, hd1⟩ := (hl.mods hm1 (hne (by omega))).byte (show 2 * q < _ by omega)
            obtain ⟨b4, o4, he4, hd2⟩ := (hl.mods hm1 (hne (by omega))).byte (show 2 * q + 1 < _ by have := HE.out; omega)
            obtain ⟨x, hx⟩ : ∃ x, x = (l.getD (2 * q) 0).toNat := ⟨_, rfl⟩
            obtain ⟨y, hy⟩ : ∃ y, y = (l.getD (2 * q + 1) 0).toNat := ⟨_, rfl⟩
            have hx9 : x < 256 := by rw [hx]; exact UInt8.toNat_lt _
            have hy9 : y < 256 := by rw [hy]; exact UInt8.toNat_lt _
            rw [← hx] at hd1
            rw [← hy] at hd2
            rw [← hx, ← hy] at e3
            cases he3
            cases he4
            have hr2 := hr1.set (O + q) (.int .i64 ((x + 256 * y : Nat) : Int))
            have hm2 := hm1.trans (Mods.set _ b (O + q) (.int .i64 ((x + 256 * y : Nat) : Int)))
            rw [secs_set, List.set_set, (by have := splice_snoc S ((laidL k l).take q) O (x + 256 * y) (by omega); rwa [hlt3] at this : (splice S O ((laidL k l).take q)).set (O + q) (x + 256 * y) = splice S O ((laidL k l).take q ++ [x + 256 * y])), ← e3, ← e2] at hr2
            have hz1 := hr1.cell (O + q)
            rw [secs_get _ _ _ (by rw [List.length_set, length_splice _ _ _ (by omega)]; omega)] at hz1
            have hf1 := hr1.free (O + q)
            have hcap := hl.len
            have hcap2 := hcap.2.2
            have HXY := Lib.hid e3
            have HR2 := Lib.hid hr2
            have HM2 := Lib.hid hm2
            have HD1 := Lib.hid hd1
            have HD2 := Lib.hid hd2
            have HZ1 := Lib.hid hz1
            have HF1 := Lib.hid hf1
            clear hcap hr hr1 hr2 hm2 hm1 hd1 hd2 hz1 hf1 e1 e2 e3 hlt3 hSL hx hy
            go_wp2_with fail
            generalize wr.setCell ⟨b, O + q, none⟩ (.int .i64 0) = w1 at HR2 HM2 HD1 HD2 HZ1 HF1 ⊢
            have q1 := later_cell HD1.out
            have q2 := later_cell HD2.out
            have hz1 := HZ1.out
            have hf1 := HF1.out
            generalize ((splice S O ((laidL k l).take q)).set (O + q) 0).getD (O + q) 0 = old2 at hz1
            clear HZ1 HF1 HD1 HD2
            refine wp_region_lex Rb Rb_refl Rb_trans [0,0,0,0,0,0,0,0,0,0,0,0,0,0,0,0,0,0,0,0,0,0,0,2] (by kernel_rfl) (by kernel_rfl) ?_
            refine wpCan_seg 23 (by kernel_rfl) ?_
            simp only [List.zip_cons_cons, List.zip_nil_left, List.take_succ_cons, List.take_zero, List.drop_succ_cons, List.drop_zero, List.map_cons, List.map_nil]
            iterate 23 (go_big_quiet_step (fail))
            refine wpQuiet_nil ?_
            clear q1 q2
            refine wpCan_list (k := 1) (fun K hK => ?_) (fun h => by cases h)
            go_wp2_with fail
            refine hK _ _ (fun h => by cases h) ?_
            unfold wpCan
            clear hK K hz1 hf1
            have HR9 : Hid (Row (w1.setCell ⟨b, O + q, none⟩ (.int .i64 ((x : Int) + 256 * (y : Int)))).drew b 66 (secs .i64 (splice S O ((laidL k l).take (q + 1)))) ∧ Mods (fun g => g = b) w (w1.setCell ⟨b, O + q, none⟩ (.int .i64 ((x : Int) + 256 * (y : Int)))).drew) := by
              have k1 := HR2.out
              have k2 := HM2.out
              rw [HXY.out] at k1
              rw [show ((x + 256 * y : Nat) : Int) = (x : Int) + 256 * (y : Int) by omega] at k1 k2
              exact ⟨k1, k2.drew⟩
            generalize (w1.setCell ⟨b, O + q, none⟩ (.int .i64 ((x : Int) + 256 * (y : Int)))).drew = w2 at HR9 ⊢
            go_wp2_with fail
            exact ⟨⟨q + 1, by omega, by go_num, HR9.out.1, HR9.out.2⟩, by simp [intOf]; omega⟩
          · rw [if_neg h2q] at e3
            have h2q' : ¬ (2 : Int) * (q : Int) < ((j : Int) + 2) := by omega
            rw [e1, ← e3, ← e2] at hr1
            have HR1 := Lib.hid hr1
            clear hr hr1 e1 e2 e3 hlt3 hSL
            go_wp2_with fail
            exact ⟨⟨q + 1, by omega, by go_num, HR1.out, hm1⟩, by simp [intOf]; omega⟩
      · have hy' : ((y : Int) == 0) = false := by rw [beq_eq_false_iff_ne]; omega
        have hB2 : B = true := hB.out.trans (by rw [h2, decide_eq_false hy]; rfl)
        subst hB2
        have HTS : Hid (T = splice S O ((laidL k l).take P)) := by
          show _ = _
          rw [hT.out, layS, ← hB.out, if_pos rfl, Int.toNat_natCast, ← HO.out, List.take_of_length_le (by rw [HLL.out]; exact Nat.le_refl _)]
        have HTG : Hid (Good T) := by
          show Good T
          rw [hT.out]; exact good_lay h.2 _ _
        have HSL : Hid (S.length = 1024) := h.2.1
        clear h2 hB hT h4
        go_enter Try.func39, Try.ntmps39
        go_wp2_with fail
        clear h6' h7' h3' hc1 hc2 hy' hy
        go_loopw [8] (fun v8 wr => ∃ q : Nat, q ≤ P ∧ v8 = .int .i64 q ∧ Row wr b 66 (secs .i64 (splice S O ((laidL k l).take q))) ∧ Mods (fun g => g = b) w wr) (fun v8 _ => P - (intOf v8).toNat)
        case atStart => exact ⟨0, Nat.zero_le _, rfl, by simpa [splice] using h.1, Mods.refl _ _⟩
        case' round =>
          obtain ⟨q, hq, rfl, hr, hm⟩ := hrel
          by_cases hqP : q = P
          · rcases hP8 with ⟨e1, e2⟩ | e1
            · have hx1 : ¬ (O : Int) + (q : Int) < 1024 := by omega
              have hx2 : (q : Int) < 124 := by omega
              subst hqP
              go_wp2_with fail
              go_ret
              exact ⟨rfl, ⟨by rw [HTS.out]; exact hr, HTG.out⟩, hm⟩
            · have hx2 : ¬ (q : Int) < 124 := by omega
              subst hqP
              go_wp2_with fail
              go_ret
              exact ⟨rfl, ⟨by rw [HTS.out]; exact hr, HTG.out⟩, hm⟩
          have hlt : q < P := by omega
          have hx1 : (O : Int) + (q : Int) < 1024 := by omega
          have hx2 : (q : Int) < 124 := by omega
          have hlt3 : ((laidL k l).take q).length = q := by rw [List.length_take, HLL.out]; omega
          have hSL := HSL.out
          have hc := hr.cell (O + q)
          rw [secs_get _ _ _ (by rw [length_splice _ _ _ (by omega)]; omega)] at hc
          generalize (splice S O ((laidL k l).take q)).getD (O + q) 0 = old at hc
          have hf := hr.free (O + q)
          have hr1 : Row (wr.setCell ⟨b, O + q, none⟩ (.int .i64 0)) b 66 (secs .i64 ((splice S O ((laidL k l).take q)).set (O + q) 0)) := by
            rw [← secs_set]
            exact hr.set (O + q) (.int .i64 0)
          have hm1 := hm.trans (Mods.set wr b (O + q) (.int .i64 0))
          have e1 : (splice S O ((laidL k l).take q)).set (O + q) 0 = splice S O ((laidL k l).take q ++ [0]) := by
            have := splice_snoc S ((laidL k l).take q) O 0 (by omega)
            rwa [hlt3] at this
          have e2 := laid_take k l q (by rw [HLL.out]; exact hlt)
          have e3 := laid_get k l q (by rw [HN.out]; exact HE.out)
          rw [HN.out] at e3
        by_cases h2q : 2 * q < j + 2
        · rw [if_pos h2q] at e3
          have h2q' : (2 : Int) * (q : Int) < ((j : Int) + 2) := by omega
          have h2q3 : (2 : Int) * (q : Int) + 1 < ((j : Int) + 2) := by have := HE.out; omega
          have h2q4 : (0 : Int) ≤ (2 : Int) * (q : Int) + 1 := by omega
          obtain ⟨b3, o3, he3, hd1⟩ := (hl.mods hm1 (hne (by omega))).byte (show 2 * q < _ by omega)
          obtain ⟨b4, o4, he4, hd2⟩ := (hl.mods hm1 (hne (by omega))).byte (show 2 * q + 1 < _ by have := HE.out; omega)
          obtain ⟨x, hx⟩ : ∃ x, x = (l.getD (2 * q) 0).toNat := ⟨_, rfl⟩
          obtain ⟨y, hy⟩ : ∃ y, y = (l.getD (2 * q + 1) 0).toNat := ⟨_, rfl⟩
          have hx9 : x < 256 := by rw [hx]; exact UInt8.toNat_lt _
          have hy9 : y < 256 := by rw [hy]; exact UInt8.toNat_lt _
          rw [← hx] at hd1
          rw [← hy] at hd2
          rw [← hx, ← hy] at e3
          cases he3
          cases he4
          have hr2 := hr1.set (O + q) (.int .i64 ((x + 256 * y : Nat) : Int))
          have hm2 := hm1.trans (Mods.set _ b (O + q) (.int .i64 ((x + 256 * y : Nat) : Int)))
          rw [secs_set, List.set_set, (by have := splice_snoc S ((laidL k l).take q) O (x + 256 * y) (by omega); rwa [hlt3] at this : (splice S O ((laidL k l).take q)).set (O + q) (x + 256 * y) = splice S O ((laidL k l).take q ++ [x + 256 * y])), ← e3, ← e2] at hr2
          have hz1 := hr1.cell (O + q)
          rw [secs_get _ _ _ (by rw [List.length_set, length_splice _ _ _ (by omega)]; omega)] at hz1
          have hf1 := hr1.free (O + q)
          have hcap := hl.len
          have hcap2 := hcap.2.2
          have HXY := Lib.hid e3
          have HR2 := Lib.hid hr2
          have HM2 := Lib.hid hm2
          have HD1 := Lib.hid hd1
          have HD2 := Lib.hid hd2
          have HZ1 := Lib.hid hz1
          have HF1 := Lib.hid hf1
          clear hcap hr hr1 hr2 hm2 hm1 hd1 hd2 hz1 hf1 e1 e2 e3 hlt3 hSL hx hy
          go_wp2_with fail
          generalize wr.setCell ⟨b, O + q, none⟩ (.int .i64 0) = w1 at HR2 HM2 HD1 HD2 HZ1 HF1 ⊢
          have q1 := later_cell HD1.out
          have q2 := later_cell HD2.out
          have hz1 := HZ1.out
          have hf1 := HF1.out
          generalize ((splice S O ((laidL k l).take q)).set (O + q) 0).getD (O + q) 0 = old2 at hz1
          clear HZ1 HF1 HD1 HD2
          refine wp_region_lex Rb Rb_refl Rb_trans [0,0,0,0,0,0,0,0,0,0,0,0,0,0,0,0,0,0,0,0,0,0,0,2] (by kernel_rfl) (by kernel_rfl) ?_
          refine wpCan_seg 23 (by kernel_rfl) ?_
          simp only [List.zip_cons_cons, List.zip_nil_left, List.take_succ_cons, List.take_zero, List.drop_succ_cons, List.drop_zero, List.map_cons, List.map_nil]
          iterate 23 (go_big_quiet_step (fail))
          refine wpQuiet_nil ?_
          clear q1 q2
          refine wpCan_list (k := 1) (fun K hK => ?_) (fun h => by cases h)
          go_wp2_with fail
          refine hK _ _ (fun h => by cases h) ?_
          unfold wpCan
          clear hK K hz1 hf1
          have HR9 : Hid (Row (w1.setCell ⟨b, O + q, none⟩ (.int .i64 ((x : Int) + 256 * (y : Int)))).drew b 66 (secs .i64 (splice S O ((laidL k l).take (q + 1)))) ∧ Mods (fun g => g = b) w (w1.setCell ⟨b, O + q, none⟩ (.int .i64 ((x : Int) + 256 * (y : Int)))).drew) := by
            have k1 := HR2.out
            have k2 := HM2.out
            rw [HXY.out] at k1
            rw [show ((x + 256 * y : Nat) : Int) = (x : Int) + 256 * (y : Int) by omega] at k1 k2
            exact ⟨k1, k2.drew⟩
          generalize (w1.setCell ⟨b, O + q, none⟩ (.int .i64 ((x : Int) + 256 * (y : Int)))).drew = w2 at HR9 ⊢
          go_wp2_with fail
          exact ⟨⟨q + 1, by omega, by go_num, HR9.out.1, HR9.out.2⟩, by simp [intOf]; omega⟩
        · rw [if_neg h2q] at e3
          have h2q' : ¬ (2 : Int) * (q : Int) < ((j : Int) + 2) := by omega
          rw [e1, ← e3, ← e2] at hr1
          have HR1 := Lib.hid hr1
          clear hr hr1 e1 e2 e3 hlt3 hSL
          go_wp2_with fail
          exact ⟨⟨q + 1, by omega, by go_num, HR1.out, hm1⟩, by simp [intOf]; omega⟩
end Go.Proofs.Ytljbpflcnicaiaa
