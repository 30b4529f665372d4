/-
  Lay, the program's and the document's, walked. Conditions: a map reads as one, bytes of 2^20 at most.
-/
import Derived.Test.YtljbpflcnicaiaaPagB
namespace Go.Proofs.Ytljbpflcnicaiaa
open Go.RowKit
set_option linter.unusedVariables false
set_option linter.unusedSimpArgs false

theorem run_clear_part (w : World) (ty : TypeId) (b : Nat) (S : List Nat) (O P C : Nat) (h : Row w b 53 (secs .u16 S)) (hP : 0 < P) (hl : O + P ≤ S.length) :
    ∃ w', (Builtin.clear_ #[55] ty #[.slice (some ⟨b, O, none⟩) P C]).run Try.prog w = .ok (.tuple #[]) w' ∧ Row w' b 53 (secs .u16 (splice S O (List.replicate P 0))) ∧ Mods (fun g => g = b) w w' := by
  have hz : ∀ w : World, (zeroValue 50).run Try.prog w = .ok (.int .u16 0) w := fun w => rfl
  have hr := Lib.run_clear_slice (P := Try.prog) w 55 50 ty (.int .u16 0) Try.underlying55 hz rfl rfl b O P C hP
    (fun j hj => by rw [h.cell, secs_get _ _ _ (by omega)]; rfl) (fun j hj => h.free _)
  have h2 := Row.setCells b (List.replicate P (.int .u16 0)) O w (secs .u16 S) h (by rw [List.length_replicate, secs_len]; exact hl)
  have e : List.replicate P (Value.int .u16 0) = secs .u16 (List.replicate P 0) := by simp [secs]
  rw [e] at hr h2
  rw [secs_splice] at h2
  exact ⟨_, hr, h2.1, (Mods.grown h2.2).mono fun g h => (Option.some.inj h).symm⟩

set_option maxRecDepth 100000 in
set_option maxHeartbeats 2000000 in
theorem lay_p (b : Nat) (S : List Nat) (i : Int) (a : Option Addr) (n c : Nat) (l : List UInt8) (w : World) (h : PM w b S) (hl : Sl w 1 (.slice a n c) n (bvs l)) (hne : 0 < n → ∀ g, (Value.slice a n c).ownBlock = some g → ¬ g = b) (hsz : n ≤ 1048576) (B : Bool) (hB : Hid (B = layIs i l)) (T : List Nat) (hT : Hid (T = layS S i l)) :
    Calls Try.prog 19 #[.pointer (some ⟨b, 0, none⟩), .int .i64 i, .slice a n c] w fun e w' => e = .returned (.bool B) ∧ PM w' b T ∧ Mods (fun g => g = b) w w' := by
  have hn := hl.len
  have hn1 := hn.1
  rcases lay_cases i l n hn1 with ⟨h1, h2⟩ | ⟨k, rfl, hk, h2⟩
  · obtain rfl : B = false := hB.out.trans h2
    have hTS : T = S := hT.out.trans (by rw [layS, h2]; rfl)
    clear h2 hB hT hn hn1
    subst hTS
    have kn := fun w => Lib.run_eql_slice_nil (P := Try.prog) w 55 50 none 0 0 0 0 Try.underlying55
    simp only [Option.isNone_none] at kn
    go_enter Try.func19, Try.ntmps19
    go_wp2_with fail
    refine (part_bad b i w h1).mono ?_
    rintro e w' ⟨rfl, rfl⟩
    go_wp2_with fail
    go_ret
    exact ⟨rfl, h, Mods.refl _ _⟩
  · obtain ⟨P, hP⟩ : ∃ P, P = partN k := ⟨_, rfl⟩
    obtain ⟨O, hO⟩ : ∃ O, O = 124 * k := ⟨_, rfl⟩
    obtain ⟨C, hC⟩ : ∃ C, C = 1024 - 124 * k := ⟨_, rfl⟩
    have hP2 := partN_le k
    have hO2 := part_end k hk
    rw [← hP] at h2 hP2 hO2
    rw [← hO] at hO2
    have hPC : P ≤ C := by omega
    have HP := Lib.hid hP
    have HO := Lib.hid hO
    have HC := Lib.hid hC
    clear hP hO hC
    have HN := Lib.hid hn1
    have hn2 := hn.2.1
    clear hn hn1
    rcases h2 with ⟨h3, h2⟩ | ⟨h3, h4, h2⟩ | ⟨h3, h2⟩ | ⟨j, h3, h4, h5, h2⟩
    · obtain rfl : B = false := hB.out.trans h2
      have hTS : T = S := hT.out.trans (by rw [layS, h2]; rfl)
      have h3' : (n : Int) % 2 = 1 := by omega
      clear h2 hB hT h3
      subst hTS
      have kn := fun w => Lib.run_eql_slice_nil (P := Try.prog) w 55 50 (some ⟨b, O, none⟩) P C 0 0 Try.underlying55
      simp only [Option.isNone_some] at kn
      go_enter Try.func19, Try.ntmps19
      go_wp2_with fail
      refine (part_ok b k w hk).mono ?_
      rintro e w' ⟨rfl, rfl⟩
      rw [← HC.out, ← HO.out, ← HP.out]
      go_wp2_with fail
      go_ret
      exact ⟨rfl, h, Mods.refl _ _⟩
    · obtain rfl : B = false := hB.out.trans h2
      have hTS : T = S := hT.out.trans (by rw [layS, h2]; rfl)
      have h3' : (n : Int) % 2 = 0 := by omega
      have h4' : 2 * (P : Int) < n := by omega
      clear h2 hB hT h3
      subst hTS
      have kn := fun w => Lib.run_eql_slice_nil (P := Try.prog) w 55 50 (some ⟨b, O, none⟩) P C 0 0 Try.underlying55
      simp only [Option.isNone_some] at kn
      go_enter Try.func19, Try.ntmps19
      go_wp2_with fail
      refine (part_ok b k w hk).mono ?_
      rintro e w' ⟨rfl, rfl⟩
      rw [← HC.out, ← HO.out, ← HP.out]
      go_wp2_with fail
      go_ret
      exact ⟨rfl, h, Mods.refl _ _⟩
    · obtain rfl : B = true := hB.out.trans h2
      obtain ⟨H, hH⟩ : ∃ H : Nat, H = n / 2 := ⟨_, rfl⟩
      have h3' : (n : Int) % 2 = 0 := by omega
      have h4' : ¬ (0 : Int) < n := by omega
      have h5' : ¬ 2 * (P : Int) < n := by omega
      have h6' : (n : Int) / 2 = H := by omega
      have HTS : Hid (T = splice S O (wordsL l ++ List.replicate (P - H) 0)) := by
        show _ = _
        rw [hT.out, layS, ← hB.out, if_pos rfl, laidL, Int.toNat_natCast, ← HO.out, ← HP.out, HN.out, hH]
      have HTG : Hid (Good T) := by
        show Good T
        rw [hT.out]; exact good_lay h.2 _ _
      have HWL : Hid ((wordsL l).length = H) := by show _ = _; rw [words_len, HN.out, hH]
      have HSL : Hid (S.length = 1024) := h.2.1
      obtain ⟨w1, hcl, hr1, hm1⟩ := run_clear_part w 0 b S O P C h.1 (by omega) (by have := HSL.out; omega)
      have hH9 : H ≤ 524288 := by omega
      have hHP : H ≤ P := by omega
      have HH := Lib.hid hH
      clear hH
      clear h2 hB hT h3
      have kn := fun w => Lib.run_eql_slice_nil (P := Try.prog) w 55 50 (some ⟨b, O, none⟩) P C 0 0 Try.underlying55
      simp only [Option.isNone_some] at kn
      go_enter Try.func19, Try.ntmps19
      go_wp2_with fail
      refine (part_ok b k w hk).mono ?_
      rintro e w' ⟨rfl, rfl⟩
      rw [← HC.out, ← HO.out, ← HP.out]
      go_wp2_with fail
      clear h6'
      clear hcl kn
      go_loopw [8, 9, 10, 57] (fun v8 v9 v10 v57 wr => ∃ q : Nat, q ≤ H ∧ v57 = .int .i64 q ∧ Row wr b 53 (secs .u16 (splice S O ((wordsL l).take q ++ List.replicate (P - q) 0))) ∧ Mods (fun g => g = b) w wr) (fun _ _ _ v57 _ => H - (intOf v57).toNat)
      case atStart => exact ⟨0, Nat.zero_le _, rfl, by simpa using hr1, hm1⟩
      case round =>
        obtain ⟨q, hq, rfl, hr, hm⟩ := hrel
        by_cases hqH : q = H
        · subst hqH
          go_wp2_with fail
          go_ret
          refine ⟨rfl, ⟨?_, HTG.out⟩, hm⟩
          rw [HTS.out]
          rw [List.take_of_length_le (by rw [HWL.out]; exact Nat.le_refl _)] at hr
          exact hr
        · have hlt : q < H := by omega
          have hlt' : (q : Int) < H := by omega
          have hq9 : (2 : Int) * (q : Int) ≤ 1048576 := by omega
          have hg := get_any _ _ c l wr (2 * (q : Int)) 2 (hl.mods hm (hne (by have h2 := HH.out; omega))) (by omega)
          rw [show (2 : Int) * (q : Int) = ((2 * q : Nat) : Int) by omega, get2 l q (by have h1 := HN.out; have h2 := HH.out; omega)] at hg
          have hv := words_lt l q
          obtain ⟨v, hv0⟩ : ∃ v, v = (wordsL l).getD q 0 := ⟨_, rfl⟩
          obtain ⟨E, hE0⟩ : ∃ E, E = getE l ((2 * q : Nat) : Int) 2 := ⟨_, rfl⟩
          rw [← hv0, ← hE0] at hg
          rw [← hv0] at hv
          have HG := Lib.hid hg
          have HV := Lib.hid hv0
          clear hg hv0 hE0
          go_wp2_with fail
          rw [show (2 : Int) * (q : Int) = ((2 * q : Nat) : Int) by omega]
          refine HG.out.mono ?_
          rintro e w2 ⟨rfl, hb2⟩
          have hr2 := hr.after hb2
          have hm2 := hm.trans (Mods.fresh hb2 _)
          have hz : ((wordsL l).take q ++ List.replicate (P - q) 0).length = P := by rw [List.length_append, List.length_take, List.length_replicate, HWL.out]; omega
          have hc2 := hr2.cell (O + q)
          have hSl := HSL.out
          rw [secs_get _ _ _ (by rw [length_splice _ _ _ (by omega)]; omega)] at hc2
          have hf2 := hr2.free (O + q)
          have hr3 := hr2.set (O + q) (.int .u16 (v : Int))
          rw [secs_set, splice_set _ _ _ _ _ (by omega) (by omega), HV.out, zeros_set _ _ _ (by rw [HWL.out]; exact hlt) (by omega)] at hr3
          generalize (splice S O ((wordsL l).take q ++ List.replicate (P - q) 0)).getD (O + q) 0 = old at hc2
          have HR3 := Lib.hid hr3
          have hv' : (v : Int) < 65536 := by omega
          rw [← HV.out] at HR3
          clear hr2 hr3 hr hz hSl
          go_wp2_with fail
          refine ⟨⟨q + 1, by omega, by go_num, HR3.out, hm2.trans (Mods.set w2 b (O + q) _)⟩, by simp [intOf]; omega⟩
    · subst h3
      obtain ⟨b1, o1, rfl, hc1⟩ := hl.byte (show j + 1 < j + 2 by omega)
      obtain ⟨b2, o2, he, hc2⟩ := hl.byte (show j < j + 2 by omega)
      cases he
      have h3' : ((j : Int) + 2) % 2 = 0 := by omega
      have h5' : ¬ 2 * (P : Int) < (j : Int) + 2 := by omega
      obtain ⟨y, hy⟩ : ∃ y, y = (l.getD (j + 1) 0).toNat := ⟨_, rfl⟩
      obtain ⟨x, hx⟩ : ∃ x, x = (l.getD j 0).toNat := ⟨_, rfl⟩
      rw [← hy, ← hx] at h2
      rw [← hy] at hc1
      rw [← hx] at hc2
      clear hy hx
      by_cases hy : y = 0
      · subst hy
        by_cases hx : x = 0
        · subst hx
          obtain rfl : B = false := hB.out.trans h2
          have hTS : T = S := hT.out.trans (by rw [layS, h2]; rfl)
          clear h2 hB hT
          subst hTS
          have kn := fun w => Lib.run_eql_slice_nil (P := Try.prog) w 55 50 (some ⟨b, O, none⟩) P C 0 0 Try.underlying55
          simp only [Option.isNone_some] at kn
          go_enter Try.func19, Try.ntmps19
          go_wp2_with fail
          refine (part_ok b k w hk).mono ?_
          rintro e w' ⟨rfl, rfl⟩
          rw [← HC.out, ← HO.out, ← HP.out]
          go_wp2_with fail
          go_ret
          exact ⟨rfl, h, Mods.refl _ _⟩
        · have hx' : ((x : Int) == 0) = false := by rw [beq_eq_false_iff_ne]; omega
          have hB2 : B = true := hB.out.trans (by rw [h2, decide_eq_false hx]; rfl)
          subst hB2
          obtain ⟨H, hH⟩ : ∃ H : Nat, H = (j + 2) / 2 := ⟨_, rfl⟩
          have h6' : ((j : Int) + 2) / 2 = H := by omega
          have h7' : (j : Int) / 2 + 1 = H := by omega
          have HTS : Hid (T = splice S O (wordsL l ++ List.replicate (P - H) 0)) := by
            show _ = _
            rw [hT.out, layS, ← hB.out, if_pos rfl, laidL, Int.toNat_natCast, ← HO.out, ← HP.out, HN.out, hH]
          have HTG : Hid (Good T) := by
            show Good T
            rw [hT.out]; exact good_lay h.2 _ _
          have HWL : Hid ((wordsL l).length = H) := by show _ = _; rw [words_len, HN.out, hH]
          have HSL : Hid (S.length = 1024) := h.2.1
          obtain ⟨w1, hcl, hr1, hm1⟩ := run_clear_part w 0 b S O P C h.1 (by omega) (by have := HSL.out; omega)
          have hH9 : H ≤ 524288 := by omega
          have hHP : H ≤ P := by omega
          have HH := Lib.hid hH
          clear hH
          clear h2 hB hT h4
          have kn := fun w => Lib.run_eql_slice_nil (P := Try.prog) w 55 50 (some ⟨b, O, none⟩) P C 0 0 Try.underlying55
          simp only [Option.isNone_some] at kn
          go_enter Try.func19, Try.ntmps19
          go_wp2_with fail
          refine (part_ok b k w hk).mono ?_
          rintro e w' ⟨rfl, rfl⟩
          rw [← HC.out, ← HO.out, ← HP.out]
          go_wp2_with fail
          rw [h6']
          clear h6' h7'
          clear hcl kn
          go_loopw [8, 9, 10, 57] (fun v8 v9 v10 v57 wr => ∃ q : Nat, q ≤ H ∧ v57 = .int .i64 q ∧ Row wr b 53 (secs .u16 (splice S O ((wordsL l).take q ++ List.replicate (P - q) 0))) ∧ Mods (fun g => g = b) w wr) (fun _ _ _ v57 _ => H - (intOf v57).toNat)
          case atStart => exact ⟨0, Nat.zero_le _, rfl, by simpa using hr1, hm1⟩
          case round =>
            obtain ⟨q, hq, rfl, hr, hm⟩ := hrel
            by_cases hqH : q = H
            · subst hqH
              go_wp2_with fail
              go_ret
              refine ⟨rfl, ⟨?_, HTG.out⟩, hm⟩
              rw [HTS.out]
              rw [List.take_of_length_le (by rw [HWL.out]; exact Nat.le_refl _)] at hr
              exact hr
            · have hlt : q < H := by omega
              have hlt' : (q : Int) < H := by omega
              have hq9 : (2 : Int) * (q : Int) ≤ 1048576 := by omega
              have hg := get_any _ _ c l wr (2 * (q : Int)) 2 (hl.mods hm (hne (by have h2 := HH.out; omega))) (by omega)
              rw [show (2 : Int) * (q : Int) = ((2 * q : Nat) : Int) by omega, get2 l q (by have h1 := HN.out; have h2 := HH.out; omega)] at hg
              have hv := words_lt l q
              obtain ⟨v, hv0⟩ : ∃ v, v = (wordsL l).getD q 0 := ⟨_, rfl⟩
              obtain ⟨E, hE0⟩ : ∃ E, E = getE l ((2 * q : Nat) : Int) 2 := ⟨_, rfl⟩
              rw [← hv0, ← hE0] at hg
              rw [← hv0] at hv
              have HG := Lib.hid hg
              have HV := Lib.hid hv0
              clear hg hv0 hE0
              go_wp2_with fail
              rw [show (2 : Int) * (q : Int) = ((2 * q : Nat) : Int) by omega]
              refine HG.out.mono ?_
              rintro e w2 ⟨rfl, hb2⟩
              have hr2 := hr.after hb2
              have hm2 := hm.trans (Mods.fresh hb2 _)
              have hz : ((wordsL l).take q ++ List.replicate (P - q) 0).length = P := by rw [List.length_append, List.length_take, List.length_replicate, HWL.out]; omega
              have hc2 := hr2.cell (O + q)
              have hSl := HSL.out
              rw [secs_get _ _ _ (by rw [length_splice _ _ _ (by omega)]; omega)] at hc2
              have hf2 := hr2.free (O + q)
              have hr3 := hr2.set (O + q) (.int .u16 (v : Int))
              rw [secs_set, splice_set _ _ _ _ _ (by omega) (by omega), HV.out, zeros_set _ _ _ (by rw [HWL.out]; exact hlt) (by omega)] at hr3
              generalize (splice S O ((wordsL l).take q ++ List.replicate (P - q) 0)).getD (O + q) 0 = old at hc2
              have HR3 := Lib.hid hr3
              have hv' : (v : Int) < 65536 := by omega
              rw [← HV.out] at HR3
              clear hr2 hr3 hr hz hSl
              go_wp2_with fail
              refine ⟨⟨q + 1, by omega, by go_num, HR3.out, hm2.trans (Mods.set w2 b (O + q) _)⟩, by simp [intOf]; omega⟩
      · have hy' : ((y : Int) == 0) = false := by rw [beq_eq_false_iff_ne]; omega
        have hB2 : B = true := hB.out.trans (by rw [h2, decide_eq_false hy]; rfl)
        subst hB2
        obtain ⟨H, hH⟩ : ∃ H : Nat, H = (j + 2) / 2 := ⟨_, rfl⟩
        have h6' : ((j : Int) + 2) / 2 = H := by omega
        have h7' : (j : Int) / 2 + 1 = H := by omega
        have HTS : Hid (T = splice S O (wordsL l ++ List.replicate (P - H) 0)) := by
          show _ = _
          rw [hT.out, layS, ← hB.out, if_pos rfl, laidL, Int.toNat_natCast, ← HO.out, ← HP.out, HN.out, hH]
        have HTG : Hid (Good T) := by
          show Good T
          rw [hT.out]; exact good_lay h.2 _ _
        have HWL : Hid ((wordsL l).length = H) := by show _ = _; rw [words_len, HN.out, hH]
        have HSL : Hid (S.length = 1024) := h.2.1
        obtain ⟨w1, hcl, hr1, hm1⟩ := run_clear_part w 0 b S O P C h.1 (by omega) (by have := HSL.out; omega)
        have hH9 : H ≤ 524288 := by omega
        have hHP : H ≤ P := by omega
        have HH := Lib.hid hH
        clear hH
        clear h2 hB hT h4
        have kn := fun w => Lib.run_eql_slice_nil (P := Try.prog) w 55 50 (some ⟨b, O, none⟩) P C 0 0 Try.underlying55
        simp only [Option.isNone_some] at kn
        go_enter Try.func19, Try.ntmps19
        go_wp2_with fail
        refine (part_ok b k w hk).mono ?_
        rintro e w' ⟨rfl, rfl⟩
        rw [← HC.out, ← HO.out, ← HP.out]
        go_wp2_with fail
        rw [h6']
        clear h6' h7'
        clear hcl kn
        go_loopw [8, 9, 10, 57] (fun v8 v9 v10 v57 wr => ∃ q : Nat, q ≤ H ∧ v57 = .int .i64 q ∧ Row wr b 53 (secs .u16 (splice S O ((wordsL l).take q ++ List.replicate (P - q) 0))) ∧ Mods (fun g => g = b) w wr) (fun _ _ _ v57 _ => H - (intOf v57).toNat)
        case atStart => exact ⟨0, Nat.zero_le _, rfl, by simpa using hr1, hm1⟩
        case round =>
          obtain ⟨q, hq, rfl, hr, hm⟩ := hrel
          by_cases hqH : q = H
          · subst hqH
            go_wp2_with fail
            go_ret
            refine ⟨rfl, ⟨?_, HTG.out⟩, hm⟩
            rw [HTS.out]
            rw [List.take_of_length_le (by rw [HWL.out]; exact Nat.le_refl _)] at hr
            exact hr
          · have hlt : q < H := by omega
            have hlt' : (q : Int) < H := by omega
            have hq9 : (2 : Int) * (q : Int) ≤ 1048576 := by omega
            have hg := get_any _ _ c l wr (2 * (q : Int)) 2 (hl.mods hm (hne (by have h2 := HH.out; omega))) (by omega)
            rw [show (2 : Int) * (q : Int) = ((2 * q : Nat) : Int) by omega, get2 l q (by have h1 := HN.out; have h2 := HH.out; omega)] at hg
            have hv := words_lt l q
            obtain ⟨v, hv0⟩ : ∃ v, v = (wordsL l).getD q 0 := ⟨_, rfl⟩
            obtain ⟨E, hE0⟩ : ∃ E, E = getE l ((2 * q : Nat) : Int) 2 := ⟨_, rfl⟩
            rw [← hv0, ← hE0] at hg
            rw [← hv0] at hv
            have HG := Lib.hid hg
            have HV := Lib.hid hv0
            clear hg hv0 hE0
            go_wp2_with fail
            rw [show (2 : Int) * (q : Int) = ((2 * q : Nat) : Int) by omega]
            refine HG.out.mono ?_
            rintro e w2 ⟨rfl, hb2⟩
            have hr2 := hr.after hb2
            have hm2 := hm.trans (Mods.fresh hb2 _)
            have hz : ((wordsL l).take q ++ List.replicate (P - q) 0).length = P := by rw [List.length_append, List.length_take, List.length_replicate, HWL.out]; omega
            have hc2 := hr2.cell (O + q)
            have hSl := HSL.out
            rw [secs_get _ _ _ (by rw [length_splice _ _ _ (by omega)]; omega)] at hc2
            have hf2 := hr2.free (O + q)
            have hr3 := hr2.set (O + q) (.int .u16 (v : Int))
            rw [secs_set, splice_set _ _ _ _ _ (by omega) (by omega), HV.out, zeros_set _ _ _ (by rw [HWL.out]; exact hlt) (by omega)] at hr3
            generalize (splice S O ((wordsL l).take q ++ List.replicate (P - q) 0)).getD (O + q) 0 = old at hc2
            have HR3 := Lib.hid hr3
            have hv' : (v : Int) < 65536 := by omega
            rw [← HV.out] at HR3
            clear hr2 hr3 hr hz hSl
            go_wp2_with fail
            refine ⟨⟨q + 1, by omega, by go_num, HR3.out, hm2.trans (Mods.set w2 b (O + q) _)⟩, by simp [intOf]; omega⟩
end Go.Proofs.Ytljbpflcnicaiaa
