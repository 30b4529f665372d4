/-
  PagesBack, walked.
-/
import Derived.Test.YtljbpflcnicaiaaPagL4
namespace Go.Proofs.Ytljbpflcnicaiaa
open Go.RowKit
set_option linter.unusedVariables false
set_option linter.unusedSimpArgs false

set_option maxRecDepth 100000 in
set_option maxHeartbeats 4000000 in
theorem pagesBack_walk (a : Option Addr) (n c : Nat) (l : List (Int × Int × Int × List UInt8)) (p : Int) (ab : Option Addr) (nb cb : Nat) (lb : List UInt8) (w : World) (hl : SlOf VOp 4 w (.slice a n c) l) (hlb : Sl w 1 (.slice ab nb cb) nb (bvs lb)) :
    Calls Try.prog 5 #[.slice a n c, .int .i64 p, .slice ab nb cb] w fun e w' => e = .returned (.bool true) ∧ Below w.heap.size w w' := by
  go_enter Try.func5, Try.ntmps5
  have hn := hl.len
  have hn2 := hn.2
  have HN := Lib.hid hn.1
  have hnb := hlb.len
  have HNB := Lib.hid hnb.1
  have hnb2 := hnb.2
  clear hn hnb
  go_wp2_with fail
  refine (vast_any a n c l w hl).mono ?_
  rintro e w1 ⟨B, rfl, HV, hb1⟩
  cases B with
  | true =>
    go_wp2_with fail
    refine (works_any w1).mono ?_
    rintro e wq ⟨rfl, hbq⟩
    go_wp2_with fail
    go_ret
    exact ⟨rfl, (hb1).trans (hbq.mono (hb1).size)⟩
  | false =>
  have HF : Hid (Few l) := HV.out rfl
  have hn200 : n ≤ 200 := by rw [HN.out]; exact HF.out.1
  clear HV
  by_cases hbig : 1024 < nb
  · have hbig' : (1024 : Int) < nb := by omega
    go_wp2_with fail
    refine (works_any w1).mono ?_
    rintro e wq ⟨rfl, hbq⟩
    go_wp2_with fail
    go_ret
    exact ⟨rfl, (hb1).trans (hbq.mono (hb1).size)⟩
  have hbig' : ¬ (1024 : Int) < nb := by omega
  go_wp2_with fail
  refine (new_h w1).mono ?_
  rintro e w2 ⟨rfl, hm2, hb2⟩
  have hB2 := hb1.trans (hb2.mono hb1.size)
  obtain ⟨b, hb⟩ : ∃ b, b = w1.heap.size := ⟨_, rfl⟩
  rw [← hb] at hm2 ⊢
  have hbw : w.heap.size ≤ b := by rw [hb]; exact hb1.size
  clear hb hb2
  go_wp2_with fail
  go_loopw [8] (fun v8 wr => ∃ (k : Nat) (S : List Nat), k ≤ n ∧ v8 = .int .i64 k ∧ PM wr b S ∧ Below w.heap.size w wr) (fun v8 _ => n - (intOf v8).toNat)
  case atStart => exact ⟨0, _, Nat.zero_le _, rfl, hm2, hB2⟩
  case round =>
    clear hm2 hB2
    obtain ⟨k, S, hk, rfl, hm, hB⟩ := hrel
    by_cases hkn : k = n
    rotate_left
    · have hlt : k < n := by omega
      have hlt' : (k : Int) < n := by omega
      obtain ⟨b7, o7, av, cv, m, K, x, y, r, rfl, hri, hrm, hop, hc0, hc1, hc2, hc3⟩ := op_at (hl.below stabOp hB) k hlt
      have hm1024 : m ≤ 1024 := by have := HF.out.2 k K x y r hri; omega
      clear hri hrm
      go_wp2_with fail
      refine (does_h b S K x y av m cv r wr hm hop hm1024).mono ?_
      rintro e w3 ⟨B, T, rfl, HBT, hm3, hg3⟩
      clear hc0 hc1 hc2 hc3 hop
      go_wp2_with fail
      exact ⟨⟨k + 1, T, by omega, by go_num, hm3, below_mods hB hg3 (fun g e => by omega) hB.size⟩, by simp [intOf]; omega⟩
    subst hkn
    clear HF HN hn200 hn2 hl
    have hbl := hm.lt
    have HS : Hid (Good S) := hm.2
    go_wp2_with fail
    refine (new_h wr).mono ?_
    rintro e w4 ⟨rfl, hd4, hb4⟩
    have hm4 := hm.below hb4
    have hB4 := hB.trans (hb4.mono hB.size)
    obtain ⟨d, hd⟩ : ∃ d, d = wr.heap.size := ⟨_, rfl⟩
    rw [← hd] at hd4 hbl ⊢
    have hdw : w.heap.size ≤ d := by rw [hd]; exact hB.size
    rw [← mix_nine HS.out] at hd4
    clear hd hb4 hm hB
    go_wp2_with fail
    go_loopw [10] (fun v10 wr => ∃ i : Nat, i ≤ 9 ∧ v10 = .int .i64 ((i : Int) - 1) ∧ PM wr b S ∧ PM wr d (mixS S i) ∧ Below w.heap.size w wr) (fun v10 _ => (intOf v10 + 1).toNat)
    case atStart => exact ⟨9, Nat.le_refl _, rfl, hm4, hd4, hB4⟩
    case round =>
      clear hm4 hd4 hB4
      obtain ⟨i, hi, rfl, hm, hW, hB⟩ := hrel
      cases i with
      | succ i =>
        have hi' : (0 : Int) ≤ (i : Int) := by omega
        have hi9 : i < 9 := by omega
        have hlp := lay_part HS.out i hi9
        obtain ⟨Q, hQ⟩ : ∃ Q, Q = partB S (i : Int) := ⟨_, rfl⟩
        have HT : Hid (mixS S i = layS (mixS S (i + 1)) (i : Int) Q) := by show _ = _; rw [hQ]; exact (mix_step HS.out i hi9).symm
        have HB : Hid (true = layIs (i : Int) Q) := by show _ = _; rw [hQ]; exact hlp.1.symm
        have hQl : Q.length ≤ 1048576 := by
          have h1 := hlp.1
          rw [← hQ] at h1
          simp only [layIs, Bool.and_eq_true, decide_eq_true_eq, Int.toNat_natCast] at h1
          have := (partN_le i).2
          omega
        have HQ := Lib.hid hQ
        clear hlp hQ
        go_wp2_with fail
        refine (part_p b S (i : Int) wr hm Q HQ).mono ?_
        rintro e w6 ⟨v6, rfl, ho6, hb6⟩
        obtain ⟨a6, c6, rfl⟩ := ho6.form
        have hdl := hW.lt
        have hm6 := hm.below hb6
        have hW6 := hW.below hb6
        have hB6 := hB.trans (hb6.mono hB.size)
        go_wp2_with fail
        refine (lay_p d (mixS S (i + 1)) (i : Int) a6 _ c6 Q w6 hW6 ho6.sl (fun _ g hg e => by have := ho6.lt g hg; omega) hQl true HB (mixS S i) HT).mono ?_
        rintro e w7 ⟨rfl, hW7, hg7⟩
        have hm7 := hm6.mods hg7 (by omega)
        have hB7 := below_mods hB6 hg7 (fun g e => by omega) hB6.size
        go_wp2_with fail
        exact ⟨⟨i, by omega, by go_num, hm7, hW7, hB7⟩, by simp [intOf]⟩
      | zero =>
        rw [mix_zero] at hW
        obtain ⟨L, hL⟩ : ∃ L, L = selG S Int.ofNat 1024 := ⟨_, rfl⟩
        obtain ⟨Q, hQ⟩ : ∃ Q, Q = selG S (fun i => ((S.getD i 0 : Nat) : Int)) 1024 := ⟨_, rfl⟩
        have HL := Lib.hid hL
        have HQ := Lib.hid hQ
        clear hL hQ
        go_wp2_with fail
        refine (pages_p b S wr hm L HL _ (Lib.hid rfl)).mono ?_
        rintro e w4 ⟨v4, rfl, ho4, hb4⟩
        obtain ⟨a4, c4, rfl⟩ := ho4.form
        have hm4 := hm.below hb4
        have hW4 := hW.below hb4
        have hB4 := hB.trans (hb4.mono hB.size)
        go_wp2_with fail
        refine (pages_p d S w4 hW4 L HL _ (Lib.hid rfl)).mono ?_
        rintro e w5 ⟨v5, rfl, ho5, hb5⟩
        obtain ⟨a5, c5, rfl⟩ := ho5.form
        have hm5 := hm4.below hb5
        have hW5 := hW4.below hb5
        have hB5 := hB4.trans (hb5.mono hB4.size)
        go_wp2_with fail
        refine (same_h a4 _ c4 a5 _ c5 L L w5 (ho4.below hb5).sl ho5.sl).mono ?_
        rintro e w6 ⟨R, rfl, HR, hb6⟩
        obtain rfl : R = true := by rw [HR.out]; simp
        have hm6 := hm5.below hb6
        have hW6 := hW5.below hb6
        have hB6 := hB5.trans (hb6.mono hB5.size)
        clear ho4 ho5
        go_wp2_with fail
        refine (sectors_p b S w6 hm6 Q HQ _ (Lib.hid rfl)).mono ?_
        rintro e w7 ⟨v7, rfl, ho7, hb7⟩
        obtain ⟨a7, c7, rfl⟩ := ho7.form
        have hm7 := hm6.below hb7
        have hW7 := hW6.below hb7
        have hB7 := hB6.trans (hb7.mono hB6.size)
        go_wp2_with fail
        refine (sectors_p d S w7 hW7 Q HQ _ (Lib.hid rfl)).mono ?_
        rintro e w8 ⟨v8, rfl, ho8, hb8⟩
        obtain ⟨a8, c8, rfl⟩ := ho8.form
        have hm8 := hm7.below hb8
        have hW8 := hW7.below hb8
        have hB8 := hB7.trans (hb8.mono hB7.size)
        go_wp2_with fail
        refine (same_h a7 _ c7 a8 _ c8 Q Q w8 (ho7.below hb8).sl ho8.sl).mono ?_
        rintro e w9 ⟨R, rfl, HR, hb9⟩
        obtain rfl : R = true := by rw [HR.out]; simp
        have hm9 := hm8.below hb9
        have hW9 := hW8.below hb9
        have hB9 := hB8.trans (hb9.mono hB8.size)
        clear ho7 ho8
        go_wp2_with fail
        refine (turned_p b d S S w9 hm9 hW9 [] (Lib.hid (turned_self S).symm) 0 (Lib.hid rfl)).mono ?_
        rintro e wA ⟨vA, rfl, hoA, hbA⟩
        obtain ⟨aA, cA, rfl⟩ := hoA.form
        have hmA := hm9.below hbA
        have hWA := hW9.below hbA
        have hBA := hB9.trans (hbA.mono hB9.size)
        have hdA := hWA.lt
        clear hm hW hB hm4 hW4 hB4 hm5 hW5 hB5 hm6 hW6 hB6 hm7 hW7 hB7 hm8 hW8 hB8 hm9 hW9 hB9 hoA hb4 hb5 hb6 hb7 hb8 hb9
        go_wp2_with fail
        obtain ⟨B, hBB⟩ : ∃ B, B = layIs p lb := ⟨_, rfl⟩
        obtain ⟨T, hTT⟩ : ∃ T, T = layS S p lb := ⟨_, rfl⟩
        have HB := Lib.hid hBB
        have HT := Lib.hid hTT
        clear hBB hTT
        have hlbA := hlb.below hBA
        refine (lay_p d S p ab nb cb lb wA hWA hlbA (fun h0 g hg e => by
          obtain ⟨b', o', e1, e2, e3⟩ := hlb.addr (by omega)
          subst e1
          simp [Value.ownBlock] at hg
          omega) (by omega) B HB T HT).mono ?_
        rintro e wB ⟨rfl, hWB, hgB⟩
        have hmB := hmA.mods hgB (by omega)
        have hBB := below_mods hBA hgB (fun g e => by omega) hBA.size
        clear hWA hmA
        cases B with
        | false =>
          have HTS : Hid (T = S) := by show _ = _; rw [HT.out, layS, ← HB.out]; rfl
          rw [HTS.out] at hWB
          go_wp2_with fail
          refine (turned_p b d S S wB hmB hWB [] (Lib.hid (turned_self S).symm) 0 (Lib.hid rfl)).mono ?_
          rintro e wC ⟨vC, rfl, hoC, hbC⟩
          obtain ⟨aC, cC, rfl⟩ := hoC.form
          have hBC := hBB.trans (hbC.mono hBB.size)
          go_wp2_with fail
          refine (works_any wC).mono ?_
          rintro e wq ⟨rfl, hbq⟩
          go_wp2_with fail
          go_ret
          exact ⟨rfl, (hBC).trans (hbq.mono (hBC).size)⟩
        | true =>
          obtain ⟨k9, hk9⟩ : ∃ k9 : Nat, p = k9 := by
            have := HB.out
            simp only [layIs, Bool.and_eq_true, decide_eq_true_eq, Bool.true_eq] at this
            exact ⟨p.toNat, by omega⟩
          subst hk9
          have HLT : Hid (T.length = 1024 ∧ (turnedL S T = [] ∨ turnedL S T = [(k9 : Int)]) ∧ partB T (k9 : Int) = lb) := by
            refine ⟨hWB.2.1, ?_, ?_⟩
            · rw [HT.out]; exact lay_turned HS.out k9 lb HB.out.symm
            · rw [HT.out]; exact lay_told HS.out k9 lb HB.out.symm
          obtain ⟨Lt, hLt⟩ : ∃ Lt, Lt = turnedL S T := ⟨_, rfl⟩
          have HLT2 : Hid ((Lt = [] ∨ Lt = [(k9 : Int)])) := by show _ ∨ _; rw [hLt]; exact HLT.out.2.1
          have HLt := Lib.hid hLt
          have HQ2 : Hid (lb = partB T (k9 : Int)) := HLT.out.2.2.symm
          obtain ⟨Nt, hNt⟩ : ∃ Nt, Nt = Lt.length := ⟨_, rfl⟩
          have HNt := Lib.hid hNt
          clear hLt hNt
          go_wp2_with fail
          refine (turned_p b d S T wB hmB hWB Lt HLt Nt HNt).mono ?_
          rintro e wC ⟨vC, rfl, hoC, hbC⟩
          obtain ⟨aC, cC, rfl⟩ := hoC.form
          have hBC := hBB.trans (hbC.mono hBB.size)
          have hWC := hWB.below hbC
          have hlbC := hlb.below hBC
          have k1 := conv_later (w := wC.drew) hlbC.drew
          clear hmB hWB
          go_wp2_with fail
          refine wp_region_idx Rb Rb_refl Rb_trans [(0,0),(0,1),(0,4),(0,5),(1,2),(0,3),(0,6),(0,7),(0,8),(0,9),(0,10),(0,11),(0,12),(0,13),(0,14),(0,15),(0,16),(0,17),(0,18),(0,19),(0,20),(0,21),(0,22),(0,23),(0,24),(1,25),(0,26),(0,27)] (by kernel_rfl) (by kernel_rfl) (by kernel_rfl) ?_
          simp only [pickO, List.getD_cons_succ, List.getD_cons_zero]
          refine wpCan_seg 4 (by kernel_rfl) ?_
          simp only [List.take_succ_cons, List.take_zero, List.drop_succ_cons, List.drop_zero, List.map_cons, List.map_nil]
          iterate 4 (go_big_quiet_step (fail))
          refine wpQuiet_nil ?_
          clear k1
          refine wpCan_list (k := 0) (fun K hK => ?_) (fun _ => Rb_refl _)
          go_wp2_with fail
          refine (part_p d T (k9 : Int) _ (hWC.below ((Below.refl _ _).drew)) lb HQ2).mono ?_
          rintro e wD ⟨vD, rfl, hoD, hbD⟩
          obtain ⟨aD, cD, rfl⟩ := hoD.form
          go_wp2_with fail
          refine hK _ _ (fun _ => hbD) ?_
          clear hK K
          have k2 := conv_later (w := wD) hoD.sl
          have hLD := hoC.sl.drew.below hbD
          have hBD := hBC.drew.trans (hbD.mono hBC.size)
          obtain ⟨Nl, hNl⟩ : ∃ Nl, Nl = lb.length := ⟨_, rfl⟩
          obtain ⟨Sb, hSb⟩ : ∃ Sb, Sb = str lb := ⟨_, rfl⟩
          rw [← hNl, ← hSb] at k2 ⊢
          clear hNl hSb
          have hLen := hLD.intLen
          rcases HLT2.out with h0 | h0
          · have hN0 : Nt = 0 := by rw [HNt.out, h0]; rfl
            rw [hN0] at hLD
            rw [hN0]
            refine wpCan_seg 20 (by kernel_rfl) ?_
            simp only [List.take_succ_cons, List.take_zero, List.drop_succ_cons, List.drop_zero, List.map_cons, List.map_nil]
            clear hLen h0 hN0 hLD hoC
            iterate 20 (go_big_quiet_step (fail))
            refine wpQuiet_nil ?_
            clear k2
            refine wpCan_list (k := 0) (fun K hK => ?_) (fun _ => Rb_refl _)
            go_wp2_with fail
            refine (works_any wD).mono ?_
            rintro e wE ⟨rfl, hbE⟩
            go_wp2_with fail
            refine hK _ _ (fun _ => hbE) ?_
            clear hK K
            refine wpCan_seg 2 (by kernel_rfl) ?_
            simp only [List.take_succ_cons, List.take_zero, List.drop_succ_cons, List.drop_zero, List.map_cons, List.map_nil]
            iterate 2 (go_big_quiet_step (fail))
            refine wpQuiet_nil ?_
            unfold wpCan
            go_wp2_with fail
            go_ret
            exact ⟨rfl, hBD.trans (hbE.mono hBD.size)⟩
          · have hN0 : Nt = 1 := by rw [HNt.out, h0]; rfl
            rw [hN0] at hLD
            rw [hN0]
            obtain ⟨b9, o9, e9, hc9⟩ := hLD.intAt (show 0 < 1 by omega)
            rw [h0] at hc9
            subst e9
            replace hc9 : wD.cell? ⟨b9, o9, none⟩ = some (.int .i64 (k9 : Int)) := hc9
            have q9 : ∀ x : Later Rb wD, x.w.cell? ⟨b9, o9, none⟩ = some (.int .i64 (k9 : Int)) := fun x => (Below.cell (p := ⟨b9, o9, none⟩) x.later (lt_of_cell hc9)).trans hc9
            refine wpCan_seg 20 (by kernel_rfl) ?_
            simp only [List.take_succ_cons, List.take_zero, List.drop_succ_cons, List.drop_zero, List.map_cons, List.map_nil]
            clear hLen h0 hN0 hLD hoC hc9
            iterate 20 (go_big_quiet_step (fail))
            clear q9
            refine wpQuiet_nil ?_
            clear k2
            refine wpCan_list (k := 0) (fun K hK => ?_) (fun _ => Rb_refl _)
            go_wp2_with fail
            refine (works_any wD).mono ?_
            rintro e wE ⟨rfl, hbE⟩
            go_wp2_with fail
            refine hK _ _ (fun _ => hbE) ?_
            clear hK K
            refine wpCan_seg 2 (by kernel_rfl) ?_
            simp only [List.take_succ_cons, List.take_zero, List.drop_succ_cons, List.drop_zero, List.map_cons, List.map_nil]
            iterate 2 (go_big_quiet_step (fail))
            refine wpQuiet_nil ?_
            unfold wpCan
            go_wp2_with fail
            go_ret
            exact ⟨rfl, hBD.trans (hbE.mono hBD.size)⟩
theorem opensB : Opens Try.prog 5 1 VByte := opens_byte Try.underlying5 (by kernel_rfl)
theorem pagesBack_go (a : Option Addr) (n c : Nat) (l : List (Int × Int × Int × List UInt8)) (p : Int) (ab : Option Addr) (nb cb : Nat) (lb : List UInt8) (w : World) (hl : SlOf VOp 4 w (.slice a n c) l) (hb : SlOf VByte 1 w (.slice ab nb cb) lb) :
    Calls Try.prog 5 #[.slice a n c, .int .i64 p, .slice ab nb cb] w fun e w' => e = .returned (.bool true) ∧ Below w.heap.size w w' := by
  have hn := hb.len
  obtain rfl : nb = lb.length := hn.1
  exact pagesBack_walk a n c l p ab _ cb lb w hl hb.bytes
end Go.Proofs.Ytljbpflcnicaiaa
