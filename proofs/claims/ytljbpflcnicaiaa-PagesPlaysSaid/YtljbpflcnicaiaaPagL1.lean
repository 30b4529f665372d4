/-
  PagesOne, walked.
-/
import Derived.Test.YtljbpflcnicaiaaPagK
namespace Go.Proofs.Ytljbpflcnicaiaa
open Go.RowKit
set_option linter.unusedVariables false
set_option linter.unusedSimpArgs false

theorem does_h (b : Nat) (S : List Nat) (K p q : Int) (av : Option Addr) (n cv : Nat) (l : List UInt8) (w : World) (h : PM w b S) (ho : OpIs w K p q av n cv l) (hsz : n ≤ 1024) :
    Calls Try.prog 12 #[.pointer (some ⟨b, 0, none⟩), .agg #[.int .i64 K, .int .i64 p, .int .i64 q, .slice av n cv]] w fun e w' => ∃ (B : Bool) (T : List Nat), e = .returned (.bool B) ∧ Hid (B = doIs S K p q l ∧ T = doS S K p q l) ∧ PM w' b T ∧ Mods (fun g => g = b) w w' :=
  (does_p b S K p q av n cv l w h ho hsz _ (Lib.hid rfl) _ (Lib.hid rfl)).mono fun e w' ⟨he, h1, h2⟩ => ⟨_, _, he, Lib.hid ⟨rfl, rfl⟩, h1, h2⟩
theorem get_other (S : List Nat) (k s : Nat) (q : Int) (h : q ≠ k) : getS (S.set k s) q = getS S q ∧ hasS (S.set k s) q = hasS S q := by
  have e : 0 ≤ q → (S.set k s).getD q.toNat 0 = S.getD q.toNat 0 := fun h0 => by
    rw [List.getD_eq_getElem?_getD, List.getElem?_set_ne (by omega), ← List.getD_eq_getElem?_getD]
  have e2 : hasS (S.set k s) q = hasS S q := by
    unfold hasS
    by_cases h0 : 0 ≤ q
    · rw [e h0]
    · rw [decide_eq_false h0]; rfl
  refine ⟨?_, e2⟩
  unfold getS
  rw [e2]
  by_cases h0 : 0 ≤ q
  · rw [e h0]
  · have : hasS S q = false := by rw [hasS, decide_eq_false h0]; rfl
    rw [this]; rfl
theorem get_this (S : List Nat) (hS : Good S) (k s : Nat) (hk : k < 1024) : getS (S.set k s) (k : Int) = s ∧ hasS (S.set k s) (k : Int) = decide (0 < s) := by
  have e : (S.set k s).getD k 0 = s := by
    rw [List.getD_eq_getElem?_getD, List.getElem?_set_self (by rw [hS.1]; exact hk)]; rfl
  have e2 : hasS (S.set k s) (k : Int) = decide (0 < s) := by
    rw [hasS, Int.toNat_natCast, e, decide_eq_true (by omega : (0 : Int) ≤ k), decide_eq_true (by omega : (k : Int) < 1024)]; rfl
  refine ⟨?_, e2⟩
  rw [getS, e2, Int.toNat_natCast, e]
  by_cases h : 0 < s
  · rw [decide_eq_true h]; rfl
  · rw [decide_eq_false h]; simp; omega

set_option maxRecDepth 100000 in
set_option maxHeartbeats 4000000 in
theorem pagesOne_walk (a : Option Addr) (n c : Nat) (l : List (Int × Int × Int × List UInt8)) (p o s : Int) (w : World) (hl : SlOf VOp 4 w (.slice a n c) l) :
    Calls Try.prog 3 #[.slice a n c, .int .i64 p, .int .i64 o, .int .i64 s] w fun e w' => e = .returned (.bool true) ∧ Below w.heap.size w w' := by
  go_enter Try.func3, Try.ntmps3
  have hn := hl.len
  have hn2 := hn.2
  have HN := Lib.hid hn.1
  clear hn
  go_wp2_with fail
  refine (vast_any a n c l w hl).mono ?_
  rintro e w1 ⟨B, rfl, HV, hb1⟩
  cases B with
  | true =>
    go_wp2_with fail
    refine (works_any w1).mono ?_
    rintro e w2 ⟨rfl, hb2⟩
    go_wp2_with fail
    go_ret
    exact ⟨rfl, hb1.trans (hb2.mono hb1.size)⟩
  | false =>
  have HF : Hid (Few l) := HV.out rfl
  have hn200 : n ≤ 200 := by rw [HN.out]; exact HF.out.1
  clear HV
  go_wp2_with fail
  refine (new_h w1).mono ?_
  rintro e w2 ⟨rfl, hm2, hb2⟩
  have hB2 := hb1.trans (hb2.mono hb1.size)
  obtain ⟨b, hb⟩ : ∃ b, b = w1.heap.size := ⟨_, rfl⟩
  rw [← hb] at hm2 ⊢
  have hbw : w.heap.size ≤ b := by rw [hb]; exact hb1.size
  clear hb hb2
  go_wp2_with fail
  go_loopw [10] (fun v10 wr => ∃ (k : Nat) (S : List Nat), k ≤ n ∧ v10 = .int .i64 k ∧ PM wr b S ∧ Below w.heap.size w wr) (fun v10 _ => n - (intOf v10).toNat)
  case atStart => exact ⟨0, _, Nat.zero_le _, rfl, hm2, hB2⟩
  case round =>
    clear hm2 hB2
    obtain ⟨k, S, hk, rfl, hm, hB⟩ := hrel
    by_cases hkn : k = n
    · subst hkn
      have hbl := hm.lt
      go_wp2_with fail
      refine (copy_h b S wr hm).mono ?_
      rintro e w4 ⟨rfl, hW4, hb4⟩
      have hm4 := hm.below hb4
      have hB4 := hB.trans (hb4.mono hB.size)
      obtain ⟨d, hd⟩ : ∃ d, d = wr.heap.size := ⟨_, rfl⟩
      rw [← hd] at hW4 hbl ⊢
      have hdw : w.heap.size ≤ d := by rw [hd]; exact hB.size
      clear hd hb4 hm hB
      obtain ⟨V, hV⟩ : ∃ V, V = getS S o := ⟨_, rfl⟩
      obtain ⟨B0, hB0⟩ : ∃ B0, B0 = hasS S o := ⟨_, rfl⟩
      have HV := Lib.hid hV
      have HB0 := Lib.hid hB0
      clear hV hB0
      go_wp2_with fail
      refine (get_p b S o w4 hm4 B0 HB0 V HV).mono ?_
      rintro e w5 ⟨rfl, rfl⟩
      rcases set_cases p s with ⟨h1, h2⟩ | ⟨h0, h1, h2⟩ | ⟨h0, h1, h3, h2⟩ | ⟨h0, h1, h3, h4, h2⟩ | ⟨k9, s9, rfl, rfl, h1, h3, h4, h2⟩
      · have hx : ¬ 0 ≤ p := by omega
        have HOT : Hid (p ≠ o → B0 = hasS S o ∧ V = getS S o) := fun _ => ⟨HB0.out, HV.out⟩
        have hTS : Hid (setS S p s = S) := by show _ = _; rw [setS, h2]; rfl
        have HF2 := Lib.hid h2
        clear h2
        go_wp2_with fail
        refine (set_p b S p s w4 hm4 false (Lib.hid HF2.out.symm) S (Lib.hid hTS.out.symm)).mono ?_
        rintro e w5 ⟨rfl, hm5, hg5⟩
        have hW5 := hW4.mods hg5 (by omega)
        have hB5 := below_mods hB4 hg5 (fun g e => by omega) hB4.size
        by_cases hpo : p = o
        · have hpo' : (p != o) = false := by rw [hpo]; simp
          clear hpo
          go_wp2_with fail
          refine (get_p d S o w5 hW5 B0 HB0 V HV).mono ?_
          rintro e w9 ⟨rfl, rfl⟩
          go_wp2_with fail
          refine (works_any w5).mono ?_
          rintro e w9 ⟨rfl, hb9⟩
          go_wp2_with fail
          go_ret
          exact ⟨rfl, (hB5).trans (hb9.mono (hB5).size)⟩
        · have hpo' : (p != o) = true := by rw [bne_iff_ne]; exact hpo
          have HO := Lib.hid (HOT.out hpo)
          clear hpo
          go_wp2_with fail
          refine (get_p b S o w5 hm5 B0 (Lib.hid HO.out.1) V (Lib.hid HO.out.2)).mono ?_
          rintro e w9 ⟨rfl, rfl⟩
          go_wp2_with fail
          refine (get_p d S o w5 hW5 B0 HB0 V HV).mono ?_
          rintro e w9 ⟨rfl, rfl⟩
          go_wp2_with fail
          refine (works_any w5).mono ?_
          rintro e w9 ⟨rfl, hb9⟩
          go_wp2_with fail
          go_ret
          exact ⟨rfl, (hB5).trans (hb9.mono (hB5).size)⟩
      · have hx : 0 ≤ p := by omega
        have hx2 : ¬ p < 1024 := by omega
        have HOT : Hid (p ≠ o → B0 = hasS S o ∧ V = getS S o) := fun _ => ⟨HB0.out, HV.out⟩
        have hTS : Hid (setS S p s = S) := by show _ = _; rw [setS, h2]; rfl
        have HF2 := Lib.hid h2
        clear h2
        go_wp2_with fail
        refine (set_p b S p s w4 hm4 false (Lib.hid HF2.out.symm) S (Lib.hid hTS.out.symm)).mono ?_
        rintro e w5 ⟨rfl, hm5, hg5⟩
        have hW5 := hW4.mods hg5 (by omega)
        have hB5 := below_mods hB4 hg5 (fun g e => by omega) hB4.size
        by_cases hpo : p = o
        · have hpo' : (p != o) = false := by rw [hpo]; simp
          clear hpo
          go_wp2_with fail
          refine (get_p d S o w5 hW5 B0 HB0 V HV).mono ?_
          rintro e w9 ⟨rfl, rfl⟩
          go_wp2_with fail
          refine (works_any w5).mono ?_
          rintro e w9 ⟨rfl, hb9⟩
          go_wp2_with fail
          go_ret
          exact ⟨rfl, (hB5).trans (hb9.mono (hB5).size)⟩
        · have hpo' : (p != o) = true := by rw [bne_iff_ne]; exact hpo
          have HO := Lib.hid (HOT.out hpo)
          clear hpo
          go_wp2_with fail
          refine (get_p b S o w5 hm5 B0 (Lib.hid HO.out.1) V (Lib.hid HO.out.2)).mono ?_
          rintro e w9 ⟨rfl, rfl⟩
          go_wp2_with fail
          refine (get_p d S o w5 hW5 B0 HB0 V HV).mono ?_
          rintro e w9 ⟨rfl, rfl⟩
          go_wp2_with fail
          refine (works_any w5).mono ?_
          rintro e w9 ⟨rfl, hb9⟩
          go_wp2_with fail
          go_ret
          exact ⟨rfl, (hB5).trans (hb9.mono (hB5).size)⟩
      · have hx : 0 ≤ p := by omega
        have hx2 : p < 1024 := by omega
        have hx3 : ¬ 1 ≤ s := by omega
        have HOT : Hid (p ≠ o → B0 = hasS S o ∧ V = getS S o) := fun _ => ⟨HB0.out, HV.out⟩
        have hTS : Hid (setS S p s = S) := by show _ = _; rw [setS, h2]; rfl
        have HF2 := Lib.hid h2
        clear h2
        go_wp2_with fail
        refine (set_p b S p s w4 hm4 false (Lib.hid HF2.out.symm) S (Lib.hid hTS.out.symm)).mono ?_
        rintro e w5 ⟨rfl, hm5, hg5⟩
        have hW5 := hW4.mods hg5 (by omega)
        have hB5 := below_mods hB4 hg5 (fun g e => by omega) hB4.size
        by_cases hpo : p = o
        · have hpo' : (p != o) = false := by rw [hpo]; simp
          clear hpo
          go_wp2_with fail
          refine (get_p d S o w5 hW5 B0 HB0 V HV).mono ?_
          rintro e w9 ⟨rfl, rfl⟩
          go_wp2_with fail
          refine (works_any w5).mono ?_
          rintro e w9 ⟨rfl, hb9⟩
          go_wp2_with fail
          go_ret
          exact ⟨rfl, (hB5).trans (hb9.mono (hB5).size)⟩
        · have hpo' : (p != o) = true := by rw [bne_iff_ne]; exact hpo
          have HO := Lib.hid (HOT.out hpo)
          clear hpo
          go_wp2_with fail
          refine (get_p b S o w5 hm5 B0 (Lib.hid HO.out.1) V (Lib.hid HO.out.2)).mono ?_
          rintro e w9 ⟨rfl, rfl⟩
          go_wp2_with fail
          refine (get_p d S o w5 hW5 B0 HB0 V HV).mono ?_
          rintro e w9 ⟨rfl, rfl⟩
          go_wp2_with fail
          refine (works_any w5).mono ?_
          rintro e w9 ⟨rfl, hb9⟩
          go_wp2_with fail
          go_ret
          exact ⟨rfl, (hB5).trans (hb9.mono (hB5).size)⟩
      · have hx : 0 ≤ p := by omega
        have hx2 : p < 1024 := by omega
        have hx3 : 1 ≤ s := by omega
        have hx4 : ¬ s ≤ 65535 := by omega
        have HOT : Hid (p ≠ o → B0 = hasS S o ∧ V = getS S o) := fun _ => ⟨HB0.out, HV.out⟩
        have hTS : Hid (setS S p s = S) := by show _ = _; rw [setS, h2]; rfl
        have HF2 := Lib.hid h2
        clear h2
        go_wp2_with fail
        refine (set_p b S p s w4 hm4 false (Lib.hid HF2.out.symm) S (Lib.hid hTS.out.symm)).mono ?_
        rintro e w5 ⟨rfl, hm5, hg5⟩
        have hW5 := hW4.mods hg5 (by omega)
        have hB5 := below_mods hB4 hg5 (fun g e => by omega) hB4.size
        by_cases hpo : p = o
        · have hpo' : (p != o) = false := by rw [hpo]; simp
          clear hpo
          go_wp2_with fail
          refine (get_p d S o w5 hW5 B0 HB0 V HV).mono ?_
          rintro e w9 ⟨rfl, rfl⟩
          go_wp2_with fail
          refine (works_any w5).mono ?_
          rintro e w9 ⟨rfl, hb9⟩
          go_wp2_with fail
          go_ret
          exact ⟨rfl, (hB5).trans (hb9.mono (hB5).size)⟩
        · have hpo' : (p != o) = true := by rw [bne_iff_ne]; exact hpo
          have HO := Lib.hid (HOT.out hpo)
          clear hpo
          go_wp2_with fail
          refine (get_p b S o w5 hm5 B0 (Lib.hid HO.out.1) V (Lib.hid HO.out.2)).mono ?_
          rintro e w9 ⟨rfl, rfl⟩
          go_wp2_with fail
          refine (get_p d S o w5 hW5 B0 HB0 V HV).mono ?_
          rintro e w9 ⟨rfl, rfl⟩
          go_wp2_with fail
          refine (works_any w5).mono ?_
          rintro e w9 ⟨rfl, hb9⟩
          go_wp2_with fail
          go_ret
          exact ⟨rfl, (hB5).trans (hb9.mono (hB5).size)⟩
      · have hx : (0 : Int) ≤ (k9 : Int) := by omega
        have hx2 : (k9 : Int) < 1024 := by omega
        have hx3 : (1 : Int) ≤ (s9 : Int) := by omega
        have hx4 : (s9 : Int) ≤ 65535 := by omega
        obtain ⟨T, hT⟩ : ∃ T, T = S.set k9 s9 := ⟨_, rfl⟩
        obtain ⟨U, hU⟩ : ∃ U, U = T.set k9 0 := ⟨_, rfl⟩
        have HT : Hid (T = setS S (k9 : Int) (s9 : Int)) := by show _ = _; rw [setS, h2, hT]; rfl
        have hgT := get_this S hm4.2 k9 s9 h1
        rw [← hT] at hgT
        have hGT : Good T := by rw [hT]; exact hm4.2.set _ _ (by omega)
        have HGT : Hid (true = hasS T (k9 : Int) ∧ (s9 : Int) = getS T (k9 : Int)) := ⟨by rw [hgT.2, decide_eq_true (by omega)], hgT.1.symm⟩
        have HU : Hid (U = clearS T (k9 : Int)) := by show _ = _; rw [clearS, ← HGT.out.1, if_pos rfl, hU]; rfl
        have hgU := get_this T hGT k9 0 h1
        rw [← hU] at hgU
        have HGU : Hid (false = hasS U (k9 : Int)) := by rw [hgU.2]; rfl
        have HU2 : Hid (U = clearS U (k9 : Int)) := by show _ = _; rw [clearS, ← HGU.out]; rfl
        have HOT : Hid ((k9 : Int) ≠ o → B0 = hasS U o ∧ V = getS U o) := fun h => by
          have e1 := get_other S k9 s9 o (fun e => h e.symm)
          have e2 := get_other T k9 0 o (fun e => h e.symm)
          rw [← hT] at e1
          rw [← hU] at e2
          exact ⟨by rw [HB0.out, e2.2, e1.2], by rw [HV.out, e2.1, e1.1]⟩
        have HF2 := Lib.hid h2
        clear h2 hT hU hgT hgU hGT
        go_wp2_with fail
        refine (set_p b S (k9 : Int) (s9 : Int) w4 hm4 true (Lib.hid HF2.out.symm) T HT).mono ?_
        rintro e w5 ⟨rfl, hm5, hg5⟩
        have hW5 := hW4.mods hg5 (by omega)
        have hB5 := below_mods hB4 hg5 (fun g e => by omega) hB4.size
        go_wp2_with fail
        refine (get_p b T (k9 : Int) w5 hm5 true (Lib.hid HGT.out.1) (s9 : Int) (Lib.hid HGT.out.2)).mono ?_
        rintro e w6 ⟨rfl, rfl⟩
        go_wp2_with fail
        refine (clear_p b T (k9 : Int) w5 hm5 true (Lib.hid HGT.out.1) U HU).mono ?_
        rintro e w7 ⟨rfl, hm7, hg7⟩
        have hW7 := hW5.mods hg7 (by omega)
        have hB7 := below_mods hB5 hg7 (fun g e => by omega) hB5.size
        go_wp2_with fail
        refine (clear_p b U (k9 : Int) w7 hm7 false HGU U HU2).mono ?_
        rintro e w8 ⟨rfl, hm8, hg8⟩
        have hW8 := hW7.mods hg8 (by omega)
        have hB8 := below_mods hB7 hg8 (fun g e => by omega) hB7.size
        generalize (k9 : Int) = p at *
        by_cases hpo : p = o
        · have hpo' : (p != o) = false := by rw [hpo]; simp
          clear hpo
          go_wp2_with fail
          refine (get_p d S o w8 hW8 B0 HB0 V HV).mono ?_
          rintro e w9 ⟨rfl, rfl⟩
          go_wp2_with fail
          refine (works_any w8).mono ?_
          rintro e w9 ⟨rfl, hb9⟩
          go_wp2_with fail
          go_ret
          exact ⟨rfl, (hB8).trans (hb9.mono (hB8).size)⟩
        · have hpo' : (p != o) = true := by rw [bne_iff_ne]; exact hpo
          have HO := Lib.hid (HOT.out hpo)
          clear hpo
          go_wp2_with fail
          refine (get_p b U o w8 hm8 B0 (Lib.hid HO.out.1) V (Lib.hid HO.out.2)).mono ?_
          rintro e w9 ⟨rfl, rfl⟩
          go_wp2_with fail
          refine (get_p d S o w8 hW8 B0 HB0 V HV).mono ?_
          rintro e w9 ⟨rfl, rfl⟩
          go_wp2_with fail
          refine (works_any w8).mono ?_
          rintro e w9 ⟨rfl, hb9⟩
          go_wp2_with fail
          go_ret
          exact ⟨rfl, (hB8).trans (hb9.mono (hB8).size)⟩
    · have hlt : k < n := by omega
      have hlt' : (k : Int) < n := by omega
      obtain ⟨b7, o7, av, cv, m, K, x, y, r, rfl, hri, hrm, hop, hc0, hc1, hc2, hc3⟩ := op_at (hl.below stabOp hB) k hlt
      have hm1024 : m ≤ 1024 := by have := HF.out.2 k K x y r hri; omega
      clear hri hrm
      go_wp2_with fail
      refine (does_h b S K x y av m cv r wr hm hop hm1024).mono ?_
      rintro e w3 ⟨B, T, rfl, HBT, hm3, hg3⟩
      clear hc0 hc1 hc2 hc3 hop
      go_wp2_with fail
      exact ⟨⟨k + 1, T, by omega, by go_num, hm3, below_mods hB hg3 (fun g e => by omega) hB.size⟩, by simp [intOf]; omega⟩
end Go.Proofs.Ytljbpflcnicaiaa
