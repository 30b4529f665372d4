/-
  CacheDrops, walked. Conditions: the bytes read.
-/
import Derived.Test.YtchjfmgfoifbcaaChR
namespace Go.Proofs.Ytchjfmgfoifbcaa
open Go.RowKit
set_option linter.unusedVariables false
set_option linter.unusedSimpArgs false
set_option maxRecDepth 100000

set_option maxHeartbeats 8000000 in
theorem cacheDrops_walk (aA : Option Addr) (nA cA : Nat) (la : List UInt8) (aB : Option Addr) (nB cB : Nat) (lb : List UInt8) (out : Bool) (w : World) (hA : Sl w 1 (.slice aA nA cA) nA (bvs la)) (hB : Sl w 1 (.slice aB nB cB) nB (bvs lb)) :
    Calls Try.prog 5 #[.slice aA nA cA, .slice aB nB cB, .bool out] w fun e w' => e = .returned (.bool true) ∧ Below w.heap.size w w' := by
  have HNA := Lib.hid hA.len.1
  have HNB := Lib.hid hB.len.1
  have HSA := Lib.hid hA
  have HSB := Lib.hid hB
  clear hA hB
  by_cases hnA : 256 < nA
  · have h1 : (256 : Int) < nA := by omega
    go_enter Try.func5, Try.ntmps5
    have hb := Below.refl w.heap.size w
    go_wp2_with fail
    refine (works_any w).mono ?_
    rintro e wz ⟨rfl, hbz⟩
    go_wp2_with fail
    go_ret
    exact ⟨rfl, (hb).trans (hbz.mono (hb).size)⟩
  have h1 : ¬ (256 : Int) < nA := by omega
  by_cases hnB : 256 < nB
  · have h2 : (256 : Int) < nB := by omega
    go_enter Try.func5, Try.ntmps5
    have hb := Below.refl w.heap.size w
    go_wp2_with fail
    refine (works_any w).mono ?_
    rintro e wz ⟨rfl, hbz⟩
    go_wp2_with fail
    go_ret
    exact ⟨rfl, (hb).trans (hbz.mono (hb).size)⟩
  have h2 : ¬ (256 : Int) < nB := by omega
  have HLA : Hid (la.length ≤ 256) := Lib.hid (by rw [HNA.out]; omega)
  have HLB : Hid (lb.length ≤ 256) := Lib.hid (by rw [HNB.out]; omega)
  go_enter Try.func5, Try.ntmps5
  go_wp2_with fail
  refine (dnew_p 16 (by decide) 1 (by decide) w col0).mono ?_
  rintro e w1 ⟨bd, rfl, col1, k1, h1'⟩
  have K1 : Hid (St NZ col0 w col1 w1) := Lib.hid (k1.mono (fun _ h => h.elim))
  have H1 := Lib.hid h1'
  clear k1 h1'
  go_wp2_with fail
  refine (cnew_p 5 1 (by decide) col1 bd (newD 16) 3 w1 H1.out (by decide)).mono ?_
  rintro e w2 ⟨b, rfl, col2, k2, h2'⟩
  have K2 := Lib.hid (K1.out.trans (k2.mono (fun _ h => h.elim)))
  have H2 : Hid (CkAt 5 1 col2 w2 b bd drC) := Lib.hid h2'
  clear k2 h2' H1 K1
  go_wp2_with fail
  refine (twin_any aA nA cA la w2 (HSA.out.below K2.out.below) (by omega)).mono ?_
  rintro e w3 ⟨v3, rfl, ho3, hb3⟩
  obtain ⟨a3, c3, rfl⟩ := ho3.form
  have I3 := Lib.hid ho3.sl
  have K3 := Lib.hid (K2.out.trans (St.new hb3 NZ col2 0))
  have H3 := Lib.hid (H2.out.st (St.new hb3 (fun _ => False) col2 0) (fun h => h) (fun h => h) (fun h => h))
  have HCOL : Hid (∀ x, (Value.slice a3 nA c3).ownBlock = some x → recol col2 w2.heap.size 0 x = 0) := Lib.hid (fun x hx => recol_ge (ho3.lt x hx))
  clear ho3 hb3 K2 H2
  generalize recol col2 w2.heap.size 0 = col3 at K3 H3 HCOL
  go_wp2_with fail
  refine (cwr_q 5 1 col3 b bd drC 16 0 w3 H3.out dr_0.1 (by decide) n15 (by decide) 5 a3 nA c3 la I3.out (fun _ x hx => by rw [HCOL.out x hx]; exact not_cd (by decide) (by decide))).mono ?_
  rintro e w4 ⟨E, C1, rfl, HH⟩
  obtain ⟨rfl, hC1⟩ := dr_1 HH.out.1 HLA.out
  have HC1 := Lib.hid hC1
  obtain ⟨col4, k4, h4⟩ := HH.out.2
  have K4 := Lib.hid (K3.out.trans (k4.mono nz1))
  have H4 := Lib.hid h4
  clear k4 h4 HH K3 H3 HCOL hC1 I3
  go_wp2_with fail
  refine (full_any none 0 0 [] w4 (Sl.nil _ _) (by decide)).mono ?_
  rintro e wk ⟨gW, oW, rfl, hoW, hbW⟩
  obtain ⟨col, hcol⟩ : ∃ x, x = recol col4 w4.heap.size 9 := ⟨_, rfl⟩
  have K : Hid (St NZ col0 w col wk) := Lib.hid (by rw [hcol]; exact K4.out.trans (St.new hbW NZ col4 9))
  have H : Hid (CkAt 5 1 col wk b bd C1) := Lib.hid (by rw [hcol]; exact H4.out.st (St.new hbW (fun _ => False) col4 9) (fun h => h) (fun h => h) (fun h => h))
  have O0 : Hid (OwnC col wk 9 1 (.slice (some ⟨gW, oW, none⟩) 256 256) 256 (bvs (fullB []))) := Lib.hid (by rw [hcol]; exact OwnC.new hoW)
  clear hoW hbW K4 H4 hcol
  cases out with
  | false =>
    obtain ⟨WANT, hW⟩ : ∃ x, x = fullB [] := ⟨_, rfl⟩
    rw [← hW] at O0
    obtain ⟨aW, haW⟩ : ∃ a : Option Addr, a = some ⟨gW, oW, none⟩ := ⟨_, rfl⟩
    have O : Hid (OwnC col wk 9 1 (.slice aW 256 256) 256 (bvs WANT)) := Lib.hid (by rw [haW]; exact O0.out)
    obtain ⟨X, hX⟩ : ∃ x, x = C1 := ⟨_, rfl⟩
    obtain ⟨N, hN⟩ : ∃ x, x = 3 := ⟨_, rfl⟩
    have HX : Hid (LiveC X 16 N ∧ (X.ks = [5] ∨ X.ks = []) ∧ X.most = 3 ∧ (X.ks = [5] → (X.F 5).pins = 0) ∧ pickD X.D 5 = WANT ∧ N ≤ 100) := Lib.hid (by
      rw [hX, hN, hW]
      exact ⟨HC1.out.1, .inl HC1.out.2.2.1, HC1.out.2.2.2.1, fun _ => HC1.out.2.2.2.2.1, HC1.out.2.2.2.2.2.2, by decide⟩)
    rw [← hX] at H
    rw [← haW]
    clear hX hN hW haW O0 HC1
    -- Write(5, twin(b)), Drop(5), Read(5)
    go_wp2_with fail
    refine (twin_any aB nB cB lb wk (HSB.out.below K.out.below) (by omega)).mono ?_
    rintro e w5 ⟨v5, rfl, ho5, hb5⟩
    obtain ⟨a5, c5, rfl⟩ := ho5.form
    have I5 := Lib.hid ho5.sl
    have K5 := Lib.hid (K.out.trans (St.new hb5 NZ col 0))
    have H5 := Lib.hid (H.out.st (St.new hb5 (fun _ => False) col 0) (fun h => h) (fun h => h) (fun h => h))
    have O5 := Lib.hid (O.out.st (St.new hb5 (fun _ => False) col 0) (fun h => h))
    have HCOL : Hid (∀ x, (Value.slice a5 nB c5).ownBlock = some x → recol col (wk).heap.size 0 x = 0) := Lib.hid (fun x hx => recol_ge (ho5.lt x hx))
    clear ho5 hb5 K H O
    generalize recol col (wk).heap.size 0 = col5 at K5 H5 O5 HCOL
    go_wp2_with fail
    refine (cwr_q 5 1 col5 b bd X 16 N w5 H5.out HX.out.1 (by have := HX.out.2.2.2.2.2; omega) n15 (by decide) 5 a5 nB c5 lb I5.out (fun _ x hx => by rw [HCOL.out x hx]; exact not_cd (by decide) (by decide))).mono ?_
    rintro e w6 ⟨E, C2, rfl, HH⟩
    have h3 := dr_3 HX.out.1 HX.out.2.1 HX.out.2.2.1 HX.out.2.2.2.1 HH.out.1 HLB.out
    obtain ⟨rfl, h3⟩ := h3
    have HC2 := Lib.hid h3
    obtain ⟨col6, k6, h6⟩ := HH.out.2
    have K6 := Lib.hid (K5.out.trans (k6.mono nz1))
    have H6 := Lib.hid h6
    have O6 := Lib.hid (O5.out.st k6 (fun h => by rcases h with h | h <;> cases h))
    clear k6 h6 HH K5 H5 O5 HCOL h3 I5
    go_wp2_with fail
    refine (drop_q 5 1 col6 b bd C2 16 (N + 3) w6 H6.out HC2.out.1 (by have := HX.out.2.2.2.2.2; omega) n15 (by decide) 5 (by decide)).mono ?_
    rintro e w7 ⟨E, C3, rfl, HH⟩
    obtain ⟨rfl, h4⟩ := dr_4 HC2.out.1 HC2.out.2.1 HC2.out.2.2.1 HC2.out.2.2.2.1 HH.out.1
    have HC3 := Lib.hid h4
    obtain ⟨col7, k7, h7⟩ := HH.out.2
    have K7 := Lib.hid (K6.out.trans (k7.mono nz1))
    have H7 := Lib.hid h7
    have O7 := Lib.hid (O6.out.st k7 (fun h => by rcases h with h | h <;> cases h))
    clear k7 h7 HH K6 H6 O6 h4
    go_wp2_with fail
    refine (cread_q 5 1 col7 b bd C3 16 (N + 3) w7 H7.out HC3.out.1 (by have := HX.out.2.2.2.2.2; omega) n15 (by decide) 5).mono ?_
    rintro e w8 hrd
    obtain ⟨C4, a8, c8, col8, rfl, HH⟩ : ∃ C' a cc col', e = .returned (.tuple #[.slice a 256 cc, .int .i64 0]) ∧ Hid (BringR 16 C3 5 0 C' ∧ St (CD 5 1) col7 w7 col' w8 ∧ CkAt 5 1 col' w8 b bd C' ∧ OwnC col' w8 9 1 (.slice a 256 cc) 256 (bvs (C'.F 5).b)) := by
      rcases hrd with h | ⟨E, C', hE, _, HH⟩
      · exact h
      · have := (dr_5 HC3.out.1 HC3.out.2.1 HC3.out.2.2.2 HH.out.1).1
        omega
    have HC4 := Lib.hid (dr_5 HC3.out.1 HC3.out.2.1 HC3.out.2.2.2 HH.out.1).2
    have K8 := Lib.hid (K7.out.trans (HH.out.2.1.mono nz1))
    have O8 := Lib.hid (O7.out.st HH.out.2.1 (fun h => by rcases h with h | h <;> cases h))
    have hsame : (C4.F 5).b = WANT := by rw [HC4.out.2.2, HC3.out.2.2.1, HC2.out.2.2.2.2, HX.out.2.2.2.2.1]
    have R8 : Hid (OwnC col8 w8 9 1 (.slice a8 256 c8) 256 (bvs WANT)) := Lib.hid (by rw [← hsame]; exact HH.out.2.2.2)
    have H8 := Lib.hid HH.out.2.2.1
    clear K7 H7 O7 HH hrd hsame
    go_wp2_with fail
    refine (same_any a8 256 c8 aW 256 256 WANT WANT w8 R8.out.1.sl O8.out.1.sl true (Lib.hid (by simp))).mono ?_
    rintro e w9 ⟨rfl, rfl⟩
    go_wp2_with fail
    refine (drop_q 5 1 col8 b bd C4 16 (N + 6) w8 H8.out HC4.out.1 (by have := HX.out.2.2.2.2.2; omega) n15 (by decide) 6 (by decide)).mono ?_
    rintro e w9 ⟨E, C5, rfl, HH⟩
    obtain rfl := dr_6 HC4.out.2.1 HH.out.1
    obtain ⟨col9, k9, h9⟩ := HH.out.2
    have K9 := Lib.hid (K8.out.trans (k9.mono nz1))
    clear k9 h9 HH K8 H8 O8 R8
    have hB9 := K9.out.below
    go_wp2_with fail
    refine (works_any w9).mono ?_
    rintro e wz ⟨rfl, hbz⟩
    go_wp2_with fail
    go_ret
    exact ⟨rfl, (hB9).trans (hbz.mono (hB9).size)⟩
  | true =>
    go_wp2_with fail
    refine (evict_q 5 1 col b bd C1 16 3 wk H.out HC1.out.1 (by decide) n15 (by decide) 0 (by decide)).mono ?_
    rintro e wm ⟨is, CX, rfl, HH⟩
    obtain ⟨rfl, hCX⟩ := dr_2 HC1.out.1 HC1.out.2.1 HC1.out.2.2.1 HC1.out.2.2.2.1 HC1.out.2.2.2.2.1 HC1.out.2.2.2.2.2.1 HH.out.1
    have HCX := Lib.hid hCX
    obtain ⟨colm, km, hm⟩ := HH.out.2
    have Km := Lib.hid (K.out.trans (km.mono nz1))
    have Hm := Lib.hid hm
    clear km hm HH K H O0 hCX
    go_wp2_with fail
    refine (full_any aA nA cA la wm (HSA.out.below Km.out.below) (by omega)).mono ?_
    rintro e wq ⟨gQ, oQ, rfl, hoQ, hbQ⟩
    obtain ⟨col, hcol⟩ : ∃ x, x = recol colm wm.heap.size 9 := ⟨_, rfl⟩
    have K : Hid (St NZ col0 w col wq) := Lib.hid (by rw [hcol]; exact Km.out.trans (St.new hbQ NZ colm 9))
    have H : Hid (CkAt 5 1 col wq b bd CX) := Lib.hid (by rw [hcol]; exact Hm.out.st (St.new hbQ (fun _ => False) colm 9) (fun h => h) (fun h => h) (fun h => h))
    have O0 : Hid (OwnC col wq 9 1 (.slice (some ⟨gQ, oQ, none⟩) 256 256) 256 (bvs (fullB la))) := Lib.hid (by rw [hcol]; exact OwnC.new hoQ)
    clear hoQ hbQ Km Hm hcol
    obtain ⟨WANT, hW⟩ : ∃ x, x = fullB la := ⟨_, rfl⟩
    rw [← hW] at O0
    obtain ⟨aW, haW⟩ : ∃ a : Option Addr, a = some ⟨gQ, oQ, none⟩ := ⟨_, rfl⟩
    have O : Hid (OwnC col wq 9 1 (.slice aW 256 256) 256 (bvs WANT)) := Lib.hid (by rw [haW]; exact O0.out)
    obtain ⟨X, hX⟩ : ∃ x, x = CX := ⟨_, rfl⟩
    obtain ⟨N, hN⟩ : ∃ x, x = 5 := ⟨_, rfl⟩
    have HX : Hid (LiveC X 16 N ∧ (X.ks = [5] ∨ X.ks = []) ∧ X.most = 3 ∧ (X.ks = [5] → (X.F 5).pins = 0) ∧ pickD X.D 5 = WANT ∧ N ≤ 100) := Lib.hid (by
      rw [hX, hN, hW]
      exact ⟨HCX.out.1, .inr HCX.out.2.1, HCX.out.2.2.1, (fun e => by rw [HCX.out.2.1] at e; cases e), HCX.out.2.2.2, by decide⟩)
    rw [← hX] at H
    rw [← haW]
    clear hX hN hW haW O0 HC1 HCX
    -- Write(5, twin(b)), Drop(5), Read(5)
    go_wp2_with fail
    refine (twin_any aB nB cB lb wq (HSB.out.below K.out.below) (by omega)).mono ?_
    rintro e w5 ⟨v5, rfl, ho5, hb5⟩
    obtain ⟨a5, c5, rfl⟩ := ho5.form
    have I5 := Lib.hid ho5.sl
    have K5 := Lib.hid (K.out.trans (St.new hb5 NZ col 0))
    have H5 := Lib.hid (H.out.st (St.new hb5 (fun _ => False) col 0) (fun h => h) (fun h => h) (fun h => h))
    have O5 := Lib.hid (O.out.st (St.new hb5 (fun _ => False) col 0) (fun h => h))
    have HCOL : Hid (∀ x, (Value.slice a5 nB c5).ownBlock = some x → recol col (wq).heap.size 0 x = 0) := Lib.hid (fun x hx => recol_ge (ho5.lt x hx))
    clear ho5 hb5 K H O
    generalize recol col (wq).heap.size 0 = col5 at K5 H5 O5 HCOL
    go_wp2_with fail
    refine (cwr_q 5 1 col5 b bd X 16 N w5 H5.out HX.out.1 (by have := HX.out.2.2.2.2.2; omega) n15 (by decide) 5 a5 nB c5 lb I5.out (fun _ x hx => by rw [HCOL.out x hx]; exact not_cd (by decide) (by decide))).mono ?_
    rintro e w6 ⟨E, C2, rfl, HH⟩
    have h3 := dr_3 HX.out.1 HX.out.2.1 HX.out.2.2.1 HX.out.2.2.2.1 HH.out.1 HLB.out
    obtain ⟨rfl, h3⟩ := h3
    have HC2 := Lib.hid h3
    obtain ⟨col6, k6, h6⟩ := HH.out.2
    have K6 := Lib.hid (K5.out.trans (k6.mono nz1))
    have H6 := Lib.hid h6
    have O6 := Lib.hid (O5.out.st k6 (fun h => by rcases h with h | h <;> cases h))
    clear k6 h6 HH K5 H5 O5 HCOL h3 I5
    go_wp2_with fail
    refine (drop_q 5 1 col6 b bd C2 16 (N + 3) w6 H6.out HC2.out.1 (by have := HX.out.2.2.2.2.2; omega) n15 (by decide) 5 (by decide)).mono ?_
    rintro e w7 ⟨E, C3, rfl, HH⟩
    obtain ⟨rfl, h4⟩ := dr_4 HC2.out.1 HC2.out.2.1 HC2.out.2.2.1 HC2.out.2.2.2.1 HH.out.1
    have HC3 := Lib.hid h4
    obtain ⟨col7, k7, h7⟩ := HH.out.2
    have K7 := Lib.hid (K6.out.trans (k7.mono nz1))
    have H7 := Lib.hid h7
    have O7 := Lib.hid (O6.out.st k7 (fun h => by rcases h with h | h <;> cases h))
    clear k7 h7 HH K6 H6 O6 h4
    go_wp2_with fail
    refine (cread_q 5 1 col7 b bd C3 16 (N + 3) w7 H7.out HC3.out.1 (by have := HX.out.2.2.2.2.2; omega) n15 (by decide) 5).mono ?_
    rintro e w8 hrd
    obtain ⟨C4, a8, c8, col8, rfl, HH⟩ : ∃ C' a cc col', e = .returned (.tuple #[.slice a 256 cc, .int .i64 0]) ∧ Hid (BringR 16 C3 5 0 C' ∧ St (CD 5 1) col7 w7 col' w8 ∧ CkAt 5 1 col' w8 b bd C' ∧ OwnC col' w8 9 1 (.slice a 256 cc) 256 (bvs (C'.F 5).b)) := by
      rcases hrd with h | ⟨E, C', hE, _, HH⟩
      · exact h
      · have := (dr_5 HC3.out.1 HC3.out.2.1 HC3.out.2.2.2 HH.out.1).1
        omega
    have HC4 := Lib.hid (dr_5 HC3.out.1 HC3.out.2.1 HC3.out.2.2.2 HH.out.1).2
    have K8 := Lib.hid (K7.out.trans (HH.out.2.1.mono nz1))
    have O8 := Lib.hid (O7.out.st HH.out.2.1 (fun h => by rcases h with h | h <;> cases h))
    have hsame : (C4.F 5).b = WANT := by rw [HC4.out.2.2, HC3.out.2.2.1, HC2.out.2.2.2.2, HX.out.2.2.2.2.1]
    have R8 : Hid (OwnC col8 w8 9 1 (.slice a8 256 c8) 256 (bvs WANT)) := Lib.hid (by rw [← hsame]; exact HH.out.2.2.2)
    have H8 := Lib.hid HH.out.2.2.1
    clear K7 H7 O7 HH hrd hsame
    go_wp2_with fail
    refine (same_any a8 256 c8 aW 256 256 WANT WANT w8 R8.out.1.sl O8.out.1.sl true (Lib.hid (by simp))).mono ?_
    rintro e w9 ⟨rfl, rfl⟩
    go_wp2_with fail
    refine (drop_q 5 1 col8 b bd C4 16 (N + 6) w8 H8.out HC4.out.1 (by have := HX.out.2.2.2.2.2; omega) n15 (by decide) 6 (by decide)).mono ?_
    rintro e w9 ⟨E, C5, rfl, HH⟩
    obtain rfl := dr_6 HC4.out.2.1 HH.out.1
    obtain ⟨col9, k9, h9⟩ := HH.out.2
    have K9 := Lib.hid (K8.out.trans (k9.mono nz1))
    clear k9 h9 HH K8 H8 O8 R8
    have hB9 := K9.out.below
    go_wp2_with fail
    refine (works_any w9).mono ?_
    rintro e wz ⟨rfl, hbz⟩
    go_wp2_with fail
    go_ret
    exact ⟨rfl, (hB9).trans (hbz.mono (hB9).size)⟩
end Go.Proofs.Ytchjfmgfoifbcaa
