/-
  SlotsKeeps, walked.
-/
import Derived.Test.YtafigfgcgnnbnaaSlotK
namespace Go.Proofs.Ytafigfgcgnnbnaa
open Go.RowKit
set_option linter.unusedVariables false
set_option linter.unusedSimpArgs false

set_option maxRecDepth 100000 in
set_option maxHeartbeats 4000000 in
theorem slotsKeeps_walk (a : Option Addr) (n c : Nat) (l : List (List UInt8 × Int)) (w : World) (hl : SlOf VStep 2 w (.slice a n c) l) :
    Calls Try.prog 6 #[.slice a n c] w fun e w' => e = .returned (.bool true) ∧ Below w.heap.size w w' := by
  have hn := hl.len
  have hn2 := hn.2
  clear hn
  go_enter Try.func6, Try.ntmps6
  go_wp2_with fail
  refine (long_any a n c l w hl).mono ?_
  rintro e w1 ⟨B, rfl, hB, hb⟩
  have HS := Lib.hid hB
  clear hB
  cases B with
  | true =>
    go_wp2_with fail
    refine (works_any w1).mono ?_
    rintro e w2 ⟨rfl, hb2⟩
    go_wp2_with fail
    go_ret
    exact ⟨rfl, hb.trans (hb2.mono hb.size)⟩
  | false =>
  have hS : ∀ (i : Nat) (r : List UInt8) (z : Int), l[i]? = some (r, z) → r.length ≤ 512 := (HS.out rfl).2
  have HSH := Lib.hid hS
  clear hS HS
  go_wp2_with fail
  refine (empty_any w1).mono ?_
  rintro e w2 ⟨v2, rfl, ho2, hb2⟩
  obtain ⟨a2, c2, rfl⟩ := ho2.form
  have hB2 := hb.trans (hb2.mono hb.size)
  go_wp2_with fail
  go_loopw [3, 4, 5, 6, 7, 8, 9, 10, 11, 12, 13, 14, 15, 16, 17, 18] (fun v3 v4 v5 v6 v7 v8 v9 v10 v11 v12 v13 v14 v15 v16 v17 v18 wr => ∃ k N M : Nat, ∃ (a3 : Option Addr) (c3 : Nat) (H : List (List UInt8)) (q : List UInt8) (cells : List Value), k ≤ n ∧ v5 = .int .i64 k ∧ v3 = .slice a3 N c3 ∧ N ≤ 248 ∧ (readOk q = true ∧ readL q = H ∧ M = H.length ∧ M + H.flatten.length ≤ 247) ∧ Own wr w.heap.size 1 v4 M cells ∧ RowsOf w cells H ∧ Far wr v4 (fun w' => Sl w' 1 (.slice a3 N c3) N (bvs q)) ∧ Below w.heap.size w wr) (fun _ _ v5 _ _ _ _ _ _ _ _ _ _ _ _ _ _ => n - (intOf v5).toNat)
  case atStart => exact ⟨0, 1, 0, a2, c2, [], [0], [], Nat.zero_le _, rfl, rfl, by omega, ⟨by decide +kernel, by decide +kernel, rfl, by simp⟩, Own.nil _ _ _, RowsOf.nil _, Far.own (Own.nil w1 w1.heap.size 1) ho2 (Nat.le_refl _), hB2⟩
  case round =>
    obtain ⟨k, N, M, a3, c3, H, q, cells, hk, rfl, rfl, hN, hH, hoh, hrh, hsq, hB⟩ := hrel
    obtain ⟨a4, c4, rfl⟩ := hoh.form
    have HH := Lib.hid hH
    have hM : M ≤ 247 := by omega
    clear hH
    by_cases hkn : k = n
    · subst hkn
      go_wp2_with fail
      refine (works_any wr).mono ?_
      rintro e w3 ⟨rfl, hb3⟩
      go_wp2_with fail
      go_ret
      exact ⟨rfl, hB.trans (hb3.mono hB.size)⟩
    · have hlt : k < n := by omega
      have hlt' : (k : Int) < n := by omega
      obtain ⟨b, off, av, cv, m, r, z, rfl, hri, hrm, hz, hsl, hc0, hc1⟩ := step_at hl k hlt
      have hw0 := Lib.hid hc0
      replace hc0 := (hB.cell (p := ⟨b, off + k * 2, none⟩) (lt_of_cell hc0)).trans hc0
      replace hc1 := (hB.cell (p := ⟨b, off + k * 2 + 1, none⟩) (lt_of_cell hc1)).trans hc1
      have hm5 : m ≤ 512 := by have := HSH.out k r z hri; omega
      have HRM := Lib.hid hrm
      clear hri hrm
      by_cases hm0 : m = 0
      · subst hm0
        go_wp2_with fail
        refine (drop_any a3 N c3 q wr z hsq.here (by omega)).mono ?_
        rintro e w3 ⟨v3, rfl, ho3, hb3⟩
        obtain ⟨a5, c5, rfl⟩ := ho3.form
        have hB3 := hB.trans (hb3.mono hB.size)
        have hoh3 := hoh.below hb3
        have hsq3 := hsq.below hb3
        have hgi : getIs q z = (decide (0 ≤ z) && decide (z < ((M : Nat) : Int)) && !(H.getD z.toNat []).isEmpty) := by
          unfold getIs; rw [HH.out.2.1, ← HH.out.2.2.1]
        have hgc := get_cases H z
        rw [← HH.out.2.2.1] at hgc
        have hkd : getIs q z = true → readOk (dropQ q z) = true ∧ readL (dropQ q z) = trimL (H.set z.toNat []) ∧ (dropQ q z).length ≤ 248 := fun h => keep_drop HH.out.1 HH.out.2.1 h
        obtain ⟨GI, hGI⟩ : ∃ GI, GI = getIs q z := ⟨_, rfl⟩
        obtain ⟨Q, hQ⟩ : ∃ Q, Q = dropQ q z := ⟨_, rfl⟩
        obtain ⟨NQ, hNQ⟩ : ∃ NQ, NQ = Q.length := ⟨_, rfl⟩
        rw [← hGI, ← hQ, ← hNQ] at hkd
        rw [← hGI] at hgi
        rw [← hQ, ← hNQ] at ho3
        rw [← hGI, ← hQ, ← hNQ]
        clear hGI hQ hNQ
        rcases hgc with h1 | ⟨h1, h2⟩ | ⟨j, r9, rfl, hj, hrj, hgd⟩
        · have hG : GI = false := by rw [hgi, decide_eq_false (by omega : ¬ 0 ≤ z)]; rfl
          subst hG
          clear hgi hkd
          go_wp2_with fail
          as_aux_lemma =>
            go_loopw [15, 16, 17, 18] (fun v15 v16 v17 v18 wx => ∃ z9 : Int, v15 = .int .i64 z9 ∧ -1 ≤ z9 ∧ z9 ≤ (M : Int) + 1 ∧ Below (w3).heap.size w3 wx) (fun v15 _ _ _ _ => ((M : Int) + 1 - intOf v15).toNat)
            case atStart => exact ⟨-1, rfl, by omega, by omega, Below.refl _ _⟩
            case round =>
              obtain ⟨z9, rfl, hz1, hz2, hbx⟩ := hrel
              have hohx := (hoh3).below hbx
              have hsqx := (hsq3).below hbx
              have hsqh := hsqx.here
              have hBx := (hB3).trans (hbx.mono (hB3).size)
              have hM9 := hM
              have hN9 := hN
              by_cases hze : z9 = (M : Int) + 1
              · subst hze
                go_wp2_with fail
                refine (right_any a3 N c3 q wr hsqh (by omega)).mono ?_
                rintro e wy ⟨rfl, hby⟩
                rw [(HH).out.1]
                go_wp2_with fail
                exact ⟨⟨k + 1, N, M, a3, c3, H, q, cells, by omega, by go_num, rfl, hN, (HH).out, hohx.below hby, hrh, hsqx.below hby, hBx.trans (hby.mono hBx.size)⟩, by simp [intOf]; omega⟩
              · have hlt9 : z9 ≤ (M : Int) := by omega
                go_wp2_with fail
                refine (get_any a3 N c3 q wr z9 hsqh (by omega)).mono ?_
                rintro e wy ⟨vy, rfl, hoy, hby⟩
                obtain ⟨ay, cy, rfl⟩ := hoy.form
                have hBy := hBx.trans (hby.mono hBx.size)
                have hbxy := hbx.trans (hby.mono hbx.size)
                have hohy := hohx.below hby
                have hgi : getIs q z9 = (decide (0 ≤ z9) && decide (z9 < ((M : Nat) : Int)) && !((H).getD z9.toNat []).isEmpty) := by
                  unfold getIs; rw [(HH).out.2.1, ← (HH).out.2.2.1]
                have hgr : getR q z9 = if getIs q z9 then (H).getD z9.toNat [] else [] := by
                  unfold getR; rw [(HH).out.2.1]
                have hgc := get_cases H z9
                rw [← (HH).out.2.2.1] at hgc
                obtain ⟨GI, hGI⟩ : ∃ GI, GI = getIs q z9 := ⟨_, rfl⟩
                obtain ⟨GR, hGR⟩ : ∃ GR, GR = getR q z9 := ⟨_, rfl⟩
                obtain ⟨NG, hNG⟩ : ∃ NG, NG = GR.length := ⟨_, rfl⟩
                rw [← hGI] at hgi hgr
                rw [← hGR] at hgr hoy
                rw [← hNG] at hoy
                rw [← hGI, ← hGR, ← hNG]
                clear hGI hGR hNG
                rcases hgc with h1 | ⟨h1, h2⟩ | ⟨j, r9, rfl, hj, hrj, hgd⟩
                · have hG : GI = false := by rw [hgi, decide_eq_false (by omega : ¬ 0 ≤ z9)]; rfl
                  subst hG
                  clear hgi hgr
                  go_wp2_with fail
                  exact ⟨⟨z9 + 1, by go_num, by omega, by omega, hbxy⟩, by simp [intOf]; omega⟩
                · have hG : GI = false := by rw [hgi, decide_eq_false (by omega : ¬ z9 < ((M : Nat) : Int)), Bool.and_false]; rfl
                  subst hG
                  clear hgi hgr
                  go_wp2_with fail
                  exact ⟨⟨z9 + 1, by go_num, by omega, by omega, hbxy⟩, by simp [intOf]; omega⟩
                · have hj' : (j : Int) < M := by omega
                  obtain ⟨b8, o8, av8, cv8, r8, ha8, hri8, hc8, hsl8⟩ := row_at hohy.sl ((hrh).below hBy) j hj
                  rw [hrj] at hri8
                  cases hri8
                  rw [Int.toNat_natCast, hgd] at hgi hgr
                  rw [decide_eq_true (by omega : (0 : Int) ≤ (j : Int)), decide_eq_true hj'] at hgi
                  have HGD := Lib.hid hgd
                  have HRJ := Lib.hid hrj
                  clear hgd hrj
                  cases ha8
                  by_cases h0 : r9 = []
                  · subst h0
                    have hG : GI = false := hgi
                    subst hG
                    rw [List.length_nil] at hc8
                    clear hgi hgr hsl8
                    go_wp2_with fail
                    exact ⟨⟨(j : Int) + 1, by go_num, by omega, by omega, hbxy⟩, by simp [intOf]; omega⟩
                  · have hG : GI = true := by rw [hgi]; simpa using h0
                    subst hG
                    have hgr2 : GR = r9 := hgr
                    have hp9 : 0 < r9.length := List.length_pos_iff.2 h0
                    obtain ⟨L9, hL9⟩ : ∃ L9, L9 = r9.length := ⟨_, rfl⟩
                    rw [← hL9] at hc8 hsl8 hp9
                    have hp9' : (0 : Int) < L9 := by omega
                    have hL9b := hsl8.len
                    subst hgr2
                    clear hgi hgr hL9
                    go_wp2_with fail
                    refine (eqb_any ay NG cy av8 L9 cv8 GR GR wy hoy.sl hsl8 (by have h1 := hoy.len.1; have h2 := mem_le_flat _ _ (List.mem_of_getElem? HRJ.out); have h3 := (HH).out.2.2.2; omega) (by have h1 := hsl8.len.1; have h2 := mem_le_flat _ _ (List.mem_of_getElem? HRJ.out); have h3 := (HH).out.2.2.2; omega)).mono ?_
                    rintro e wz ⟨rfl, hbz⟩
                    rw [decide_eq_true rfl]
                    go_wp2_with fail
                    exact ⟨⟨(j : Int) + 1, by go_num, by omega, by omega, hbxy.trans (hbz.mono hbxy.size)⟩, by simp [intOf]; omega⟩
        · have hG : GI = false := by rw [hgi, decide_eq_false (by omega : ¬ z < ((M : Nat) : Int)), Bool.and_false]; rfl
          subst hG
          clear hgi hkd
          go_wp2_with fail
          as_aux_lemma =>
            go_loopw [15, 16, 17, 18] (fun v15 v16 v17 v18 wx => ∃ z9 : Int, v15 = .int .i64 z9 ∧ -1 ≤ z9 ∧ z9 ≤ (M : Int) + 1 ∧ Below (w3).heap.size w3 wx) (fun v15 _ _ _ _ => ((M : Int) + 1 - intOf v15).toNat)
            case atStart => exact ⟨-1, rfl, by omega, by omega, Below.refl _ _⟩
            case round =>
              obtain ⟨z9, rfl, hz1, hz2, hbx⟩ := hrel
              have hohx := (hoh3).below hbx
              have hsqx := (hsq3).below hbx
              have hsqh := hsqx.here
              have hBx := (hB3).trans (hbx.mono (hB3).size)
              have hM9 := hM
              have hN9 := hN
              by_cases hze : z9 = (M : Int) + 1
              · subst hze
                go_wp2_with fail
                refine (right_any a3 N c3 q wr hsqh (by omega)).mono ?_
                rintro e wy ⟨rfl, hby⟩
                rw [(HH).out.1]
                go_wp2_with fail
                exact ⟨⟨k + 1, N, M, a3, c3, H, q, cells, by omega, by go_num, rfl, hN, (HH).out, hohx.below hby, hrh, hsqx.below hby, hBx.trans (hby.mono hBx.size)⟩, by simp [intOf]; omega⟩
              · have hlt9 : z9 ≤ (M : Int) := by omega
                go_wp2_with fail
                refine (get_any a3 N c3 q wr z9 hsqh (by omega)).mono ?_
                rintro e wy ⟨vy, rfl, hoy, hby⟩
                obtain ⟨ay, cy, rfl⟩ := hoy.form
                have hBy := hBx.trans (hby.mono hBx.size)
                have hbxy := hbx.trans (hby.mono hbx.size)
                have hohy := hohx.below hby
                have hgi : getIs q z9 = (decide (0 ≤ z9) && decide (z9 < ((M : Nat) : Int)) && !((H).getD z9.toNat []).isEmpty) := by
                  unfold getIs; rw [(HH).out.2.1, ← (HH).out.2.2.1]
                have hgr : getR q z9 = if getIs q z9 then (H).getD z9.toNat [] else [] := by
                  unfold getR; rw [(HH).out.2.1]
                have hgc := get_cases H z9
                rw [← (HH).out.2.2.1] at hgc
                obtain ⟨GI, hGI⟩ : ∃ GI, GI = getIs q z9 := ⟨_, rfl⟩
                obtain ⟨GR, hGR⟩ : ∃ GR, GR = getR q z9 := ⟨_, rfl⟩
                obtain ⟨NG, hNG⟩ : ∃ NG, NG = GR.length := ⟨_, rfl⟩
                rw [← hGI] at hgi hgr
                rw [← hGR] at hgr hoy
                rw [← hNG] at hoy
                rw [← hGI, ← hGR, ← hNG]
                clear hGI hGR hNG
                rcases hgc with h1 | ⟨h1, h2⟩ | ⟨j, r9, rfl, hj, hrj, hgd⟩
                · have hG : GI = false := by rw [hgi, decide_eq_false (by omega : ¬ 0 ≤ z9)]; rfl
                  subst hG
                  clear hgi hgr
                  go_wp2_with fail
                  exact ⟨⟨z9 + 1, by go_num, by omega, by omega, hbxy⟩, by simp [intOf]; omega⟩
                · have hG : GI = false := by rw [hgi, decide_eq_false (by omega : ¬ z9 < ((M : Nat) : Int)), Bool.and_false]; rfl
                  subst hG
                  clear hgi hgr
                  go_wp2_with fail
                  exact ⟨⟨z9 + 1, by go_num, by omega, by omega, hbxy⟩, by simp [intOf]; omega⟩
                · have hj' : (j : Int) < M := by omega
                  obtain ⟨b8, o8, av8, cv8, r8, ha8, hri8, hc8, hsl8⟩ := row_at hohy.sl ((hrh).below hBy) j hj
                  rw [hrj] at hri8
                  cases hri8
                  rw [Int.toNat_natCast, hgd] at hgi hgr
                  rw [decide_eq_true (by omega : (0 : Int) ≤ (j : Int)), decide_eq_true hj'] at hgi
                  have HGD := Lib.hid hgd
                  have HRJ := Lib.hid hrj
                  clear hgd hrj
                  cases ha8
                  by_cases h0 : r9 = []
                  · subst h0
                    have hG : GI = false := hgi
                    subst hG
                    rw [List.length_nil] at hc8
                    clear hgi hgr hsl8
                    go_wp2_with fail
                    exact ⟨⟨(j : Int) + 1, by go_num, by omega, by omega, hbxy⟩, by simp [intOf]; omega⟩
                  · have hG : GI = true := by rw [hgi]; simpa using h0
                    subst hG
                    have hgr2 : GR = r9 := hgr
                    have hp9 : 0 < r9.length := List.length_pos_iff.2 h0
                    obtain ⟨L9, hL9⟩ : ∃ L9, L9 = r9.length := ⟨_, rfl⟩
                    rw [← hL9] at hc8 hsl8 hp9
                    have hp9' : (0 : Int) < L9 := by omega
                    have hL9b := hsl8.len
                    subst hgr2
                    clear hgi hgr hL9
                    go_wp2_with fail
                    refine (eqb_any ay NG cy av8 L9 cv8 GR GR wy hoy.sl hsl8 (by have h1 := hoy.len.1; have h2 := mem_le_flat _ _ (List.mem_of_getElem? HRJ.out); have h3 := (HH).out.2.2.2; omega) (by have h1 := hsl8.len.1; have h2 := mem_le_flat _ _ (List.mem_of_getElem? HRJ.out); have h3 := (HH).out.2.2.2; omega)).mono ?_
                    rintro e wz ⟨rfl, hbz⟩
                    rw [decide_eq_true rfl]
                    go_wp2_with fail
                    exact ⟨⟨(j : Int) + 1, by go_num, by omega, by omega, hbxy.trans (hbz.mono hbxy.size)⟩, by simp [intOf]; omega⟩
        · have hj' : (j : Int) < M := by omega
          obtain ⟨b8, o8, av8, cv8, r8, ha8, hri8, hc8, hsl8⟩ := row_at hoh3.sl (hrh.below hB3) j hj
          rw [hrj] at hri8
          cases hri8
          rw [Int.toNat_natCast] at hkd hgi
          rw [hgd, decide_eq_true (by omega : (0 : Int) ≤ (j : Int)), decide_eq_true hj'] at hgi
          have HGD := Lib.hid hgd
          have HRJ := Lib.hid hrj
          clear hgd hrj
          cases ha8
          by_cases h0 : r9 = []
          · subst h0
            have hG : GI = false := hgi
            subst hG
            rw [List.length_nil] at hc8
            clear hgi hkd hsl8
            go_wp2_with fail
            as_aux_lemma =>
              go_loopw [15, 16, 17, 18] (fun v15 v16 v17 v18 wx => ∃ z9 : Int, v15 = .int .i64 z9 ∧ -1 ≤ z9 ∧ z9 ≤ (M : Int) + 1 ∧ Below (w3).heap.size w3 wx) (fun v15 _ _ _ _ => ((M : Int) + 1 - intOf v15).toNat)
              case atStart => exact ⟨-1, rfl, by omega, by omega, Below.refl _ _⟩
              case round =>
                obtain ⟨z9, rfl, hz1, hz2, hbx⟩ := hrel
                have hohx := (hoh3).below hbx
                have hsqx := (hsq3).below hbx
                have hsqh := hsqx.here
                have hBx := (hB3).trans (hbx.mono (hB3).size)
                have hM9 := hM
                have hN9 := hN
                by_cases hze : z9 = (M : Int) + 1
                · subst hze
                  go_wp2_with fail
                  refine (right_any a3 N c3 q wr hsqh (by omega)).mono ?_
                  rintro e wy ⟨rfl, hby⟩
                  rw [(HH).out.1]
                  go_wp2_with fail
                  exact ⟨⟨k + 1, N, M, a3, c3, H, q, cells, by omega, by go_num, rfl, hN, (HH).out, hohx.below hby, hrh, hsqx.below hby, hBx.trans (hby.mono hBx.size)⟩, by simp [intOf]; omega⟩
                · have hlt9 : z9 ≤ (M : Int) := by omega
                  go_wp2_with fail
                  refine (get_any a3 N c3 q wr z9 hsqh (by omega)).mono ?_
                  rintro e wy ⟨vy, rfl, hoy, hby⟩
                  obtain ⟨ay, cy, rfl⟩ := hoy.form
                  have hBy := hBx.trans (hby.mono hBx.size)
                  have hbxy := hbx.trans (hby.mono hbx.size)
                  have hohy := hohx.below hby
                  have hgi : getIs q z9 = (decide (0 ≤ z9) && decide (z9 < ((M : Nat) : Int)) && !((H).getD z9.toNat []).isEmpty) := by
                    unfold getIs; rw [(HH).out.2.1, ← (HH).out.2.2.1]
                  have hgr : getR q z9 = if getIs q z9 then (H).getD z9.toNat [] else [] := by
                    unfold getR; rw [(HH).out.2.1]
                  have hgc := get_cases H z9
                  rw [← (HH).out.2.2.1] at hgc
                  obtain ⟨GI, hGI⟩ : ∃ GI, GI = getIs q z9 := ⟨_, rfl⟩
                  obtain ⟨GR, hGR⟩ : ∃ GR, GR = getR q z9 := ⟨_, rfl⟩
                  obtain ⟨NG, hNG⟩ : ∃ NG, NG = GR.length := ⟨_, rfl⟩
                  rw [← hGI] at hgi hgr
                  rw [← hGR] at hgr hoy
                  rw [← hNG] at hoy
                  rw [← hGI, ← hGR, ← hNG]
                  clear hGI hGR hNG
                  rcases hgc with h1 | ⟨h1, h2⟩ | ⟨j, r9, rfl, hj, hrj, hgd⟩
                  · have hG : GI = false := by rw [hgi, decide_eq_false (by omega : ¬ 0 ≤ z9)]; rfl
                    subst hG
                    clear hgi hgr
                    go_wp2_with fail
                    exact ⟨⟨z9 + 1, by go_num, by omega, by omega, hbxy⟩, by simp [intOf]; omega⟩
                  · have hG : GI = false := by rw [hgi, decide_eq_false (by omega : ¬ z9 < ((M : Nat) : Int)), Bool.and_false]; rfl
                    subst hG
                    clear hgi hgr
                    go_wp2_with fail
                    exact ⟨⟨z9 + 1, by go_num, by omega, by omega, hbxy⟩, by simp [intOf]; omega⟩
                  · have hj' : (j : Int) < M := by omega
                    obtain ⟨b8, o8, av8, cv8, r8, ha8, hri8, hc8, hsl8⟩ := row_at hohy.sl ((hrh).below hBy) j hj
                    rw [hrj] at hri8
                    cases hri8
                    rw [Int.toNat_natCast, hgd] at hgi hgr
                    rw [decide_eq_true (by omega : (0 : Int) ≤ (j : Int)), decide_eq_true hj'] at hgi
                    have HGD := Lib.hid hgd
                    have HRJ := Lib.hid hrj
                    clear hgd hrj
                    cases ha8
                    by_cases h0 : r9 = []
                    · subst h0
                      have hG : GI = false := hgi
                      subst hG
                      rw [List.length_nil] at hc8
                      clear hgi hgr hsl8
                      go_wp2_with fail
                      exact ⟨⟨(j : Int) + 1, by go_num, by omega, by omega, hbxy⟩, by simp [intOf]; omega⟩
                    · have hG : GI = true := by rw [hgi]; simpa using h0
                      subst hG
                      have hgr2 : GR = r9 := hgr
                      have hp9 : 0 < r9.length := List.length_pos_iff.2 h0
                      obtain ⟨L9, hL9⟩ : ∃ L9, L9 = r9.length := ⟨_, rfl⟩
                      rw [← hL9] at hc8 hsl8 hp9
                      have hp9' : (0 : Int) < L9 := by omega
                      have hL9b := hsl8.len
                      subst hgr2
                      clear hgi hgr hL9
                      go_wp2_with fail
                      refine (eqb_any ay NG cy av8 L9 cv8 GR GR wy hoy.sl hsl8 (by have h1 := hoy.len.1; have h2 := mem_le_flat _ _ (List.mem_of_getElem? HRJ.out); have h3 := (HH).out.2.2.2; omega) (by have h1 := hsl8.len.1; have h2 := mem_le_flat _ _ (List.mem_of_getElem? HRJ.out); have h3 := (HH).out.2.2.2; omega)).mono ?_
                      rintro e wz ⟨rfl, hbz⟩
                      rw [decide_eq_true rfl]
                      go_wp2_with fail
                      exact ⟨⟨(j : Int) + 1, by go_num, by omega, by omega, hbxy.trans (hbz.mono hbxy.size)⟩, by simp [intOf]; omega⟩
          · have hG : GI = true := by rw [hgi]; simpa using h0
            subst hG
            have HKD := Lib.hid (hkd rfl)
            have hp9 : 0 < r9.length := List.length_pos_iff.2 h0
            obtain ⟨L9, hL9⟩ : ∃ L9, L9 = r9.length := ⟨_, rfl⟩
            rw [← hL9] at hc8 hsl8 hp9
            have hp9' : (0 : Int) < L9 := by omega
            have hNQ8 : NQ ≤ 248 := HKD.out.2.2
            have hsq7 := Far.own hoh ho3 (Nat.le_refl _)
            clear hgi hkd hL9
            obtain ⟨g, off7, cap, e9, hg1, hg2, hg3, hg5, hg6⟩ := hoh3.open (by omega) (by decide)
            cases e9
            have hf9 := hoh3.free j (by omega)
            have HQ9 := Lib.hid hg6
            clear hg6
            go_wp2_with fail
            have hB8 : Below w.heap.size w (w3.setCell ⟨b8, o8 + j, none⟩ (.slice none 0 0)) := hB3.setCell (p := ⟨b8, o8 + j, none⟩) hg1 _
            have ho8 := hoh3.set j (.slice none 0 0)
            have hrh8 : RowsOf w (cells.set j (.slice none 0 0)) (H.set j []) := hrh.set j rfl (Sl.nil _ _)
            have hsq8 := hsq7.grown (grown_set w3 b8 (o8 + j) (.slice none 0 0)) (v' := .slice (some ⟨b8, o8, none⟩) M c4) (fun g' h => .inl h)
            generalize w3.setCell ⟨b8, o8 + j, none⟩ (.slice none 0 0) = W8 at hB8 ho8 hsq8 ⊢
            obtain ⟨X, hX⟩ : ∃ X, X = H.set j [] := ⟨_, rfl⟩
            rw [← hX] at hrh8
            have hXM : X.length = M := by rw [hX, List.length_set, ← HH.out.2.2.1]
            have HXM := Lib.hid hXM
            have hRT : readL Q = trimL X := by rw [hX]; exact HKD.out.2.1
            obtain ⟨T, hT⟩ : ∃ T, T = trimL X := ⟨_, rfl⟩
            rw [← hT] at hRT
            have HRT := Lib.hid hRT
            have HTX := Lib.hid hT
            generalize cells.set j (.slice none 0 0) = cells8 at ho8 hrh8
            clear hT hRT hX hXM
            go_loop [4] (fun v4 => ∃ k9 : Nat, k9 ≤ M ∧ v4 = .slice (some ⟨b8, o8, none⟩) k9 c4 ∧ T = trimL (X.take k9)) (fun v4 => match v4 with | .slice _ k9 _ => k9 | _ => 0)
            case atStart => exact ⟨M, Nat.le_refl _, rfl, by rw [← HXM.out, List.take_length]; exact HTX.out⟩
            case round =>
              obtain ⟨k9, hk9, rfl, hTk⟩ := hrel
              have hstop := trim_stop ho8.sl (hrh8.below hB8) k9 hk9 hTk
              clear hTk
              have hcap := ho8.sl.cap
              have hc41 : M ≤ c4 := hcap.1
              have hc42 : c4 ≤ 9223372036854775807 := hcap.2.1
              clear hcap
              rcases hstop with ⟨hst, hTe⟩ | ⟨⟨b, off, av, cv, ha, hk0, hc⟩, hTe⟩
              · have hlk : (X.take k9).length = k9 := by rw [List.length_take, HXM.out]; omega
                have HH9 : Hid (readOk Q = true ∧ readL Q = X.take k9 ∧ k9 = (X.take k9).length ∧ k9 + (X.take k9).flatten.length ≤ 247) := by
                  have h1 := read_parts HKD.out.1
                  rw [HRT.out, hTe, hlk] at h1
                  exact ⟨HKD.out.1, by rw [HRT.out, hTe], hlk.symm, by omega⟩
                have ho9 := ho8.front hk9
                rw [Nat.mul_one] at ho9
                have hrh9 := hrh8.take k9
                have hsq9 := hsq8.grown (World.grownBy.refl W8 _) (v' := .slice (some ⟨b8, o8, none⟩) k9 c4) (fun g' h => .inl h)
                have hM9 : k9 ≤ 247 := by omega
                clear hTe hlk
                rcases hst with hk90 | ⟨b, off, av, cv, L, ha, hk0, hL, hc⟩
                · have hk91 : ¬ (0 : Int) < k9 := by omega
                  clear hk90
                  go_wp2_with fail
                  as_aux_lemma =>
                    go_loopw [15, 16, 17, 18] (fun v15 v16 v17 v18 wx => ∃ z9 : Int, v15 = .int .i64 z9 ∧ -1 ≤ z9 ∧ z9 ≤ (k9 : Int) + 1 ∧ Below (W8).heap.size W8 wx) (fun v15 _ _ _ _ => ((k9 : Int) + 1 - intOf v15).toNat)
                    case atStart => exact ⟨-1, rfl, by omega, by omega, Below.refl _ _⟩
                    case round =>
                      obtain ⟨z9, rfl, hz1, hz2, hbx⟩ := hrel
                      have hohx := (ho9).below hbx
                      have hsqx := (hsq9).below hbx
                      have hsqh := hsqx.here
                      have hBx := (hB8).trans (hbx.mono (hB8).size)
                      have hM9 := hM9
                      have hN9 := hNQ8
                      by_cases hze : z9 = (k9 : Int) + 1
                      · subst hze
                        go_wp2_with fail
                        refine (right_any a5 NQ c5 Q wr hsqh (by omega)).mono ?_
                        rintro e wy ⟨rfl, hby⟩
                        rw [(HH9).out.1]
                        go_wp2_with fail
                        exact ⟨⟨k + 1, NQ, k9, a5, c5, (X.take k9), Q, (cells8.take k9), by omega, by go_num, rfl, hNQ8, (HH9).out, hohx.below hby, hrh9, hsqx.below hby, hBx.trans (hby.mono hBx.size)⟩, by simp [intOf]; omega⟩
                      · have hlt9 : z9 ≤ (k9 : Int) := by omega
                        go_wp2_with fail
                        refine (get_any a5 NQ c5 Q wr z9 hsqh (by omega)).mono ?_
                        rintro e wy ⟨vy, rfl, hoy, hby⟩
                        obtain ⟨ay, cy, rfl⟩ := hoy.form
                        have hBy := hBx.trans (hby.mono hBx.size)
                        have hbxy := hbx.trans (hby.mono hbx.size)
                        have hohy := hohx.below hby
                        have hgi : getIs Q z9 = (decide (0 ≤ z9) && decide (z9 < ((k9 : Nat) : Int)) && !(((X.take k9)).getD z9.toNat []).isEmpty) := by
                          unfold getIs; rw [(HH9).out.2.1, ← (HH9).out.2.2.1]
                        have hgr : getR Q z9 = if getIs Q z9 then ((X.take k9)).getD z9.toNat [] else [] := by
                          unfold getR; rw [(HH9).out.2.1]
                        have hgc := get_cases (X.take k9) z9
                        rw [← (HH9).out.2.2.1] at hgc
                        obtain ⟨GI, hGI⟩ : ∃ GI, GI = getIs Q z9 := ⟨_, rfl⟩
                        obtain ⟨GR, hGR⟩ : ∃ GR, GR = getR Q z9 := ⟨_, rfl⟩
                        obtain ⟨NG, hNG⟩ : ∃ NG, NG = GR.length := ⟨_, rfl⟩
                        rw [← hGI] at hgi hgr
                        rw [← hGR] at hgr hoy
                        rw [← hNG] at hoy
                        rw [← hGI, ← hGR, ← hNG]
                        clear hGI hGR hNG
                        rcases hgc with h1 | ⟨h1, h2⟩ | ⟨j, r9, rfl, hj, hrj, hgd⟩
                        · have hG : GI = false := by rw [hgi, decide_eq_false (by omega : ¬ 0 ≤ z9)]; rfl
                          subst hG
                          clear hgi hgr
                          go_wp2_with fail
                          exact ⟨⟨z9 + 1, by go_num, by omega, by omega, hbxy⟩, by simp [intOf]; omega⟩
                        · have hG : GI = false := by rw [hgi, decide_eq_false (by omega : ¬ z9 < ((k9 : Nat) : Int)), Bool.and_false]; rfl
                          subst hG
                          clear hgi hgr
                          go_wp2_with fail
                          exact ⟨⟨z9 + 1, by go_num, by omega, by omega, hbxy⟩, by simp [intOf]; omega⟩
                        · have hj' : (j : Int) < k9 := by omega
                          obtain ⟨b8, o8, av8, cv8, r8, ha8, hri8, hc8, hsl8⟩ := row_at hohy.sl ((hrh9).below hBy) j hj
                          rw [hrj] at hri8
                          cases hri8
                          rw [Int.toNat_natCast, hgd] at hgi hgr
                          rw [decide_eq_true (by omega : (0 : Int) ≤ (j : Int)), decide_eq_true hj'] at hgi
                          have HGD := Lib.hid hgd
                          have HRJ := Lib.hid hrj
                          clear hgd hrj
                          cases ha8
                          by_cases h0 : r9 = []
                          · subst h0
                            have hG : GI = false := hgi
                            subst hG
                            rw [List.length_nil] at hc8
                            clear hgi hgr hsl8
                            go_wp2_with fail
                            exact ⟨⟨(j : Int) + 1, by go_num, by omega, by omega, hbxy⟩, by simp [intOf]; omega⟩
                          · have hG : GI = true := by rw [hgi]; simpa using h0
                            subst hG
                            have hgr2 : GR = r9 := hgr
                            have hp9 : 0 < r9.length := List.length_pos_iff.2 h0
                            obtain ⟨L9, hL9⟩ : ∃ L9, L9 = r9.length := ⟨_, rfl⟩
                            rw [← hL9] at hc8 hsl8 hp9
                            have hp9' : (0 : Int) < L9 := by omega
                            have hL9b := hsl8.len
                            subst hgr2
                            clear hgi hgr hL9
                            go_wp2_with fail
                            refine (eqb_any ay NG cy av8 L9 cv8 GR GR wy hoy.sl hsl8 (by have h1 := hoy.len.1; have h2 := mem_le_flat _ _ (List.mem_of_getElem? HRJ.out); have h3 := (HH9).out.2.2.2; omega) (by have h1 := hsl8.len.1; have h2 := mem_le_flat _ _ (List.mem_of_getElem? HRJ.out); have h3 := (HH9).out.2.2.2; omega)).mono ?_
                            rintro e wz ⟨rfl, hbz⟩
                            rw [decide_eq_true rfl]
                            go_wp2_with fail
                            exact ⟨⟨(j : Int) + 1, by go_num, by omega, by omega, hbxy.trans (hbz.mono hbxy.size)⟩, by simp [intOf]; omega⟩
                · cases ha
                  have hk1 : (0 : Int) < k9 := by omega
                  have hL1 : ((L : Int) == 0) = false := by rw [beq_eq_false_iff_ne]; omega
                  obtain ⟨j0, hj0⟩ : ∃ j0, k9 = j0 + 1 := ⟨k9 - 1, by omega⟩
                  subst hj0
                  rw [Nat.add_sub_cancel] at hc
                  go_wp2_with fail
                  obtain ⟨k8, hk8⟩ : ∃ k8, k8 = j0 + 1 := ⟨_, rfl⟩
                  rw [← hk8] at ho9 hrh9 hsq9 HH9 hM9 ⊢
                  clear hk8
                  as_aux_lemma =>
                    go_loopw [15, 16, 17, 18] (fun v15 v16 v17 v18 wx => ∃ z9 : Int, v15 = .int .i64 z9 ∧ -1 ≤ z9 ∧ z9 ≤ (k8 : Int) + 1 ∧ Below (W8).heap.size W8 wx) (fun v15 _ _ _ _ => ((k8 : Int) + 1 - intOf v15).toNat)
                    case atStart => exact ⟨-1, rfl, by omega, by omega, Below.refl _ _⟩
                    case round =>
                      obtain ⟨z9, rfl, hz1, hz2, hbx⟩ := hrel
                      have hohx := (ho9).below hbx
                      have hsqx := (hsq9).below hbx
                      have hsqh := hsqx.here
                      have hBx := (hB8).trans (hbx.mono (hB8).size)
                      have hM9 := hM9
                      have hN9 := hNQ8
                      by_cases hze : z9 = (k8 : Int) + 1
                      · subst hze
                        go_wp2_with fail
                        refine (right_any a5 NQ c5 Q wr hsqh (by omega)).mono ?_
                        rintro e wy ⟨rfl, hby⟩
                        rw [(HH9).out.1]
                        go_wp2_with fail
                        exact ⟨⟨k + 1, NQ, k8, a5, c5, (X.take k8), Q, (cells8.take k8), by omega, by go_num, rfl, hNQ8, (HH9).out, hohx.below hby, hrh9, hsqx.below hby, hBx.trans (hby.mono hBx.size)⟩, by simp [intOf]; omega⟩
                      · have hlt9 : z9 ≤ (k8 : Int) := by omega
                        go_wp2_with fail
                        refine (get_any a5 NQ c5 Q wr z9 hsqh (by omega)).mono ?_
                        rintro e wy ⟨vy, rfl, hoy, hby⟩
                        obtain ⟨ay, cy, rfl⟩ := hoy.form
                        have hBy := hBx.trans (hby.mono hBx.size)
                        have hbxy := hbx.trans (hby.mono hbx.size)
                        have hohy := hohx.below hby
                        have hgi : getIs Q z9 = (decide (0 ≤ z9) && decide (z9 < ((k8 : Nat) : Int)) && !(((X.take k8)).getD z9.toNat []).isEmpty) := by
                          unfold getIs; rw [(HH9).out.2.1, ← (HH9).out.2.2.1]
                        have hgr : getR Q z9 = if getIs Q z9 then ((X.take k8)).getD z9.toNat [] else [] := by
                          unfold getR; rw [(HH9).out.2.1]
                        have hgc := get_cases (X.take k8) z9
                        rw [← (HH9).out.2.2.1] at hgc
                        obtain ⟨GI, hGI⟩ : ∃ GI, GI = getIs Q z9 := ⟨_, rfl⟩
                        obtain ⟨GR, hGR⟩ : ∃ GR, GR = getR Q z9 := ⟨_, rfl⟩
                        obtain ⟨NG, hNG⟩ : ∃ NG, NG = GR.length := ⟨_, rfl⟩
                        rw [← hGI] at hgi hgr
                        rw [← hGR] at hgr hoy
                        rw [← hNG] at hoy
                        rw [← hGI, ← hGR, ← hNG]
                        clear hGI hGR hNG
                        rcases hgc with h1 | ⟨h1, h2⟩ | ⟨j, r9, rfl, hj, hrj, hgd⟩
                        · have hG : GI = false := by rw [hgi, decide_eq_false (by omega : ¬ 0 ≤ z9)]; rfl
                          subst hG
                          clear hgi hgr
                          go_wp2_with fail
                          exact ⟨⟨z9 + 1, by go_num, by omega, by omega, hbxy⟩, by simp [intOf]; omega⟩
                        · have hG : GI = false := by rw [hgi, decide_eq_false (by omega : ¬ z9 < ((k8 : Nat) : Int)), Bool.and_false]; rfl
                          subst hG
                          clear hgi hgr
                          go_wp2_with fail
                          exact ⟨⟨z9 + 1, by go_num, by omega, by omega, hbxy⟩, by simp [intOf]; omega⟩
                        · have hj' : (j : Int) < k8 := by omega
                          obtain ⟨b8, o8, av8, cv8, r8, ha8, hri8, hc8, hsl8⟩ := row_at hohy.sl ((hrh9).below hBy) j hj
                          rw [hrj] at hri8
                          cases hri8
                          rw [Int.toNat_natCast, hgd] at hgi hgr
                          rw [decide_eq_true (by omega : (0 : Int) ≤ (j : Int)), decide_eq_true hj'] at hgi
                          have HGD := Lib.hid hgd
                          have HRJ := Lib.hid hrj
                          clear hgd hrj
                          cases ha8
                          by_cases h0 : r9 = []
                          · subst h0
                            have hG : GI = false := hgi
                            subst hG
                            rw [List.length_nil] at hc8
                            clear hgi hgr hsl8
                            go_wp2_with fail
                            exact ⟨⟨(j : Int) + 1, by go_num, by omega, by omega, hbxy⟩, by simp [intOf]; omega⟩
                          · have hG : GI = true := by rw [hgi]; simpa using h0
                            subst hG
                            have hgr2 : GR = r9 := hgr
                            have hp9 : 0 < r9.length := List.length_pos_iff.2 h0
                            obtain ⟨L9, hL9⟩ : ∃ L9, L9 = r9.length := ⟨_, rfl⟩
                            rw [← hL9] at hc8 hsl8 hp9
                            have hp9' : (0 : Int) < L9 := by omega
                            have hL9b := hsl8.len
                            subst hgr2
                            clear hgi hgr hL9
                            go_wp2_with fail
                            refine (eqb_any ay NG cy av8 L9 cv8 GR GR wy hoy.sl hsl8 (by have h1 := hoy.len.1; have h2 := mem_le_flat _ _ (List.mem_of_getElem? HRJ.out); have h3 := (HH9).out.2.2.2; omega) (by have h1 := hsl8.len.1; have h2 := mem_le_flat _ _ (List.mem_of_getElem? HRJ.out); have h3 := (HH9).out.2.2.2; omega)).mono ?_
                            rintro e wz ⟨rfl, hbz⟩
                            rw [decide_eq_true rfl]
                            go_wp2_with fail
                            exact ⟨⟨(j : Int) + 1, by go_num, by omega, by omega, hbxy.trans (hbz.mono hbxy.size)⟩, by simp [intOf]; omega⟩
              · have HTe := Lib.hid hTe
                clear hTe
                cases ha
                have hk1 : (0 : Int) < k9 := by omega
                obtain ⟨j0, hj0⟩ : ∃ j0, k9 = j0 + 1 := ⟨k9 - 1, by omega⟩
                subst hj0
                rw [Nat.add_sub_cancel] at hc
                go_wp2_with fail
                exact ⟨⟨j0, by omega, rfl, HTe.out⟩, by simp⟩
      · have hm1 : (0 : Int) < m := by omega
        have hrne : r ≠ [] := by intro h; have := HRM.out; rw [h] at this; simp at this; omega
        have hkp := keep_put HH.out.1 HH.out.2.1 hrne
        have HKP := Lib.hid hkp
        clear hrne hkp
        go_wp2_with fail
        go_loop [6] (fun v6 => ∃ f : Nat, f ≤ M ∧ v6 = .int .i64 f ∧ ∀ j (h : j < f) (hj : j < H.length), H[j].isEmpty = false) (fun v6 => M - (intOf v6).toNat)
        case atStart => exact ⟨0, Nat.zero_le _, rfl, fun j h => by omega⟩
        case round =>
          obtain ⟨f, hf, rfl, hj⟩ := hrel
          have HJ := Lib.hid hj
          clear hj
          by_cases hfM : f = M
          · have hF : Hid (freeL H = M) := by
              show _ = _
              rw [HH.out.2.2.1]
              exact freeL_end H fun j hj => HJ.out j (by rw [hfM, HH.out.2.2.1]; exact hj) hj
            obtain rfl : M = f := hfM.symm
            obtain ⟨T, hT⟩ : ∃ T, T = 1 + (M + 1) + m := ⟨_, rfl⟩
            have hMX : T = 1 + (putRows H r).length + m := by
              rw [hT, putRows_len, if_pos (by rw [hF.out, HH.out.2.2.1]), ← HH.out.2.2.1]
            go_wp2_with fail
            refine (copyb_any av m cv r wr (hsl.below hB)).mono ?_
            rintro e w3 ⟨v3, rfl, ho3, hb3⟩
            obtain ⟨a5, c5, rfl⟩ := ho3.form
            have hB3 := hB.trans (hb3.mono hB.size)
            have hoh3 := hoh.below hb3
            have hsq3 := hsq.below hb3
            have hs5 := hsq3.here
            replace hc0 := (hb3.cell (p := ⟨b, off + k * 2, none⟩) (lt_of_cell hc0)).trans hc0
            replace hc1 := (hb3.cell (p := ⟨b, off + k * 2 + 1, none⟩) (lt_of_cell hc1)).trans hc1
            have HT := Lib.hid hT
            have HMX := Lib.hid hMX
            clear hT hMX
            go_wp2_with fail
            refine (put_any a3 N c3 q a5 m c5 r w3 hs5 (by omega) ho3.sl (by omega)).mono ?_
            rintro e w4 ⟨v4, rfl, ho4, hb4⟩
            obtain ⟨a6, c6, rfl⟩ := ho4.form
            have hB4 := hB3.trans (hb4.mono hB3.size)
            have hoh4 := hoh3.below hb4
            have hsq4 := hsq3.below hb4
            replace hc0 := (hb4.cell (p := ⟨b, off + k * 2, none⟩) (lt_of_cell hc0)).trans hc0
            replace hc1 := (hb4.cell (p := ⟨b, off + k * 2 + 1, none⟩) (lt_of_cell hc1)).trans hc1
            obtain ⟨PI, hPI⟩ : ∃ PI, PI = putIs q r := ⟨_, rfl⟩
            obtain ⟨PS, hPS⟩ : ∃ PS, PS = putS q r := ⟨_, rfl⟩
            obtain ⟨Q, hQ⟩ : ∃ Q, Q = putQ q r := ⟨_, rfl⟩
            obtain ⟨NQ, hNQ⟩ : ∃ NQ, NQ = Q.length := ⟨_, rfl⟩
            obtain ⟨LS, hLS⟩ : ∃ LS, LS = H.flatten.length := ⟨_, rfl⟩
            have HX : Hid ((PI = true → T + LS ≤ 248 ∧ PS = ((M : Nat) : Int) ∧ NQ = T + LS ∧ readOk Q = true ∧ readL Q = putRows H r) ∧ (PI = false → ¬ T + LS ≤ 248)) := by
              obtain ⟨k1, k2, k3⟩ := HKP.out
              have e1 := HMX.out
              rw [← hLS, HRM.out] at k2
              rw [← hPI, k2] at k1
              rw [← hPI, ← hQ, ← hPS, hF.out] at k3
              refine ⟨fun h => ?_, fun h => ?_⟩
              · obtain ⟨k4, k5, k6, k7, k8⟩ := k3 h
                rw [h] at k1
                have k9 : 1 + (putRows H r).length + (LS + m) ≤ 248 := by simpa using k1.symm
                refine ⟨by omega, k5, ?_, k6, k7⟩
                rw [hNQ, k4, k2]; omega
              · rw [h] at k1
                have k9 : ¬ 1 + (putRows H r).length + (LS + m) ≤ 248 := by simpa using k1.symm
                omega
            have HLS := Lib.hid hLS
            have hLS2 : LS ≤ 247 := by have := HH.out; omega
            have hT2 : T ≤ 1000 := by have := HT.out; omega
            have HNQ := Lib.hid hNQ
            rw [← hQ, ← hNQ] at ho4
            rw [← hPI, ← hPS, ← hQ, ← hNQ]
            clear hPI hPS hQ hNQ hLS
            go_wp2_with fail
            go_loop [10, 11] (fun v10 v11 => ∃ i Z : Nat, i ≤ M ∧ v11 = .int .i64 i ∧ v10 = .int .i64 (Z : Int) ∧ Z = T + (H.take i).flatten.length) (fun _ v11 => M - (intOf v11).toNat)
            case atStart =>
              have := HT.out
              exact ⟨0, T, Nat.zero_le _, rfl, by go_num, by simp⟩
            case' round =>
              obtain ⟨i, Z, hi, rfl, rfl, hZ⟩ := hrel
              have HZ := Lib.hid hZ
              have hZ2 : Z ≤ 1500 := by have h1 := flat_le H i; rw [← HLS.out] at h1; omega
              clear hZ
              by_cases hiM : i = M
              rotate_left
              · have hlt3 : i < M := by omega
                have hlt4 : (i : Int) < M := by omega
                obtain ⟨b7, o7, av7, cv7, r7, ha7, hri7, hc7, hsl7⟩ := row_at hoh4.sl (hrh.below hB4) i hlt3
                obtain ⟨L7, hL7⟩ : ∃ L7, L7 = r7.length := ⟨_, rfl⟩
                have HF7 := Lib.hid (flat_snoc H i r7 hri7)
                have hle7 : Z + L7 ≤ 1500 := by
                  have h1 := flat_le H (i + 1)
                  rw [HF7.out, List.length_append, ← HLS.out, ← hL7] at h1
                  have := HZ.out
                  omega
                rw [← hL7] at hc7
                have HL7 := Lib.hid hL7
                cases ha7
                clear hL7 hri7 hsl7
                go_wp2_with fail
                exact ⟨⟨i + 1, Z + L7, by omega, by go_num, by go_num, by rw [HF7.out, List.length_append, HZ.out, HL7.out]; omega⟩, by simp [intOf]; omega⟩
              have HZL : Hid (Z = T + LS) := by show _ = _; rw [HZ.out, hiM, HH.out.2.2.1, List.take_length, ← HLS.out]
              obtain rfl : M = i := hiM.symm
            cases PI with
            | false =>
              have hbig : ¬ (Z : Int) ≤ 248 := by have h1 := HX.out.2 rfl; have h2 := HZL.out; omega
              go_wp2_with fail
              as_aux_lemma =>
                go_loopw [15, 16, 17, 18] (fun v15 v16 v17 v18 wx => ∃ z9 : Int, v15 = .int .i64 z9 ∧ -1 ≤ z9 ∧ z9 ≤ (M : Int) + 1 ∧ Below (w4).heap.size w4 wx) (fun v15 _ _ _ _ => ((M : Int) + 1 - intOf v15).toNat)
                case atStart => exact ⟨-1, rfl, by omega, by omega, Below.refl _ _⟩
                case round =>
                  obtain ⟨z9, rfl, hz1, hz2, hbx⟩ := hrel
                  have hohx := (hoh4).below hbx
                  have hsqx := (hsq4).below hbx
                  have hsqh := hsqx.here
                  have hBx := (hB4).trans (hbx.mono (hB4).size)
                  have hM9 := hM
                  have hN9 := hN
                  by_cases hze : z9 = (M : Int) + 1
                  · subst hze
                    go_wp2_with fail
                    refine (right_any a3 N c3 q wr hsqh (by omega)).mono ?_
                    rintro e wy ⟨rfl, hby⟩
                    rw [(HH).out.1]
                    go_wp2_with fail
                    exact ⟨⟨k + 1, N, M, a3, c3, H, q, cells, by omega, by go_num, rfl, hN, (HH).out, hohx.below hby, hrh, hsqx.below hby, hBx.trans (hby.mono hBx.size)⟩, by simp [intOf]; omega⟩
                  · have hlt9 : z9 ≤ (M : Int) := by omega
                    go_wp2_with fail
                    refine (get_any a3 N c3 q wr z9 hsqh (by omega)).mono ?_
                    rintro e wy ⟨vy, rfl, hoy, hby⟩
                    obtain ⟨ay, cy, rfl⟩ := hoy.form
                    have hBy := hBx.trans (hby.mono hBx.size)
                    have hbxy := hbx.trans (hby.mono hbx.size)
                    have hohy := hohx.below hby
                    have hgi : getIs q z9 = (decide (0 ≤ z9) && decide (z9 < ((M : Nat) : Int)) && !((H).getD z9.toNat []).isEmpty) := by
                      unfold getIs; rw [(HH).out.2.1, ← (HH).out.2.2.1]
                    have hgr : getR q z9 = if getIs q z9 then (H).getD z9.toNat [] else [] := by
                      unfold getR; rw [(HH).out.2.1]
                    have hgc := get_cases H z9
                    rw [← (HH).out.2.2.1] at hgc
                    obtain ⟨GI, hGI⟩ : ∃ GI, GI = getIs q z9 := ⟨_, rfl⟩
                    obtain ⟨GR, hGR⟩ : ∃ GR, GR = getR q z9 := ⟨_, rfl⟩
                    obtain ⟨NG, hNG⟩ : ∃ NG, NG = GR.length := ⟨_, rfl⟩
                    rw [← hGI] at hgi hgr
                    rw [← hGR] at hgr hoy
                    rw [← hNG] at hoy
                    rw [← hGI, ← hGR, ← hNG]
                    clear hGI hGR hNG
                    rcases hgc with h1 | ⟨h1, h2⟩ | ⟨j, r9, rfl, hj, hrj, hgd⟩
                    · have hG : GI = false := by rw [hgi, decide_eq_false (by omega : ¬ 0 ≤ z9)]; rfl
                      subst hG
                      clear hgi hgr
                      go_wp2_with fail
                      exact ⟨⟨z9 + 1, by go_num, by omega, by omega, hbxy⟩, by simp [intOf]; omega⟩
                    · have hG : GI = false := by rw [hgi, decide_eq_false (by omega : ¬ z9 < ((M : Nat) : Int)), Bool.and_false]; rfl
                      subst hG
                      clear hgi hgr
                      go_wp2_with fail
                      exact ⟨⟨z9 + 1, by go_num, by omega, by omega, hbxy⟩, by simp [intOf]; omega⟩
                    · have hj' : (j : Int) < M := by omega
                      obtain ⟨b8, o8, av8, cv8, r8, ha8, hri8, hc8, hsl8⟩ := row_at hohy.sl ((hrh).below hBy) j hj
                      rw [hrj] at hri8
                      cases hri8
                      rw [Int.toNat_natCast, hgd] at hgi hgr
                      rw [decide_eq_true (by omega : (0 : Int) ≤ (j : Int)), decide_eq_true hj'] at hgi
                      have HGD := Lib.hid hgd
                      have HRJ := Lib.hid hrj
                      clear hgd hrj
                      cases ha8
                      by_cases h0 : r9 = []
                      · subst h0
                        have hG : GI = false := hgi
                        subst hG
                        rw [List.length_nil] at hc8
                        clear hgi hgr hsl8
                        go_wp2_with fail
                        exact ⟨⟨(j : Int) + 1, by go_num, by omega, by omega, hbxy⟩, by simp [intOf]; omega⟩
                      · have hG : GI = true := by rw [hgi]; simpa using h0
                        subst hG
                        have hgr2 : GR = r9 := hgr
                        have hp9 : 0 < r9.length := List.length_pos_iff.2 h0
                        obtain ⟨L9, hL9⟩ : ∃ L9, L9 = r9.length := ⟨_, rfl⟩
                        rw [← hL9] at hc8 hsl8 hp9
                        have hp9' : (0 : Int) < L9 := by omega
                        have hL9b := hsl8.len
                        subst hgr2
                        clear hgi hgr hL9
                        go_wp2_with fail
                        refine (eqb_any ay NG cy av8 L9 cv8 GR GR wy hoy.sl hsl8 (by have h1 := hoy.len.1; have h2 := mem_le_flat _ _ (List.mem_of_getElem? HRJ.out); have h3 := (HH).out.2.2.2; omega) (by have h1 := hsl8.len.1; have h2 := mem_le_flat _ _ (List.mem_of_getElem? HRJ.out); have h3 := (HH).out.2.2.2; omega)).mono ?_
                        rintro e wz ⟨rfl, hbz⟩
                        rw [decide_eq_true rfl]
                        go_wp2_with fail
                        exact ⟨⟨(j : Int) + 1, by go_num, by omega, by omega, hbxy.trans (hbz.mono hbxy.size)⟩, by simp [intOf]; omega⟩
            | true =>
              have hx := HX.out.1 rfl
              have HY := Lib.hid hx
              obtain rfl : PS = _ := hx.2.1
              obtain rfl : Z = NQ := by rw [HZL.out, hx.2.2.1]
              have hbig : (Z : Int) ≤ 248 := by have h1 := hx.1; have h2 := HZL.out; omega
              have hNQ8 : Z ≤ 248 := by omega
              clear hx
              have hPR : putRows H r = H ++ [r] := by rw [putRows, if_pos (by rw [hF.out, HH.out.2.2.1])]
              have HPR := Lib.hid hPR
              clear hPR
              have ho5 := hoh4.alloc (.cells #[.slice none 0 0] 22)
              have hn5 := Sl.one w4 (.slice none 0 0) 22
              have hB5 := hB4.alloc hB4.size (.cells #[.slice none 0 0] 22)
              have hsq5 := (Far.own hoh3 ho4 (Nat.le_refl _)).below ((Below.refl _ _).alloc (Nat.le_refl _) (.cells #[.slice none 0 0] 22))
              go_wp2_with (at_builtin; refine wpL_appendX etBB rfl _ _ rfl ho5 rfl hn5 rfl (by simp [Value.oneCell']) (by omega) (by simp [maxLen]; omega) hB5.size ?_; intro v7 w7 ho7 hg7 hv7; have hB7 := below_own hB5 ho5 hg7 (Nat.le_refl _) hB5.size; have hsq7 := hsq5.grown hg7 hv7; have hc7 := (hB7.cell (p := ⟨b, off + k * 2, none⟩) (lt_of_cell hw0.out)).trans hw0.out; obtain ⟨g, off7, cap, rfl, hg1, hg2, hg3, hg5, hg6⟩ := ho7.open (by omega) (by decide); obtain ⟨hq7, hq8⟩ := own_last ho7; clear hg6 hg7 hv7)
              have hB8 : Below w.heap.size w (w7.setCell ⟨g, off7 + M, none⟩ (.slice av m cv)) := hB7.setCell (p := ⟨g, off7 + M, none⟩) hg1 _
              have ho8 := ho7.set M (.slice av m cv)
              have hrh8 : RowsOf w ((cells ++ [Value.slice none 0 0]).set M (.slice av m cv)) (putRows H r) := by
                rw [HPR.out]
                have hc := hrh.1
                rw [← HH.out.2.2.1] at hc
                rw [List.set_append_right _ _ (by omega), hc, Nat.sub_self, List.set_cons_zero]
                exact hrh.snoc HRM.out.symm hsl
              have hsq8 := hsq7.grown (grown_set w7 g (off7 + M) (.slice av m cv)) (v' := .slice (some ⟨g, off7, none⟩) (M + 1) cap) (fun g' h => .inl h)
              have HH8 : Hid (readOk Q = true ∧ readL Q = putRows H r ∧ M + 1 = (putRows H r).length ∧ M + 1 + (putRows H r).flatten.length ≤ 247) := by
                have h1 := read_parts HY.out.2.2.2.1
                rw [HY.out.2.2.2.2] at h1
                have h2 : M + 1 = (putRows H r).length := by rw [HPR.out, List.length_append, ← HH.out.2.2.1]; rfl
                exact ⟨HY.out.2.2.2.1, HY.out.2.2.2.2, h2, by omega⟩
              obtain ⟨M9, hM9⟩ : ∃ M9, M9 = M + 1 := ⟨_, rfl⟩
              rw [← hM9] at ho8 hsq8 HH8 ⊢
              have hMM : M9 ≤ 247 := by have := HH8.out; omega
              generalize w7.setCell ⟨g, off7 + M, none⟩ (.slice av m cv) = W8 at hB8 ho8 hsq8 ⊢
              clear hM9
              as_aux_lemma =>
                go_loopw [15, 16, 17, 18] (fun v15 v16 v17 v18 wx => ∃ z9 : Int, v15 = .int .i64 z9 ∧ -1 ≤ z9 ∧ z9 ≤ (M9 : Int) + 1 ∧ Below (W8).heap.size W8 wx) (fun v15 _ _ _ _ => ((M9 : Int) + 1 - intOf v15).toNat)
                case atStart => exact ⟨-1, rfl, by omega, by omega, Below.refl _ _⟩
                case round =>
                  obtain ⟨z9, rfl, hz1, hz2, hbx⟩ := hrel
                  have hohx := (ho8).below hbx
                  have hsqx := (hsq8).below hbx
                  have hsqh := hsqx.here
                  have hBx := (hB8).trans (hbx.mono (hB8).size)
                  have hM9 := hMM
                  have hN9 := hNQ8
                  by_cases hze : z9 = (M9 : Int) + 1
                  · subst hze
                    go_wp2_with fail
                    refine (right_any a6 Z c6 Q wr hsqh (by omega)).mono ?_
                    rintro e wy ⟨rfl, hby⟩
                    rw [(HH8).out.1]
                    go_wp2_with fail
                    exact ⟨⟨k + 1, Z, M9, a6, c6, (putRows H r), Q, ((cells ++ [Value.slice none 0 0]).set M (.slice av m cv)), by omega, by go_num, rfl, hNQ8, (HH8).out, hohx.below hby, hrh8, hsqx.below hby, hBx.trans (hby.mono hBx.size)⟩, by simp [intOf]; omega⟩
                  · have hlt9 : z9 ≤ (M9 : Int) := by omega
                    go_wp2_with fail
                    refine (get_any a6 Z c6 Q wr z9 hsqh (by omega)).mono ?_
                    rintro e wy ⟨vy, rfl, hoy, hby⟩
                    obtain ⟨ay, cy, rfl⟩ := hoy.form
                    have hBy := hBx.trans (hby.mono hBx.size)
                    have hbxy := hbx.trans (hby.mono hbx.size)
                    have hohy := hohx.below hby
                    have hgi : getIs Q z9 = (decide (0 ≤ z9) && decide (z9 < ((M9 : Nat) : Int)) && !(((putRows H r)).getD z9.toNat []).isEmpty) := by
                      unfold getIs; rw [(HH8).out.2.1, ← (HH8).out.2.2.1]
                    have hgr : getR Q z9 = if getIs Q z9 then ((putRows H r)).getD z9.toNat [] else [] := by
                      unfold getR; rw [(HH8).out.2.1]
                    have hgc := get_cases (putRows H r) z9
                    rw [← (HH8).out.2.2.1] at hgc
                    obtain ⟨GI, hGI⟩ : ∃ GI, GI = getIs Q z9 := ⟨_, rfl⟩
                    obtain ⟨GR, hGR⟩ : ∃ GR, GR = getR Q z9 := ⟨_, rfl⟩
                    obtain ⟨NG, hNG⟩ : ∃ NG, NG = GR.length := ⟨_, rfl⟩
                    rw [← hGI] at hgi hgr
                    rw [← hGR] at hgr hoy
                    rw [← hNG] at hoy
                    rw [← hGI, ← hGR, ← hNG]
                    clear hGI hGR hNG
                    rcases hgc with h1 | ⟨h1, h2⟩ | ⟨j, r9, rfl, hj, hrj, hgd⟩
                    · have hG : GI = false := by rw [hgi, decide_eq_false (by omega : ¬ 0 ≤ z9)]; rfl
                      subst hG
                      clear hgi hgr
                      go_wp2_with fail
                      exact ⟨⟨z9 + 1, by go_num, by omega, by omega, hbxy⟩, by simp [intOf]; omega⟩
                    · have hG : GI = false := by rw [hgi, decide_eq_false (by omega : ¬ z9 < ((M9 : Nat) : Int)), Bool.and_false]; rfl
                      subst hG
                      clear hgi hgr
                      go_wp2_with fail
                      exact ⟨⟨z9 + 1, by go_num, by omega, by omega, hbxy⟩, by simp [intOf]; omega⟩
                    · have hj' : (j : Int) < M9 := by omega
                      obtain ⟨b8, o8, av8, cv8, r8, ha8, hri8, hc8, hsl8⟩ := row_at hohy.sl ((hrh8).below hBy) j hj
                      rw [hrj] at hri8
                      cases hri8
                      rw [Int.toNat_natCast, hgd] at hgi hgr
                      rw [decide_eq_true (by omega : (0 : Int) ≤ (j : Int)), decide_eq_true hj'] at hgi
                      have HGD := Lib.hid hgd
                      have HRJ := Lib.hid hrj
                      clear hgd hrj
                      cases ha8
                      by_cases h0 : r9 = []
                      · subst h0
                        have hG : GI = false := hgi
                        subst hG
                        rw [List.length_nil] at hc8
                        clear hgi hgr hsl8
                        go_wp2_with fail
                        exact ⟨⟨(j : Int) + 1, by go_num, by omega, by omega, hbxy⟩, by simp [intOf]; omega⟩
                      · have hG : GI = true := by rw [hgi]; simpa using h0
                        subst hG
                        have hgr2 : GR = r9 := hgr
                        have hp9 : 0 < r9.length := List.length_pos_iff.2 h0
                        obtain ⟨L9, hL9⟩ : ∃ L9, L9 = r9.length := ⟨_, rfl⟩
                        rw [← hL9] at hc8 hsl8 hp9
                        have hp9' : (0 : Int) < L9 := by omega
                        have hL9b := hsl8.len
                        subst hgr2
                        clear hgi hgr hL9
                        go_wp2_with fail
                        refine (eqb_any ay NG cy av8 L9 cv8 GR GR wy hoy.sl hsl8 (by have h1 := hoy.len.1; have h2 := mem_le_flat _ _ (List.mem_of_getElem? HRJ.out); have h3 := (HH8).out.2.2.2; omega) (by have h1 := hsl8.len.1; have h2 := mem_le_flat _ _ (List.mem_of_getElem? HRJ.out); have h3 := (HH8).out.2.2.2; omega)).mono ?_
                        rintro e wz ⟨rfl, hbz⟩
                        rw [decide_eq_true rfl]
                        go_wp2_with fail
                        exact ⟨⟨(j : Int) + 1, by go_num, by omega, by omega, hbxy.trans (hbz.mono hbxy.size)⟩, by simp [intOf]; omega⟩
          · have hlf : f < M := by omega
            obtain ⟨b3, o3, av3, cv3, r3, ha3, hri3, hc3, hsl3⟩ := row_at hoh.sl (hrh.below hB) f hlf
            have HRI := Lib.hid hri3
            cases ha3
            by_cases h0 : r3 = []
            · subst h0
              have hF : Hid (freeL H = f) := by
                have hk2 : f < H.length := by rw [← HH.out.2.2.1]; exact hlf
                refine findIdx_at H f hk2 ?_ HJ.out
                have := HRI.out
                rw [List.getElem?_eq_getElem hk2] at this
                rw [Option.some.inj this]; rfl
              have hfM2 : ((f : Int) == (M : Int)) = false := by rw [beq_eq_false_iff_ne]; omega
              rw [List.length_nil] at hc3
              clear hri3 hsl3
              obtain ⟨T, hT⟩ : ∃ T, T = 1 + M + m := ⟨_, rfl⟩
              have hMX : T = 1 + (putRows H r).length + m := by
                rw [hT, putRows_len, if_neg (by rw [hF.out, ← HH.out.2.2.1]; exact hfM), ← HH.out.2.2.1]
              go_wp2_with fail
              refine (copyb_any av m cv r wr (hsl.below hB)).mono ?_
              rintro e w3 ⟨v3, rfl, ho3, hb3⟩
              obtain ⟨a5, c5, rfl⟩ := ho3.form
              have hB3 := hB.trans (hb3.mono hB.size)
              have hoh3 := hoh.below hb3
              have hsq3 := hsq.below hb3
              have hs5 := hsq3.here
              replace hc0 := (hb3.cell (p := ⟨b, off + k * 2, none⟩) (lt_of_cell hc0)).trans hc0
              replace hc1 := (hb3.cell (p := ⟨b, off + k * 2 + 1, none⟩) (lt_of_cell hc1)).trans hc1
              have HT := Lib.hid hT
              have HMX := Lib.hid hMX
              clear hT hMX
              go_wp2_with fail
              refine (put_any a3 N c3 q a5 m c5 r w3 hs5 (by omega) ho3.sl (by omega)).mono ?_
              rintro e w4 ⟨v4, rfl, ho4, hb4⟩
              obtain ⟨a6, c6, rfl⟩ := ho4.form
              have hB4 := hB3.trans (hb4.mono hB3.size)
              have hoh4 := hoh3.below hb4
              have hsq4 := hsq3.below hb4
              replace hc0 := (hb4.cell (p := ⟨b, off + k * 2, none⟩) (lt_of_cell hc0)).trans hc0
              replace hc1 := (hb4.cell (p := ⟨b, off + k * 2 + 1, none⟩) (lt_of_cell hc1)).trans hc1
              obtain ⟨PI, hPI⟩ : ∃ PI, PI = putIs q r := ⟨_, rfl⟩
              obtain ⟨PS, hPS⟩ : ∃ PS, PS = putS q r := ⟨_, rfl⟩
              obtain ⟨Q, hQ⟩ : ∃ Q, Q = putQ q r := ⟨_, rfl⟩
              obtain ⟨NQ, hNQ⟩ : ∃ NQ, NQ = Q.length := ⟨_, rfl⟩
              obtain ⟨LS, hLS⟩ : ∃ LS, LS = H.flatten.length := ⟨_, rfl⟩
              have HX : Hid ((PI = true → T + LS ≤ 248 ∧ PS = ((f : Nat) : Int) ∧ NQ = T + LS ∧ readOk Q = true ∧ readL Q = putRows H r) ∧ (PI = false → ¬ T + LS ≤ 248)) := by
                obtain ⟨k1, k2, k3⟩ := HKP.out
                have e1 := HMX.out
                rw [← hLS, HRM.out] at k2
                rw [← hPI, k2] at k1
                rw [← hPI, ← hQ, ← hPS, hF.out] at k3
                refine ⟨fun h => ?_, fun h => ?_⟩
                · obtain ⟨k4, k5, k6, k7, k8⟩ := k3 h
                  rw [h] at k1
                  have k9 : 1 + (putRows H r).length + (LS + m) ≤ 248 := by simpa using k1.symm
                  refine ⟨by omega, k5, ?_, k6, k7⟩
                  rw [hNQ, k4, k2]; omega
                · rw [h] at k1
                  have k9 : ¬ 1 + (putRows H r).length + (LS + m) ≤ 248 := by simpa using k1.symm
                  omega
              have HLS := Lib.hid hLS
              have hLS2 : LS ≤ 247 := by have := HH.out; omega
              have hT2 : T ≤ 1000 := by have := HT.out; omega
              have HNQ := Lib.hid hNQ
              rw [← hQ, ← hNQ] at ho4
              rw [← hPI, ← hPS, ← hQ, ← hNQ]
              clear hPI hPS hQ hNQ hLS
              go_wp2_with fail
              go_loop [10, 11] (fun v10 v11 => ∃ i Z : Nat, i ≤ M ∧ v11 = .int .i64 i ∧ v10 = .int .i64 (Z : Int) ∧ Z = T + (H.take i).flatten.length) (fun _ v11 => M - (intOf v11).toNat)
              case atStart =>
                have := HT.out
                exact ⟨0, T, Nat.zero_le _, rfl, by go_num, by simp⟩
              case' round =>
                obtain ⟨i, Z, hi, rfl, rfl, hZ⟩ := hrel
                have HZ := Lib.hid hZ
                have hZ2 : Z ≤ 1500 := by have h1 := flat_le H i; rw [← HLS.out] at h1; omega
                clear hZ
                by_cases hiM : i = M
                rotate_left
                · have hlt3 : i < M := by omega
                  have hlt4 : (i : Int) < M := by omega
                  obtain ⟨b7, o7, av7, cv7, r7, ha7, hri7, hc7, hsl7⟩ := row_at hoh4.sl (hrh.below hB4) i hlt3
                  obtain ⟨L7, hL7⟩ : ∃ L7, L7 = r7.length := ⟨_, rfl⟩
                  have HF7 := Lib.hid (flat_snoc H i r7 hri7)
                  have hle7 : Z + L7 ≤ 1500 := by
                    have h1 := flat_le H (i + 1)
                    rw [HF7.out, List.length_append, ← HLS.out, ← hL7] at h1
                    have := HZ.out
                    omega
                  rw [← hL7] at hc7
                  have HL7 := Lib.hid hL7
                  cases ha7
                  clear hL7 hri7 hsl7
                  go_wp2_with fail
                  exact ⟨⟨i + 1, Z + L7, by omega, by go_num, by go_num, by rw [HF7.out, List.length_append, HZ.out, HL7.out]; omega⟩, by simp [intOf]; omega⟩
                have HZL : Hid (Z = T + LS) := by show _ = _; rw [HZ.out, hiM, HH.out.2.2.1, List.take_length, ← HLS.out]
                obtain rfl : M = i := hiM.symm
              cases PI with
              | false =>
                have hbig : ¬ (Z : Int) ≤ 248 := by have h1 := HX.out.2 rfl; have h2 := HZL.out; omega
                go_wp2_with fail
                as_aux_lemma =>
                  go_loopw [15, 16, 17, 18] (fun v15 v16 v17 v18 wx => ∃ z9 : Int, v15 = .int .i64 z9 ∧ -1 ≤ z9 ∧ z9 ≤ (M : Int) + 1 ∧ Below (w4).heap.size w4 wx) (fun v15 _ _ _ _ => ((M : Int) + 1 - intOf v15).toNat)
                  case atStart => exact ⟨-1, rfl, by omega, by omega, Below.refl _ _⟩
                  case round =>
                    obtain ⟨z9, rfl, hz1, hz2, hbx⟩ := hrel
                    have hohx := (hoh4).below hbx
                    have hsqx := (hsq4).below hbx
                    have hsqh := hsqx.here
                    have hBx := (hB4).trans (hbx.mono (hB4).size)
                    have hM9 := hM
                    have hN9 := hN
                    by_cases hze : z9 = (M : Int) + 1
                    · subst hze
                      go_wp2_with fail
                      refine (right_any a3 N c3 q wr hsqh (by omega)).mono ?_
                      rintro e wy ⟨rfl, hby⟩
                      rw [(HH).out.1]
                      go_wp2_with fail
                      exact ⟨⟨k + 1, N, M, a3, c3, H, q, cells, by omega, by go_num, rfl, hN, (HH).out, hohx.below hby, hrh, hsqx.below hby, hBx.trans (hby.mono hBx.size)⟩, by simp [intOf]; omega⟩
                    · have hlt9 : z9 ≤ (M : Int) := by omega
                      go_wp2_with fail
                      refine (get_any a3 N c3 q wr z9 hsqh (by omega)).mono ?_
                      rintro e wy ⟨vy, rfl, hoy, hby⟩
                      obtain ⟨ay, cy, rfl⟩ := hoy.form
                      have hBy := hBx.trans (hby.mono hBx.size)
                      have hbxy := hbx.trans (hby.mono hbx.size)
                      have hohy := hohx.below hby
                      have hgi : getIs q z9 = (decide (0 ≤ z9) && decide (z9 < ((M : Nat) : Int)) && !((H).getD z9.toNat []).isEmpty) := by
                        unfold getIs; rw [(HH).out.2.1, ← (HH).out.2.2.1]
                      have hgr : getR q z9 = if getIs q z9 then (H).getD z9.toNat [] else [] := by
                        unfold getR; rw [(HH).out.2.1]
                      have hgc := get_cases H z9
                      rw [← (HH).out.2.2.1] at hgc
                      obtain ⟨GI, hGI⟩ : ∃ GI, GI = getIs q z9 := ⟨_, rfl⟩
                      obtain ⟨GR, hGR⟩ : ∃ GR, GR = getR q z9 := ⟨_, rfl⟩
                      obtain ⟨NG, hNG⟩ : ∃ NG, NG = GR.length := ⟨_, rfl⟩
                      rw [← hGI] at hgi hgr
                      rw [← hGR] at hgr hoy
                      rw [← hNG] at hoy
                      rw [← hGI, ← hGR, ← hNG]
                      clear hGI hGR hNG
                      rcases hgc with h1 | ⟨h1, h2⟩ | ⟨j, r9, rfl, hj, hrj, hgd⟩
                      · have hG : GI = false := by rw [hgi, decide_eq_false (by omega : ¬ 0 ≤ z9)]; rfl
                        subst hG
                        clear hgi hgr
                        go_wp2_with fail
                        exact ⟨⟨z9 + 1, by go_num, by omega, by omega, hbxy⟩, by simp [intOf]; omega⟩
                      · have hG : GI = false := by rw [hgi, decide_eq_false (by omega : ¬ z9 < ((M : Nat) : Int)), Bool.and_false]; rfl
                        subst hG
                        clear hgi hgr
                        go_wp2_with fail
                        exact ⟨⟨z9 + 1, by go_num, by omega, by omega, hbxy⟩, by simp [intOf]; omega⟩
                      · have hj' : (j : Int) < M := by omega
                        obtain ⟨b8, o8, av8, cv8, r8, ha8, hri8, hc8, hsl8⟩ := row_at hohy.sl ((hrh).below hBy) j hj
                        rw [hrj] at hri8
                        cases hri8
                        rw [Int.toNat_natCast, hgd] at hgi hgr
                        rw [decide_eq_true (by omega : (0 : Int) ≤ (j : Int)), decide_eq_true hj'] at hgi
                        have HGD := Lib.hid hgd
                        have HRJ := Lib.hid hrj
                        clear hgd hrj
                        cases ha8
                        by_cases h0 : r9 = []
                        · subst h0
                          have hG : GI = false := hgi
                          subst hG
                          rw [List.length_nil] at hc8
                          clear hgi hgr hsl8
                          go_wp2_with fail
                          exact ⟨⟨(j : Int) + 1, by go_num, by omega, by omega, hbxy⟩, by simp [intOf]; omega⟩
                        · have hG : GI = true := by rw [hgi]; simpa using h0
                          subst hG
                          have hgr2 : GR = r9 := hgr
                          have hp9 : 0 < r9.length := List.length_pos_iff.2 h0
                          obtain ⟨L9, hL9⟩ : ∃ L9, L9 = r9.length := ⟨_, rfl⟩
                          rw [← hL9] at hc8 hsl8 hp9
                          have hp9' : (0 : Int) < L9 := by omega
                          have hL9b := hsl8.len
                          subst hgr2
                          clear hgi hgr hL9
                          go_wp2_with fail
                          refine (eqb_any ay NG cy av8 L9 cv8 GR GR wy hoy.sl hsl8 (by have h1 := hoy.len.1; have h2 := mem_le_flat _ _ (List.mem_of_getElem? HRJ.out); have h3 := (HH).out.2.2.2; omega) (by have h1 := hsl8.len.1; have h2 := mem_le_flat _ _ (List.mem_of_getElem? HRJ.out); have h3 := (HH).out.2.2.2; omega)).mono ?_
                          rintro e wz ⟨rfl, hbz⟩
                          rw [decide_eq_true rfl]
                          go_wp2_with fail
                          exact ⟨⟨(j : Int) + 1, by go_num, by omega, by omega, hbxy.trans (hbz.mono hbxy.size)⟩, by simp [intOf]; omega⟩
              | true =>
                have hx := HX.out.1 rfl
                have HY := Lib.hid hx
                obtain rfl : PS = _ := hx.2.1
                obtain rfl : Z = NQ := by rw [HZL.out, hx.2.2.1]
                have hbig : (Z : Int) ≤ 248 := by have h1 := hx.1; have h2 := HZL.out; omega
                have hNQ8 : Z ≤ 248 := by omega
                clear hx
                have hPR : putRows H r = H.set f r := by rw [putRows, if_neg (by rw [hF.out, ← HH.out.2.2.1]; exact hfM), hF.out]
                have HPR := Lib.hid hPR
                clear hPR
                have hsq7 := Far.own hoh3 ho4 (Nat.le_refl _)
                obtain ⟨g, off7, cap, e9, hg1, hg2, hg3, hg5, hg6⟩ := hoh4.open (by omega) (by decide)
                cases e9
                obtain ⟨u9, hu9⟩ : ∃ u9, w4.cell? ⟨b3, o3 + f, none⟩ = some u9 := ⟨_, (hoh4.get f (by omega)).trans (List.getElem?_eq_getElem (by omega))⟩
                have hf9 := hoh4.free f (by omega)
                have HQ9 := Lib.hid hg6
                clear hg6
                go_wp2_with fail
                have hB8 : Below w.heap.size w (w4.setCell ⟨b3, o3 + f, none⟩ (.slice av m cv)) := hB4.setCell (p := ⟨b3, o3 + f, none⟩) hg1 _
                have ho8 := hoh4.set f (.slice av m cv)
                have hrh8 : RowsOf w (cells.set f (.slice av m cv)) (putRows H r) := by
                  rw [HPR.out]
                  exact hrh.set f HRM.out.symm hsl
                have hsq8 := hsq7.grown (grown_set w4 b3 (o3 + f) (.slice av m cv)) (v' := .slice (some ⟨b3, o3, none⟩) M c4) (fun g' h => .inl h)
                have HH8 : Hid (readOk Q = true ∧ readL Q = putRows H r ∧ M = (putRows H r).length ∧ M + (putRows H r).flatten.length ≤ 247) := by
                  have h1 := read_parts HY.out.2.2.2.1
                  rw [HY.out.2.2.2.2] at h1
                  have h2 : M = (putRows H r).length := by rw [HPR.out, List.length_set, ← HH.out.2.2.1]
                  exact ⟨HY.out.2.2.2.1, HY.out.2.2.2.2, h2, by omega⟩
                generalize w4.setCell ⟨b3, o3 + f, none⟩ (.slice av m cv) = W8 at hB8 ho8 hsq8 ⊢
                as_aux_lemma =>
                  go_loopw [15, 16, 17, 18] (fun v15 v16 v17 v18 wx => ∃ z9 : Int, v15 = .int .i64 z9 ∧ -1 ≤ z9 ∧ z9 ≤ (M : Int) + 1 ∧ Below (W8).heap.size W8 wx) (fun v15 _ _ _ _ => ((M : Int) + 1 - intOf v15).toNat)
                  case atStart => exact ⟨-1, rfl, by omega, by omega, Below.refl _ _⟩
                  case round =>
                    obtain ⟨z9, rfl, hz1, hz2, hbx⟩ := hrel
                    have hohx := (ho8).below hbx
                    have hsqx := (hsq8).below hbx
                    have hsqh := hsqx.here
                    have hBx := (hB8).trans (hbx.mono (hB8).size)
                    have hM9 := hM
                    have hN9 := hNQ8
                    by_cases hze : z9 = (M : Int) + 1
                    · subst hze
                      go_wp2_with fail
                      refine (right_any a6 Z c6 Q wr hsqh (by omega)).mono ?_
                      rintro e wy ⟨rfl, hby⟩
                      rw [(HH8).out.1]
                      go_wp2_with fail
                      exact ⟨⟨k + 1, Z, M, a6, c6, (putRows H r), Q, (cells.set f (.slice av m cv)), by omega, by go_num, rfl, hNQ8, (HH8).out, hohx.below hby, hrh8, hsqx.below hby, hBx.trans (hby.mono hBx.size)⟩, by simp [intOf]; omega⟩
                    · have hlt9 : z9 ≤ (M : Int) := by omega
                      go_wp2_with fail
                      refine (get_any a6 Z c6 Q wr z9 hsqh (by omega)).mono ?_
                      rintro e wy ⟨vy, rfl, hoy, hby⟩
                      obtain ⟨ay, cy, rfl⟩ := hoy.form
                      have hBy := hBx.trans (hby.mono hBx.size)
                      have hbxy := hbx.trans (hby.mono hbx.size)
                      have hohy := hohx.below hby
                      have hgi : getIs Q z9 = (decide (0 ≤ z9) && decide (z9 < ((M : Nat) : Int)) && !(((putRows H r)).getD z9.toNat []).isEmpty) := by
                        unfold getIs; rw [(HH8).out.2.1, ← (HH8).out.2.2.1]
                      have hgr : getR Q z9 = if getIs Q z9 then ((putRows H r)).getD z9.toNat [] else [] := by
                        unfold getR; rw [(HH8).out.2.1]
                      have hgc := get_cases (putRows H r) z9
                      rw [← (HH8).out.2.2.1] at hgc
                      obtain ⟨GI, hGI⟩ : ∃ GI, GI = getIs Q z9 := ⟨_, rfl⟩
                      obtain ⟨GR, hGR⟩ : ∃ GR, GR = getR Q z9 := ⟨_, rfl⟩
                      obtain ⟨NG, hNG⟩ : ∃ NG, NG = GR.length := ⟨_, rfl⟩
                      rw [← hGI] at hgi hgr
                      rw [← hGR] at hgr hoy
                      rw [← hNG] at hoy
                      rw [← hGI, ← hGR, ← hNG]
                      clear hGI hGR hNG
                      rcases hgc with h1 | ⟨h1, h2⟩ | ⟨j, r9, rfl, hj, hrj, hgd⟩
                      · have hG : GI = false := by rw [hgi, decide_eq_false (by omega : ¬ 0 ≤ z9)]; rfl
                        subst hG
                        clear hgi hgr
                        go_wp2_with fail
                        exact ⟨⟨z9 + 1, by go_num, by omega, by omega, hbxy⟩, by simp [intOf]; omega⟩
                      · have hG : GI = false := by rw [hgi, decide_eq_false (by omega : ¬ z9 < ((M : Nat) : Int)), Bool.and_false]; rfl
                        subst hG
                        clear hgi hgr
                        go_wp2_with fail
                        exact ⟨⟨z9 + 1, by go_num, by omega, by omega, hbxy⟩, by simp [intOf]; omega⟩
                      · have hj' : (j : Int) < M := by omega
                        obtain ⟨b8, o8, av8, cv8, r8, ha8, hri8, hc8, hsl8⟩ := row_at hohy.sl ((hrh8).below hBy) j hj
                        rw [hrj] at hri8
                        cases hri8
                        rw [Int.toNat_natCast, hgd] at hgi hgr
                        rw [decide_eq_true (by omega : (0 : Int) ≤ (j : Int)), decide_eq_true hj'] at hgi
                        have HGD := Lib.hid hgd
                        have HRJ := Lib.hid hrj
                        clear hgd hrj
                        cases ha8
                        by_cases h0 : r9 = []
                        · subst h0
                          have hG : GI = false := hgi
                          subst hG
                          rw [List.length_nil] at hc8
                          clear hgi hgr hsl8
                          go_wp2_with fail
                          exact ⟨⟨(j : Int) + 1, by go_num, by omega, by omega, hbxy⟩, by simp [intOf]; omega⟩
                        · have hG : GI = true := by rw [hgi]; simpa using h0
                          subst hG
                          have hgr2 : GR = r9 := hgr
                          have hp9 : 0 < r9.length := List.length_pos_iff.2 h0
                          obtain ⟨L9, hL9⟩ : ∃ L9, L9 = r9.length := ⟨_, rfl⟩
                          rw [← hL9] at hc8 hsl8 hp9
                          have hp9' : (0 : Int) < L9 := by omega
                          have hL9b := hsl8.len
                          subst hgr2
                          clear hgi hgr hL9
                          go_wp2_with fail
                          refine (eqb_any ay NG cy av8 L9 cv8 GR GR wy hoy.sl hsl8 (by have h1 := hoy.len.1; have h2 := mem_le_flat _ _ (List.mem_of_getElem? HRJ.out); have h3 := (HH8).out.2.2.2; omega) (by have h1 := hsl8.len.1; have h2 := mem_le_flat _ _ (List.mem_of_getElem? HRJ.out); have h3 := (HH8).out.2.2.2; omega)).mono ?_
                          rintro e wz ⟨rfl, hbz⟩
                          rw [decide_eq_true rfl]
                          go_wp2_with fail
                          exact ⟨⟨(j : Int) + 1, by go_num, by omega, by omega, hbxy.trans (hbz.mono hbxy.size)⟩, by simp [intOf]; omega⟩
            · have hpos : 0 < r3.length := List.length_pos_iff.2 h0
              obtain ⟨q3, hq3⟩ : ∃ q3, q3 = r3.length := ⟨_, rfl⟩
              rw [← hq3] at hc3 hpos
              have hpos' : (0 : Int) < q3 := by omega
              clear hsl3 hq3 hri3
              go_wp2_with fail
              refine ⟨⟨f + 1, by omega, by go_num, fun j h hj => ?_⟩, by simp [intOf]; omega⟩
              by_cases hjk : j < f
              · exact HJ.out j hjk hj
              · obtain rfl : j = f := by omega
                have := HRI.out
                rw [List.getElem?_eq_getElem hj] at this
                rw [Option.some.inj this]
                simpa using h0
end Go.Proofs.Ytafigfgcgnnbnaa
