/-
  The document's heap: what is reached. Conditions: the heap reads as one.
-/
import Derived.Test.YtekmgffjdheifaaHqT
namespace Go.Proofs.Ytekmgffjdheifaa
open Go Go.RowKit
set_option linter.unusedVariables false
set_option linter.unusedSimpArgs false
set_option maxRecDepth 100000

theorem rq9 : ¬ RQ 9 := fun h => by rcases h with h | h <;> omega
theorem rq_ne {c : Nat} (hc : ¬ RQ c) : ∀ x, RQ x → ¬ (fun y => y = c) x := fun x hx e => hc (by rw [← show x = c from e]; exact hx)
theorem poke9g {gd : Nat} {col : Nat → Nat} {w w' : World} (hg : col gd = 9) (hm : Mods (fun g => g = gd) w w') : St (fun y => y = 9) col w col w' := ⟨hm.mono (fun g e => by rw [e]; exact hg), fun _ _ => rfl⟩
theorem RfIn.poke9 {col : Nat → Nat} {w w' : World} {r m gl ol cl gd : Nat} {H : List Th} {cs : List Value} {vs : Nat → Value} (h : RfIn col w r m H gl ol cl cs vs) (hg : col gd = 9) (hm : Mods (fun g => g = gd) w w') : RfIn col w' r m H gl ol cl cs vs :=
  h.st (poke9g hg hm) (rq_ne rq9)
def RrP (r m gl ol cl gd od sz : Nat) (cs : List Value) (vs : Nat → Value) (H : List Th) (col : Nat → Nat) (S : List Bool) (k : Int) (w : World) (e : Ending) (w' : World) : Prop :=
  e = .returned (.tuple #[]) ∧ ∃ S', Hid (Rch H S S' k ∧ RfIn col w' r m H gl ol cl cs vs ∧ OwnC col w' 9 1 (.slice (some ⟨gd, od, none⟩) sz sz) sz (bos S') ∧ Mods (fun g => g = gd) w w')
def RrR (r m gl ol cl gd od sz : Nat) (cs : List Value) (vs : Nat → Value) (H : List Th) (col : Nat → Nat) (S : List Bool) (k : Int) (w : World) (n7 : Nat) (v7 : Value) (wr : World) : Prop :=
  ∃ (i : Nat) (S1 : List Bool), i ≤ n7 ∧ v7 = .int .i64 (i : Nat) ∧ Hid (Lp H S S1 k i ∧ RfIn col wr r m H gl ol cl cs vs ∧ OwnC col wr 9 1 (.slice (some ⟨gd, od, none⟩) sz sz) sz (bos S1) ∧ Mods (fun g => g = gd) w wr)
theorem RrR.mk {r m gl ol cl gd od sz : Nat} {cs : List Value} {vs : Nat → Value} {H : List Th} {col : Nat → Nat} {S : List Bool} {k : Int} {w : World} {n7 : Nat} {v7 : Value} {wr : World} (i : Nat) (S1 : List Bool) (h1 : i ≤ n7) (h2 : v7 = .int .i64 (i : Nat)) (h3 : Lp H S S1 k i) (h4 : RfIn col wr r m H gl ol cl cs vs)
    (h5 : OwnC col wr 9 1 (.slice (some ⟨gd, od, none⟩) sz sz) sz (bos S1)) (h6 : Mods (fun g => g = gd) w wr) : RrR r m gl ol cl gd od sz cs vs H col S k w n7 v7 wr := ⟨i, S1, h1, h2, Lib.hid ⟨h3, h4, h5, h6⟩⟩
set_option maxHeartbeats 4000000 in
theorem reachR_any (r m gl ol cl gd od sz : Nat) (cs : List Value) (vs : Nat → Value) (H : List Th) (col : Nat → Nat) (hwf : Hid (WfH H)) (hg : Hid (Good H m)) (hm : m ≤ 16777216) (hcd : col gd = 9) (HSZ : Hid (sz = H.length)) (hsz : sz ≤ 1000000) : ∀ (N : Nat) (S : List Bool) (k : Int) (w : World), unm S < N → Hid (RfIn col w r m H gl ol cl cs vs) →
    Hid (OwnC col w 9 1 (.slice (some ⟨gd, od, none⟩) sz sz) sz (bos S)) → Hid (S.length = H.length) →
    Calls Try.prog 79 #[.pointer (some ⟨r, 0, none⟩), .int .i64 k, .slice (some ⟨gd, od, none⟩) sz sz] w (RrP r m gl ol cl gd od sz cs vs H col S k w) := by
  intro N
  induction N with
  | zero => intro S k w hu; omega
  | succ N ih =>
    intro S k w hu HF D HSL
    have HU := Lib.hid hu
    have IH := Lib.hid ih
    clear hu ih
    cases his : (thAt H k).is with
    | false =>
      have HR : Hid (Rch H S S k) := Lib.hid (Rch.still (by rw [his]; intro h; cases h))
      have HIS := Lib.hid his
      clear his
      go_enter Try.func79, Try.ntmps79
      go_wp2_with fail
      refine (has_p HF.out _ false (Lib.hid HIS.out.symm)).mono ?_
      rintro e w1 ⟨rfl, rfl⟩
      go_wp2_with fail
      first | go_end0 | refine bodyPost_ret (results_none rfl _ _ _) rfl ?_
      exact ⟨rfl, S, Lib.hid ⟨HR.out, HF.out, D.out, Mods.refl _ _⟩⟩
    | true =>
      obtain ⟨kn, rfl, hkl, hIA⟩ := HF.out.there his
      rw [← HSZ.out] at hkl
      have HIS := Lib.hid his
      clear his
      have hkl' : (kn : Int) < (sz : Int) := by omega
      have hlenb : kn < (bos S).length := by rw [bos_length, HSL.out, ← HSZ.out]; exact hkl
      have HB0 : Hid (w.cell? ⟨gd, od + kn, none⟩ = some (.bool (S.getD kn false))) := Lib.hid (by
        have h1 := D.out.1.get kn hlenb
        rwa [bos_get _ _ (by rw [HSL.out, ← HSZ.out]; exact hkl)] at h1)
      cases hs : S.getD kn false with
      | true =>
        have HR : Hid (Rch H S S (kn : Nat)) := Lib.hid (Rch.still (fun _ => mk_nat.2 hs))
        rw [hs] at HB0
        clear hs hIA
        have hcd8 := HB0.out
        go_enter Try.func79, Try.ntmps79
        go_wp2_with fail
        refine (has_p HF.out _ true (Lib.hid HIS.out.symm)).mono ?_
        rintro e w1 ⟨rfl, rfl⟩
        go_wp2_with fail
        first | go_end0 | refine bodyPost_ret (results_none rfl _ _ _) rfl ?_
        exact ⟨rfl, S, Lib.hid ⟨HR.out, HF.out, D.out, Mods.refl _ _⟩⟩
      | false =>
        have HUS : Hid (unm (S.set kn true) + 1 = unm S) := Lib.hid (unm_set (by rw [HSL.out, ← HSZ.out]; exact hkl) hs)
        rw [hs] at HB0
        clear hs
        have hcd8 := HB0.out
        have HKL : Hid (kn < H.length) := Lib.hid (by rw [← HSZ.out]; exact hkl)
        have HIA := Lib.hid hIA
        obtain ⟨n7, hn7⟩ : ∃ n, n = (thAt H (kn : Nat)).o.l.length := ⟨_, rfl⟩
        have HL7 : Hid ((thAt H (kn : Nat)).o.l.length = n7) := Lib.hid hn7.symm
        obtain ⟨a7, c7, hv7⟩ := ((HF.out.ws kn HKL.out).1).form
        rw [hIA, ← hn7] at hv7
        have HV7 := Lib.hid hv7
        have hn79 : n7 ≤ 16777216 := by rw [hn7]; exact (hg.out.small hm kn).1
        obtain ⟨xs, hxs⟩ : ∃ xs, xs = bos S := ⟨_, rfl⟩
        have hob := D.out.1
        rw [← hxs] at hob hlenb
        have HXS := Lib.hid hxs
        have HNE : Hid (gd ≠ r ∧ gd ≠ gl) := Lib.hid ⟨fun e => by have := HF.out.cr; rw [← e, hcd] at this; omega, fun e => by have := HF.out.own.2 gl rfl; rw [← e, hcd] at this; omega⟩
        clear hxs hn7 hv7 hIA
        go_enter Try.func79, Try.ntmps79
        go_wp2_with fail
        refine (has_p HF.out _ true (Lib.hid HIS.out.symm)).mono ?_
        rintro e w1 ⟨rfl, rfl⟩
        go_upto_region 2 with (refine wpL_storeOwn (g := 0) rfl _ _ _ rfl (v := .bool true) rfl rfl rfl rfl (by kernel_rfl) hob kn rfl hlenb ?_; intro w9 hg9 ho9)
        have HM : Hid (Mods (fun g => g = gd) w w9) := Lib.hid ((Mods.grown hg9).mono (fun g e => (Option.some.inj e).symm))
        have F9 := Lib.hid (HF.out.poke9 hcd HM.out)
        have D9 : Hid (OwnC col w9 9 1 (.slice (some ⟨gd, od, none⟩) sz sz) sz (bos (S.set kn true))) := Lib.hid ⟨by rw [← bos_set, ← HXS.out]; exact ho9, D.out.2⟩
        have L9 : Hid (Lp H S (S.set kn true) (kn : Nat) 0) := Lib.hid (Lp.start (by rw [HSL.out, ← HSZ.out]; exact hkl) HIS.out)
        have c1 := F9.out.c1
        have hcap := F9.out.cap
        have hi' : (kn : Int) < H.length := by have := HKL.out; omega
        obtain ⟨d0, d1, d2, d3, d4, d5, d6⟩ := F9.out.all HKL.out
        rw [HV7.out] at d2
        clear hg9 ho9 hob hcd8 hlenb HF D HB0 d0 d1 d3 d4 d5 d6
        go_upto_region 3 with fail
        clear c1 d2
        go_wp2_with fail
        go_loopw [7] (fun v7 wr => RrR r m gl ol cl gd od sz cs vs H col S (kn : Nat) w n7 v7 wr) (fun v7 _ => n7 - (intOf v7).toNat)
        case atStart => exact RrR.mk 0 _ (Nat.zero_le _) rfl L9.out F9.out D9.out HM.out
        case round =>
          clear L9 F9 D9 HM
          obtain ⟨i, S1, hi, rfl, HR⟩ := hrel
          by_cases hin : i = n7
          · subst hin
            go_wp2_with fail
            go_end0
            exact ⟨rfl, S1, Lib.hid ⟨Lp.end_ (by rw [HL7.out]; exact HR.out.1), HR.out.2.1, HR.out.2.2.1, HR.out.2.2.2⟩⟩
          have hlt : i < n7 := by omega
          have hlt' : (i : Int) < n7 := by omega
          have c1 := HR.out.2.1.c1
          rw [← HSZ.out] at c1
          have hsl := ((HR.out.2.1.ws kn HKL.out).1).sl
          rw [HV7.out, HIA.out, HL7.out] at hsl
          obtain ⟨bw, ow, u0, ha, hu0, hc0⟩ := hsl.at (k := i * 2) (by omega)
          obtain ⟨bw', ow', u1, ha', hu1, hc1⟩ := hsl.at (k := i * 2 + 1) (by omega)
          obtain ⟨e0, e1⟩ := wcells_at (thAt H kn).o.l i (by rw [HL7.out]; exact hlt)
          rw [e0] at hu0
          rw [e1] at hu1
          cases hu0
          cases hu1
          subst ha
          cases ha'
          rw [← Nat.add_assoc] at hc1
          obtain ⟨x, hx⟩ : ∃ x, x = (thAt H kn).o.l.getD i (0, 0) := ⟨_, rfl⟩
          rw [← hx] at hc0 hc1
          have HX := Lib.hid hx
          clear hx hsl
          obtain ⟨x1, y⟩ := x
          have hc1' : wr.cell? ⟨bw, ow + i * 2 + 1, none⟩ = some (.int .i64 y) := hc1
          clear hc1 e0 e1
          by_cases h2 : x1 = 2
          · subst h2
            by_cases hy : 0 ≤ y ∧ y < (sz : Int)
            · have hy0 := hy.1
              have hy1 := hy.2
              have hc0' : wr.cell? ⟨bw, ow + i * 2, none⟩ = some (.int .u8 2) := hc0
              clear hc0
              go_upto_region 6 with fail
              go_quiet (fail)
              rename_i nq
              obtain ⟨w7, hw7⟩ : ∃ x, x = wr.drewN nq := ⟨_, rfl⟩
              rw [← hw7]
              have HB7 : Hid (Below wr.heap.size wr w7) := Lib.hid (by rw [hw7]; exact below_drewN (Below.refl _ _) nq)
              have HR7 := Lib.hid (⟨HR.out.1, HR.out.2.1.fresh HB7.out, HR.out.2.2.1.st (St.fresh HB7.out (fun _ => False) col) (fun h => h), HR.out.2.2.2.trans (Mods.fresh HB7.out _)⟩ : Lp H S S1 (kn : Nat) i ∧ RfIn col w7 r m H gl ol cl cs vs ∧ OwnC col w7 9 1 (.slice (some ⟨gd, od, none⟩) sz sz) sz (bos S1) ∧ Mods (fun g => g = gd) w w7)
              clear hw7
              have hc1q : w7.cell? ⟨bw, ow + i * 2 + 1, none⟩ = some (.int .i64 y) := (HB7.out.cell (lt_of_cell hc1')).trans hc1'
              clear c1 hc0' hc1'
              go_wp2_with fail
              refine (IH.out S1 y w7 ?_ (Lib.hid HR7.out.2.1) (Lib.hid HR7.out.2.2.1) (Lib.hid ?_)).mono ?_
              · have h1 := unm_up (S := S.set kn true) (S' := S1) (by rw [HR7.out.1.len, List.length_set]) (fun i hi => by
                  have h2 := (mk_set (by rw [HSL.out, ← HSZ.out]; exact hkl) _).1 (mk_nat.2 hi)
                  exact mk_nat.1 (HR7.out.1.up _ (by rcases h2 with h | h; exact .inr h; exact .inl h)))
                have h3 := HUS.out
                have h4 := HU.out
                omega
              · exact HR7.out.1.len.trans HSL.out
              rintro e w5 ⟨rfl, S2, H5⟩
              go_wp2_with fail
              exact ⟨RrR.mk (i + 1) S2 hlt (by go_num) (HR7.out.1.go HX.out.symm (by rw [HL7.out]; exact hlt) HIS.out H5.out.1) H5.out.2.1 H5.out.2.2.1 (HR7.out.2.2.2.trans H5.out.2.2.2), by simp [intOf]; omega⟩
            · have HSK : Hid (∀ z, (thAt H kn).o.l.getD i (0, 0) = ((2 : UInt8), z) → (thAt H z).is = false) := Lib.hid (fun z hz => by
                rw [← HX.out] at hz
                cases hz
                cases e : (thAt H y).is with
                | false => rfl
                | true =>
                  obtain ⟨q, hq, hql, _⟩ := thAt_is e
                  rw [← HSZ.out] at hql
                  omega)
              have hc0' : wr.cell? ⟨bw, ow + i * 2, none⟩ = some (.int .u8 2) := hc0
              clear hc0
              by_cases hy0 : 0 ≤ y
              · have hy1 : ¬ y < (sz : Int) := fun h => hy ⟨hy0, h⟩
                go_upto_region 6 with fail
                go_quiet (fail)
                rename_i nq
                obtain ⟨w7, hw7⟩ : ∃ x, x = wr.drewN nq := ⟨_, rfl⟩
                rw [← hw7]
                have HB7 : Hid (Below wr.heap.size wr w7) := Lib.hid (by rw [hw7]; exact below_drewN (Below.refl _ _) nq)
                have HR7 := Lib.hid (⟨HR.out.1, HR.out.2.1.fresh HB7.out, HR.out.2.2.1.st (St.fresh HB7.out (fun _ => False) col) (fun h => h), HR.out.2.2.2.trans (Mods.fresh HB7.out _)⟩ : Lp H S S1 (kn : Nat) i ∧ RfIn col w7 r m H gl ol cl cs vs ∧ OwnC col w7 9 1 (.slice (some ⟨gd, od, none⟩) sz sz) sz (bos S1) ∧ Mods (fun g => g = gd) w w7)
                clear hw7
                go_wp2_with fail
                exact ⟨RrR.mk (i + 1) S1 hlt (by go_num) (HR7.out.1.skip HSK.out) HR7.out.2.1 HR7.out.2.2.1 HR7.out.2.2.2, by simp [intOf]; omega⟩
              · go_upto_region 6 with fail
                go_quiet (fail)
                rename_i nq
                obtain ⟨w7, hw7⟩ : ∃ x, x = wr.drewN nq := ⟨_, rfl⟩
                rw [← hw7]
                have HB7 : Hid (Below wr.heap.size wr w7) := Lib.hid (by rw [hw7]; exact below_drewN (Below.refl _ _) nq)
                have HR7 := Lib.hid (⟨HR.out.1, HR.out.2.1.fresh HB7.out, HR.out.2.2.1.st (St.fresh HB7.out (fun _ => False) col) (fun h => h), HR.out.2.2.2.trans (Mods.fresh HB7.out _)⟩ : Lp H S S1 (kn : Nat) i ∧ RfIn col w7 r m H gl ol cl cs vs ∧ OwnC col w7 9 1 (.slice (some ⟨gd, od, none⟩) sz sz) sz (bos S1) ∧ Mods (fun g => g = gd) w w7)
                clear hw7
                go_wp2_with fail
                exact ⟨RrR.mk (i + 1) S1 hlt (by go_num) (HR7.out.1.skip HSK.out) HR7.out.2.1 HR7.out.2.2.1 HR7.out.2.2.2, by simp [intOf]; omega⟩
          · have HSK : Hid (∀ z, (thAt H kn).o.l.getD i (0, 0) = ((2 : UInt8), z) → (thAt H z).is = false) := Lib.hid (fun z hz => by
              rw [← HX.out] at hz
              cases hz
              exact absurd rfl h2)
            have h2' : ((x1.toNat : Int) == 2) = false := by
              simp only [beq_eq_false_iff_ne]
              intro e
              exact h2 (UInt8.toNat_inj.1 (by have : (2 : UInt8).toNat = 2 := rfl; omega))
            simp only at hc0
            generalize (x1.toNat : Int) = kk at hc0 h2'
            go_upto_region 6 with fail
            go_quiet (fail)
            rename_i nq
            obtain ⟨w7, hw7⟩ : ∃ x, x = wr.drewN nq := ⟨_, rfl⟩
            rw [← hw7]
            have HB7 : Hid (Below wr.heap.size wr w7) := Lib.hid (by rw [hw7]; exact below_drewN (Below.refl _ _) nq)
            have HR7 := Lib.hid (⟨HR.out.1, HR.out.2.1.fresh HB7.out, HR.out.2.2.1.st (St.fresh HB7.out (fun _ => False) col) (fun h => h), HR.out.2.2.2.trans (Mods.fresh HB7.out _)⟩ : Lp H S S1 (kn : Nat) i ∧ RfIn col w7 r m H gl ol cl cs vs ∧ OwnC col w7 9 1 (.slice (some ⟨gd, od, none⟩) sz sz) sz (bos S1) ∧ Mods (fun g => g = gd) w w7)
            clear hw7
            go_wp2_with fail
            exact ⟨RrR.mk (i + 1) S1 hlt (by go_num) (HR7.out.1.skip HSK.out) HR7.out.2.1 HR7.out.2.2.1 HR7.out.2.2.2, by simp [intOf]; omega⟩
end Go.Proofs.Ytekmgffjdheifaa
