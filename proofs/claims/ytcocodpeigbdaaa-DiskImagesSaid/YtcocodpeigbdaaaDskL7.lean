/-
  DiskImages, walked. Conditions: the image and the steps read; the image takes no more bytes than memory has.
-/
import Derived.Test.YtcocodpeigbdaaaDskY
import Derived.Test.YtcocodpeigbdaaaDskL4
import Derived.Test.YtcocodpeigbdaaaDskL5
namespace Go.Proofs.Ytcocodpeigbdaaa
open Go.RowKit
set_option linter.unusedVariables false
set_option linter.unusedSimpArgs false

/-! ### the image that comes in -/
theorem Sls.app {w : World} {vs us : List Value} {L M : List (List UInt8)} (h : Sls w vs L) (k : Sls w us M) : Sls w (vs ++ us) (L ++ M) := by
  induction h with
  | nil => exact k
  | cons h1 _ ih => exact .cons h1 ih
def VImg : World → List Value → List UInt8 → Prop := VSl VByte 1
theorem opensImg : Opens Try.prog 22 1 VImg := opens_sl (opens_byte Try.underlying5 (by kernel_rfl)) (by decide) Try.underlying22 (by kernel_rfl)
theorem imr_of {w : World} {v : Value} {L : List (List UInt8)} (h : SlOf VImg 1 w v L) : ImR w v L := by
  obtain ⟨a, c, rfl, h1, h2, h3, h4⟩ := h
  have key : ∀ k, k ≤ L.length → ∃ vs : List Value, vs.length = k ∧ (∀ j u, vs[j]? = some u → ∃ b off, a = some ⟨b, off, none⟩ ∧ w.cell? ⟨b, off + j, none⟩ = some u) ∧ Sls w vs (L.take k) := by
    intro k
    induction k with
    | zero => exact fun _ => ⟨[], rfl, fun j u h => by simp at h, by rw [List.take_zero]; exact .nil⟩
    | succ k ih =>
      intro hk
      obtain ⟨vs, g1, g2, g3⟩ := ih (by omega)
      obtain ⟨b, off, cs, ha, hl, ⟨v, rfl, hv⟩, hc⟩ := h4 k (by omega)
      refine ⟨vs ++ [v], by simp [g1], fun j u hu => ?_, ?_⟩
      · rw [List.getElem?_append] at hu
        split at hu
        · exact g2 j u hu
        · rename_i hj
          have hjk : j = k := by have := (List.getElem?_eq_some_iff.1 hu).1; simp at this; omega
          subst hjk
          rw [g1, Nat.sub_self] at hu
          simp at hu
          subst hu
          have := hc 0 (by omega)
          rw [Nat.mul_one, Nat.add_zero] at this
          exact ⟨b, off, ha, this⟩
      · rw [List.take_succ_eq_append_getElem (by omega)]
        exact g3.app (.cons hv.bytes .nil)
  obtain ⟨vs, g1, g2, g3⟩ := key _ (Nat.le_refl _)
  rw [List.take_length] at g3
  exact ⟨vs, ⟨by rw [g1, Nat.mul_one], a, c, rfl, h1, h2, h3, g2⟩, g3⟩
/-! ### bytes turned in an image of one's own -/
theorem Owns.at {w : World} {base : Nat} {vs : List Value} {L : List (List UInt8)} (h : Owns w base vs L) : ∀ i u, vs[i]? = some u → Own w base 1 u (L.getD i []).length (bvs (L.getD i [])) := by
  induction h with
  | nil => intro i u hu; simp at hu
  | cons h1 _ ih =>
    intro i u hu
    cases i with
    | zero => simp at hu; subst hu; exact h1
    | succ i => simp at hu; exact ih i u hu
theorem Owns.len {w : World} {base : Nat} {vs : List Value} {L : List (List UInt8)} (h : Owns w base vs L) : vs.length = L.length := h.sls.len
theorem Owns.of_at {w : World} {base : Nat} : ∀ {vs : List Value} {L : List (List UInt8)}, vs.length = L.length → (∀ i u, vs[i]? = some u → Own w base 1 u (L.getD i []).length (bvs (L.getD i []))) → Owns w base vs L
  | [], [], _, _ => .nil
  | [], _ :: _, h, _ => by cases h
  | _ :: _, [], h, _ => by cases h
  | v :: vs, l :: L, h, hg => .cons (hg 0 v rfl) (Owns.of_at (by simpa using h) fun i u hu => hg (i + 1) u (by simpa using hu))
theorem Imgs.poke {w w' : World} {base n : Nat} {v u : Value} {us : List Value} {L : List (List UInt8)} {l : List UInt8} {i : Nat} (h : Imgs w base v n us L) (hd : Dis us) (hu : us[i]? = some u) (hg : w.grownBy w' u.ownBlock) (ho : Own w' base 1 u l.length (bvs l)) : Imgs w' base v n us (L.set i l) := by
  have hi : i < us.length := (List.getElem?_eq_some_iff.1 hu).1
  have hL := h.ins.len
  refine ⟨h.own.kept hg ?_, Owns.of_at (by rw [List.length_set]; exact hL) fun j x hx => ?_, h.sep⟩
  · cases hq : u.ownBlock with
    | none =>
      cases hv : v.ownBlock with
      | none => exact .inl rfl
      | some g => exact .inr (by simp)
    | some g => exact .inr (h.sep u (List.mem_of_getElem? hu) g hq)
  · by_cases hij : i = j
    · subst hij
      have : x = u := Option.some.inj (hx.symm.trans hu)
      subst this
      rw [getD_set_eq (by omega)]
      exact ho
    · rw [getD_set_ne hij]
      refine (h.ins.at j x hx).kept hg ?_
      cases hq : x.ownBlock with
      | none => exact .inl rfl
      | some g => exact .inr (fun e => hd j i x u hx hu (fun e => hij e.symm) g hq e.symm)
theorem laterW_cell {w : World} {b o : Nat} {v : Value} (h : w.cell? ⟨b, o, none⟩ = some v) : ∀ x : Later Rb w, x.w.cell? ⟨b, o, none⟩ = some v :=
  fun x => (Below.cell (p := ⟨b, o, none⟩) x.later (lt_of_cell h)).trans h
theorem loadD_fits {S : List (List UInt8)} (h : loadIs S = true) : (loadD S).Fits 0 := by
  simp only [loadIs, Bool.and_eq_true, Bool.not_eq_true', decide_eq_true_eq] at h
  refine ⟨⟨fun p hp => (List.not_mem_nil hp).elim, fun l hl => ?_, fun p hp => (List.not_mem_nil hp).elim⟩, by show (0 : Int) ≤ _; decide, Nat.le_refl _, Int.le_refl _, Int.le_refl _, ?_⟩
  · rcases odd_len h.2 l hl with h1 | h1 <;> omega
  · show S.length ≤ _; omega
theorem loadIs_big {S : List (List UInt8)} (h : 4096 < S.length) : loadIs S = false := by
  rw [loadIs, Bool.and_eq_false_iff]; left; rw [← Bool.not_eq_true]; simp; omega
theorem three_ne : ∀ c : Nat, c = 3 → NZ c := fun c h => by rw [h]; exact Nat.succ_ne_zero _
theorem four_ne : ∀ c : Nat, c = 4 → NZ c := fun c h => by rw [h]; exact Nat.succ_ne_zero _
set_option maxRecDepth 100000 in
set_option maxHeartbeats 4000000 in
theorem diskImages_walk (aI : Option Addr) (nI cI : Nat) (S : List (List UInt8)) (aL : Option Addr) (nL cL : Nat) (L : List Stp) (aM : Option Addr) (nM cM : Nat) (M : List Stp) (w : World) (hI : ImR w (.slice aI nI cI) S) (hnI : nI ≤ 5864062014805)
    (hL : SlOf VStep 4 w (.slice aL nL cL) L) (hM : SlOf VStep 4 w (.slice aM nM cM) M) :
    Calls Try.prog 9 #[.slice aI nI cI, .slice aL nL cL, .slice aM nM cM] w fun e w' => e = .returned (.bool true) ∧ Below w.heap.size w w' := by
  have HNI := Lib.hid hI.len.1
  have HNL := Lib.hid hL.len.1
  have HNM := Lib.hid hM.len.1
  go_enter Try.func9, Try.ntmps9
  go_wp2_with fail
  refine (vast_any aL nL cL L w hL).mono ?_
  rintro e w1 ⟨B1, rfl, HV1, hb1⟩
  cases B1 with
  | true =>
    go_wp2_with fail
    refine (works_any w1).mono ?_
    rintro e wz ⟨rfl, hbz⟩
    go_wp2_with fail
    go_ret
    exact ⟨rfl, (hb1).trans (hbz.mono (hb1).size)⟩
  | false =>
  have HF1 : Hid (FewS L) := Lib.hid (HV1.out rfl)
  have hnL120 : nL ≤ 120 := by rw [HNL.out]; exact HF1.out.1
  clear HV1
  go_wp2_with fail
  refine (vast_any aM nM cM M w1 (hM.below stabStep hb1)).mono ?_
  rintro e w2 ⟨B2, rfl, HV2, hb2⟩
  have hb12 := hb1.trans (hb2.mono hb1.size)
  clear hb1 hb2
  cases B2 with
  | true =>
    go_wp2_with fail
    refine (works_any w2).mono ?_
    rintro e wz ⟨rfl, hbz⟩
    go_wp2_with fail
    go_ret
    exact ⟨rfl, (hb12).trans (hbz.mono (hb12).size)⟩
  | false =>
  have HF2 : Hid (FewS M) := Lib.hid (HV2.out rfl)
  have hnM120 : nM ≤ 120 := by rw [HNM.out]; exact HF2.out.1
  clear HV2
  rcases (show ((64 : Int) < nI ∧ (nI : Int) ≤ 4096) ∨ ((64 : Int) < nI ∧ ¬ (nI : Int) ≤ 4096) ∨ ¬ (64 : Int) < nI by omega) with ⟨z1, z2⟩ | ⟨z1, z2⟩ | z1
  · go_wp2_with fail
    refine (works_any w2).mono ?_
    rintro e wz ⟨rfl, hbz⟩
    go_wp2_with fail
    go_ret
    exact ⟨rfl, (hb12).trans (hbz.mono (hb12).size)⟩
  · have HLI : Hid (loadIs S = false) := Lib.hid (loadIs_big (by rw [HNI.out]; omega))
    go_wp2_with fail
    go_loopw [7] (fun v7 wr => ∃ i, i ≤ nI ∧ v7 = .int .i64 (i : Nat) ∧ Hid (∀ j, j < i → (S.getD j []).length ≤ 1024) ∧ Below w.heap.size w wr) (fun v7 _ => nI - (intOf v7).toNat)
    case atStart => exact ⟨0, Nat.zero_le _, rfl, Lib.hid (fun j h => by omega), hb12⟩
    case' round =>
      obtain ⟨i, hi, rfl, HE, hb⟩ := hrel
      by_cases hin : i = nI
      rotate_left
      · have hlt : i < nI := by omega
        have hlt' : (i : Int) < nI := by omega
        obtain ⟨g1, o1, av, cv, rfl, hc, hs⟩ := (hI.below hb).at i hlt
        have HNX : Hid ((S.getD i []).length ≤ 1024 → ∀ j, j < i + 1 → (S.getD j []).length ≤ 1024) := Lib.hid (fun h j hj => by
          by_cases hji : j = i
          · rw [hji]; exact h
          · exact HE.out j (by omega))
        generalize (S.getD i []).length = q at hc HNX
        clear hs
        by_cases hq : 1024 < q
        · have hq' : (1024 : Int) < q := by omega
          go_wp2_with fail
          refine (works_any wr).mono ?_
          rintro e wz ⟨rfl, hbz⟩
          go_wp2_with fail
          go_ret
          exact ⟨rfl, (hb).trans (hbz.mono (hb).size)⟩
        · have hq' : ¬ (1024 : Int) < q := by omega
          have HE2 := Lib.hid (HNX.out (by omega))
          go_wp2_with fail
          exact ⟨⟨i + 1, by omega, by go_num, HE2, hb⟩, by simp [intOf]; omega⟩
      subst hin
      have HSL : Hid (∀ l ∈ S, l.length ≤ 1048576) := Lib.hid (fun l hl => by
        obtain ⟨j, hj, hj2⟩ := List.mem_iff_getElem.1 hl
        have := HE.out j (by rw [← HNI.out]; exact hj)
        rw [List.getD_eq_getElem?_getD, List.getElem?_eq_getElem hj] at this
        simp only [Option.getD_some] at this
        rw [hj2] at this
        omega)
      obtain ⟨w3, hw3⟩ : ∃ x, x = wr := ⟨_, rfl⟩
      rw [← hw3] at hb ⊢
      clear hw3 HE
      have K3 := Lib.hid (St.fresh hb NZ col0)
      have HI3 := Lib.hid (hI.below hb)
      clear hb
      go_wp2_with fail
      refine (copyImage_big aI i cI S w3 HI3.out hnI).mono ?_
      rintro e w4 ⟨v4, us4, rfl, hi4, hb4⟩
      obtain ⟨a4, c4, rfl⟩ := hi4.own.form
      have K4 := Lib.hid (K3.out.trans (St.new hb4 NZ col0 0))
      have IN4 := Lib.hid (ImI.new (col := col0) hi4)
      clear hi4 hb4 K3 HI3
      generalize recol col0 w3.heap.size 0 = col4 at K4 IN4
      go_wp2_with fail
      refine (load_p a4 i c4 S 1 (by decide) col4 w4 IN4.out.imr).mono ?_
      rintro e w5 hld
    have hld2 : e = .returned (.tuple #[.pointer none, .int .i64 1]) ∧ Below w4.heap.size w4 w5 := by
      rcases hld with ⟨h1, _, h2⟩ | ⟨_, _, hx, _⟩
      · exact ⟨h1, h2⟩
      · rw [HLI.out] at hx; cases hx
    obtain ⟨rfl, hb5⟩ := hld2
    have K5 := Lib.hid (K4.out.down hb5)
    have IN5 := Lib.hid (IN4.out.st (St.fresh hb5 (fun _ => False) col4) (fun h => h))
    clear hld hb5
    go_wp2_with fail
    refine (rload_p aI i cI S 2 (by decide) col4 w5 (hI.below K5.out.below)).mono ?_
    rintro e w6 hld
    have hld2 : e = .returned (.tuple #[.pointer none, .int .i64 1]) ∧ Below w5.heap.size w5 w6 := by
      rcases hld with ⟨h1, _, h2⟩ | ⟨_, _, hx, _⟩
      · exact ⟨h1, h2⟩
      · rw [HLI.out] at hx; cases hx
    obtain ⟨rfl, hb6⟩ := hld2
    have K6 := Lib.hid (K5.out.down hb6)
    have IN6 := Lib.hid (IN5.out.st (St.fresh hb6 (fun _ => False) col4) (fun h => h))
    clear hld hb6
    go_wp2_with fail
    refine (sameImage_big a4 i c4 S aI i cI S w6 IN6.out.imr (hI.below K6.out.below) hnI HSL.out HSL.out true (Lib.hid (by simp))).mono ?_
    rintro e w7 ⟨rfl, hb7⟩
    have K7 := Lib.hid (K6.out.down hb7)
    clear hb7
    have hB7 := K7.out.below
    go_wp2_with fail
    refine (works_any w7).mono ?_
    rintro e wz ⟨rfl, hbz⟩
    go_wp2_with fail
    go_ret
    exact ⟨rfl, (hB7).trans (hbz.mono (hB7).size)⟩
  · cases hli : loadIs S with
    | false =>
      have HLI := Lib.hid hli
      clear hli
      go_wp2_with fail
      go_loopw [7] (fun v7 wr => ∃ i, i ≤ nI ∧ v7 = .int .i64 (i : Nat) ∧ Hid (∀ j, j < i → (S.getD j []).length ≤ 1024) ∧ Below w.heap.size w wr) (fun v7 _ => nI - (intOf v7).toNat)
      case atStart => exact ⟨0, Nat.zero_le _, rfl, Lib.hid (fun j h => by omega), hb12⟩
      case' round =>
        obtain ⟨i, hi, rfl, HE, hb⟩ := hrel
        by_cases hin : i = nI
        rotate_left
        · have hlt : i < nI := by omega
          have hlt' : (i : Int) < nI := by omega
          obtain ⟨g1, o1, av, cv, rfl, hc, hs⟩ := (hI.below hb).at i hlt
          have HNX : Hid ((S.getD i []).length ≤ 1024 → ∀ j, j < i + 1 → (S.getD j []).length ≤ 1024) := Lib.hid (fun h j hj => by
            by_cases hji : j = i
            · rw [hji]; exact h
            · exact HE.out j (by omega))
          generalize (S.getD i []).length = q at hc HNX
          clear hs
          by_cases hq : 1024 < q
          · have hq' : (1024 : Int) < q := by omega
            go_wp2_with fail
            refine (works_any wr).mono ?_
            rintro e wz ⟨rfl, hbz⟩
            go_wp2_with fail
            go_ret
            exact ⟨rfl, (hb).trans (hbz.mono (hb).size)⟩
          · have hq' : ¬ (1024 : Int) < q := by omega
            have HE2 := Lib.hid (HNX.out (by omega))
            go_wp2_with fail
            exact ⟨⟨i + 1, by omega, by go_num, HE2, hb⟩, by simp [intOf]; omega⟩
        subst hin
        have HSL : Hid (∀ l ∈ S, l.length ≤ 1048576) := Lib.hid (fun l hl => by
          obtain ⟨j, hj, hj2⟩ := List.mem_iff_getElem.1 hl
          have := HE.out j (by rw [← HNI.out]; exact hj)
          rw [List.getD_eq_getElem?_getD, List.getElem?_eq_getElem hj] at this
          simp only [Option.getD_some] at this
          rw [hj2] at this
          omega)
        obtain ⟨w3, hw3⟩ : ∃ x, x = wr := ⟨_, rfl⟩
        rw [← hw3] at hb ⊢
        clear hw3 HE
        have K3 := Lib.hid (St.fresh hb NZ col0)
        have HI3 := Lib.hid (hI.below hb)
        clear hb
        go_wp2_with fail
        refine (copyImage_big aI i cI S w3 HI3.out hnI).mono ?_
        rintro e w4 ⟨v4, us4, rfl, hi4, hb4⟩
        obtain ⟨a4, c4, rfl⟩ := hi4.own.form
        have K4 := Lib.hid (K3.out.trans (St.new hb4 NZ col0 0))
        have IN4 := Lib.hid (ImI.new (col := col0) hi4)
        clear hi4 hb4 K3 HI3
        generalize recol col0 w3.heap.size 0 = col4 at K4 IN4
        go_wp2_with fail
        refine (load_p a4 i c4 S 1 (by decide) col4 w4 IN4.out.imr).mono ?_
        rintro e w5 hld
      have hld2 : e = .returned (.tuple #[.pointer none, .int .i64 1]) ∧ Below w4.heap.size w4 w5 := by
        rcases hld with ⟨h1, _, h2⟩ | ⟨_, _, hx, _⟩
        · exact ⟨h1, h2⟩
        · rw [HLI.out] at hx; cases hx
      obtain ⟨rfl, hb5⟩ := hld2
      have K5 := Lib.hid (K4.out.down hb5)
      have IN5 := Lib.hid (IN4.out.st (St.fresh hb5 (fun _ => False) col4) (fun h => h))
      clear hld hb5
      go_wp2_with fail
      refine (rload_p aI i cI S 2 (by decide) col4 w5 (hI.below K5.out.below)).mono ?_
      rintro e w6 hld
      have hld2 : e = .returned (.tuple #[.pointer none, .int .i64 1]) ∧ Below w5.heap.size w5 w6 := by
        rcases hld with ⟨h1, _, h2⟩ | ⟨_, _, hx, _⟩
        · exact ⟨h1, h2⟩
        · rw [HLI.out] at hx; cases hx
      obtain ⟨rfl, hb6⟩ := hld2
      have K6 := Lib.hid (K5.out.down hb6)
      have IN6 := Lib.hid (IN5.out.st (St.fresh hb6 (fun _ => False) col4) (fun h => h))
      clear hld hb6
      go_wp2_with fail
      refine (sameImage_big a4 i c4 S aI i cI S w6 IN6.out.imr (hI.below K6.out.below) hnI HSL.out HSL.out true (Lib.hid (by simp))).mono ?_
      rintro e w7 ⟨rfl, hb7⟩
      have K7 := Lib.hid (K6.out.down hb7)
      clear hb7
      have hB7 := K7.out.below
      go_wp2_with fail
      refine (works_any w7).mono ?_
      rintro e wz ⟨rfl, hbz⟩
      go_wp2_with fail
      go_ret
      exact ⟨rfl, (hB7).trans (hbz.mono (hB7).size)⟩
    | true =>
      have HLI := Lib.hid hli
      clear hli
      go_wp2_with fail
      go_loopw [7] (fun v7 wr => ∃ i, i ≤ nI ∧ v7 = .int .i64 (i : Nat) ∧ Hid (∀ j, j < i → (S.getD j []).length ≤ 1024) ∧ Below w.heap.size w wr) (fun v7 _ => nI - (intOf v7).toNat)
      case atStart => exact ⟨0, Nat.zero_le _, rfl, Lib.hid (fun j h => by omega), hb12⟩
      case' round =>
        obtain ⟨i, hi, rfl, HE, hb⟩ := hrel
        by_cases hin : i = nI
        rotate_left
        · have hlt : i < nI := by omega
          have hlt' : (i : Int) < nI := by omega
          obtain ⟨g1, o1, av, cv, rfl, hc, hs⟩ := (hI.below hb).at i hlt
          have HNX : Hid ((S.getD i []).length ≤ 1024 → ∀ j, j < i + 1 → (S.getD j []).length ≤ 1024) := Lib.hid (fun h j hj => by
            by_cases hji : j = i
            · rw [hji]; exact h
            · exact HE.out j (by omega))
          generalize (S.getD i []).length = q at hc HNX
          clear hs
          by_cases hq : 1024 < q
          · have hq' : (1024 : Int) < q := by omega
            go_wp2_with fail
            refine (works_any wr).mono ?_
            rintro e wz ⟨rfl, hbz⟩
            go_wp2_with fail
            go_ret
            exact ⟨rfl, (hb).trans (hbz.mono (hb).size)⟩
          · have hq' : ¬ (1024 : Int) < q := by omega
            have HE2 := Lib.hid (HNX.out (by omega))
            go_wp2_with fail
            exact ⟨⟨i + 1, by omega, by go_num, HE2, hb⟩, by simp [intOf]; omega⟩
        subst hin
        have HSL : Hid (∀ l ∈ S, l.length ≤ 1048576) := Lib.hid (fun l hl => by
          obtain ⟨j, hj, hj2⟩ := List.mem_iff_getElem.1 hl
          have := HE.out j (by rw [← HNI.out]; exact hj)
          rw [List.getD_eq_getElem?_getD, List.getElem?_eq_getElem hj] at this
          simp only [Option.getD_some] at this
          rw [hj2] at this
          omega)
        obtain ⟨w3, hw3⟩ : ∃ x, x = wr := ⟨_, rfl⟩
        rw [← hw3] at hb ⊢
        clear hw3 HE
        have K3 := Lib.hid (St.fresh hb NZ col0)
        have HI3 := Lib.hid (hI.below hb)
        clear hb
        go_wp2_with fail
        refine (copyImage_big aI i cI S w3 HI3.out hnI).mono ?_
        rintro e w4 ⟨v4, us4, rfl, hi4, hb4⟩
        obtain ⟨a4, c4, rfl⟩ := hi4.own.form
        have K4 := Lib.hid (K3.out.trans (St.new hb4 NZ col0 0))
        have IN4 := Lib.hid (ImI.new (col := col0) hi4)
        clear hi4 hb4 K3 HI3
        generalize recol col0 w3.heap.size 0 = col4 at K4 IN4
        go_wp2_with fail
        refine (load_p a4 i c4 S 1 (by decide) col4 w4 IN4.out.imr).mono ?_
        rintro e w5 hld
      have hld2 : ∃ b, e = .returned (.tuple #[.pointer (some ⟨b, 0, none⟩), .int .i64 0]) ∧ MadeNew 74 1 col4 w4 b (loadD S) w5 := by
        rcases hld with ⟨_, hx, _⟩ | ⟨b, h1, _, h2⟩
        · rw [HLI.out] at hx; cases hx
        · exact ⟨b, h1, h2⟩
      obtain ⟨b, rfl, col5, k5, h5⟩ := hld2
      have K5 := Lib.hid (K4.out.trans (k5.mono (fun _ h => h.elim)))
      have IN5 := Lib.hid (IN4.out.st k5 (fun h => h))
      have H5 := Lib.hid h5
      clear hld k5 h5 K4 IN4
      go_wp2_with fail
      refine (rload_p aI i cI S 2 (by decide) col5 w5 (hI.below K5.out.below)).mono ?_
      rintro e w6 hld
      have hld2 : ∃ b, e = .returned (.tuple #[.pointer (some ⟨b, 0, none⟩), .int .i64 0]) ∧ MadeNew 59 2 col5 w5 b (loadD S) w6 := by
        rcases hld with ⟨_, hx, _⟩ | ⟨b, h1, _, h2⟩
        · rw [HLI.out] at hx; cases hx
        · exact ⟨b, h1, h2⟩
      obtain ⟨r, rfl, col6, k6, r6⟩ := hld2
      have K6 := Lib.hid (K5.out.trans (k6.mono (fun _ h => h.elim)))
      have IN6 := Lib.hid (IN5.out.st k6 (fun h => h))
      have H6 := Lib.hid (H5.out.st k6 (fun h => h) (fun h => h))
      have R6 := Lib.hid r6
      have F0 := Lib.hid (loadD_fits HLI.out)
      clear hld k6 r6 K5 IN5 H5
      generalize loadD S = D0 at H6 R6 F0
      go_wp2_with fail
      refine (sameImage_big a4 i c4 S aI i cI S w6 IN6.out.imr (hI.below K6.out.below) hnI HSL.out HSL.out true (Lib.hid (by simp))).mono ?_
      rintro e w7 ⟨rfl, hb7⟩
      have k7 : St (fun _ => False) col6 w6 col6 w7 := St.fresh hb7 _ _
      have K7 := Lib.hid (K6.out.down hb7)
      have IN7 := Lib.hid (IN6.out.st k7 (fun h => h))
      have H7 := Lib.hid (H6.out.st k7 (fun h => h) (fun h => h))
      have R7 := Lib.hid (R6.out.st k7 (fun h => h) (fun h => h))
      clear k7 hb7 K6 IN6 H6 R6
      go_wp2_with fail
      go_loopw [13] (fun v13 wr => ∃ x col D, x ≤ nL ∧ v13 = .int .i64 (x : Nat) ∧ Hid (St NZ col0 w col wr) ∧ Hid (DkAt 74 1 col wr b D) ∧ Hid (DkAt 59 2 col wr r D) ∧ Hid (ImI col wr (.slice a4 i c4) S) ∧ Hid (D.Fits (2 * x + 0))) (fun v13 _ => nL - (intOf v13).toNat)
      case atStart => exact ⟨0, col6, D0, Nat.zero_le _, rfl, K7, H7, R7, IN7, F0⟩
      case round =>
        obtain ⟨x, col, D2, hx, rfl, K, H, R, IN, F2⟩ := hrel
        clear K7 H7 R7 IN7 F0
        by_cases hxn : x = nL
        rotate_left
        · have hlt : x < nL := by omega
          have hlt' : (x : Int) < nL := by omega
          obtain ⟨kF, hkF⟩ : ∃ kF, kF = 0 := ⟨_, rfl⟩
          obtain ⟨b7, o7, aB, nB, cB, l, aK, nK, cK, keep, Kd, s, rfl, hri, hrm, hrk, hop0, hd0, hd1, hd2, hd3⟩ := stp_at hL x hlt
          have hfew := (HF1).out.2 x Kd s l keep hri
          have hb7 : b7 < w.heap.size := lt_of_cell hd0
          have hnB : nB ≤ 1024 := by omega
          have HOP := Lib.hid hop0
          have HC := Lib.hid (And.intro hd0 (And.intro hd1 (And.intro hd2 hd3)))
          clear hri hrm hrk hfew hop0 hd0 hd1 hd2 hd3
          obtain ⟨E, hE⟩ : ∃ E, E = doE D2 Kd s l := ⟨_, rfl⟩
          obtain ⟨B, hB⟩ : ∃ B, B = doB D2 Kd s := ⟨_, rfl⟩
          obtain ⟨T, hT⟩ : ∃ T, T = doD D2 Kd s l keep := ⟨_, rfl⟩
          have HE := Lib.hid hE
          have HB := Lib.hid hB
          have HT := Lib.hid hT
          have hBle : B.length ≤ 256 := by rw [hB]; unfold doB; split; exact readB_le F2.out.fit s; simp
          have FT : Hid (T.Fits (2 * x + 2 + kF)) := Lib.hid (by rw [hT]; exact (doD_fits F2.out Kd s l keep HOP.out.hi).le (by omega))
          have hEE : (E != E) = false := by simp
          clear hE hB hT
          have hc0 := ((K).out.below.cell (p := ⟨b7, o7 + x * 4, none⟩) hb7).trans HC.out.1
          have hc1 := ((K).out.below.cell (p := ⟨b7, o7 + x * 4 + 1, none⟩) hb7).trans HC.out.2.1
          have hc2 := ((K).out.below.cell (p := ⟨b7, o7 + x * 4 + 2, none⟩) hb7).trans HC.out.2.2.1
          have hc3 := ((K).out.below.cell (p := ⟨b7, o7 + x * 4 + 3, none⟩) hb7).trans HC.out.2.2.2
          go_wp2_with fail
          refine (do_p 1 col b D2 (2 * x + 0) wr Kd s aB nB cB l aK nK cK keep H.out F2.out (by omega) (by decide) (HOP.out.sb.below K.out.below) (by omega) (HOP.out.sk.below K.out.below) (input_ne HOP.out.sk K.out 1 (by decide)) E HE B HB T HT).mono ?_
          rintro e w8 ⟨v8, rfl, col8, k8, h8, o8⟩
          have K8 := Lib.hid (K.out.trans (k8.mono one_ne))
          have R8 := Lib.hid (R.out.st k8 (by decide) (by decide))
          have IN8 := Lib.hid (IN.out.st k8 (by decide))
          have H8 := Lib.hid h8
          clear k8 h8 o8 K H R IN hc0 hc1 hc2 hc3
          have hc0 := ((K8).out.below.cell (p := ⟨b7, o7 + x * 4, none⟩) hb7).trans HC.out.1
          have hc1 := ((K8).out.below.cell (p := ⟨b7, o7 + x * 4 + 1, none⟩) hb7).trans HC.out.2.1
          have hc2 := ((K8).out.below.cell (p := ⟨b7, o7 + x * 4 + 2, none⟩) hb7).trans HC.out.2.2.1
          have hc3 := ((K8).out.below.cell (p := ⟨b7, o7 + x * 4 + 3, none⟩) hb7).trans HC.out.2.2.2
          go_wp2_with fail
          refine (meant_p 2 col8 r D2 (2 * x + 0) w8 Kd s aB nB cB l aK nK cK keep R8.out F2.out (by omega) (by decide) (HOP.out.sb.below K8.out.below) (by omega) (HOP.out.sk.below K8.out.below) (input_ne HOP.out.sk K8.out 2 (by decide)) E HE B HB T HT).mono ?_
          rintro e w9 ⟨v9, rfl, col9, k9, r9, o9⟩
          have K9 := Lib.hid (K8.out.trans (k9.mono two_ne))
          have H9 := Lib.hid (H8.out.st k9 (by decide) (by decide))
          have IN9 := Lib.hid (IN8.out.st k9 (by decide))
          have R9 := Lib.hid r9
          clear k9 r9 o9 hc0 hc1 hc2 hc3
          go_wp2_with fail
          exact ⟨⟨x + 1, col9, T, by omega, by go_num, K9, H9, R9, IN9, Lib.hid (FT.out.le (by omega))⟩, by simp [intOf]; omega⟩
        subst hxn
        obtain ⟨D, hD⟩ : ∃ x, x = D2 := ⟨_, rfl⟩
        rw [← hD] at H R F2
        clear hD
        go_wp2_with fail
        refine (copy_p 1 col b D (2 * x + 0) 3 wr H.out F2.out (by omega) (by decide)).mono ?_
        rintro e w8 ⟨c, rfl, col8, k8, c8⟩
        have K8 := Lib.hid (K.out.trans (k8.mono (fun _ h => h.elim)))
        have H8 := Lib.hid (H.out.st k8 (fun h => h) (fun h => h))
        have R8 := Lib.hid (R.out.st k8 (fun h => h) (fun h => h))
        have IN8 := Lib.hid (IN.out.st k8 (fun h => h))
        have C8 := Lib.hid c8
        clear k8 c8 K H R IN
        go_wp2_with fail
        refine (rcopy_p 2 col8 r D (2 * x + 0) 4 w8 R8.out F2.out (by omega) (by decide)).mono ?_
        rintro e w9 ⟨q, rfl, col9, k9, q9⟩
        have K9 := Lib.hid (K8.out.trans (k9.mono (fun _ h => h.elim)))
        have H9 := Lib.hid (H8.out.st k9 (fun h => h) (fun h => h))
        have R9 := Lib.hid (R8.out.st k9 (fun h => h) (fun h => h))
        have C9 := Lib.hid (C8.out.st k9 (fun h => h) (fun h => h))
        have IN9 := Lib.hid (IN8.out.st k9 (fun h => h))
        have Q9 := Lib.hid q9
        have F := F2
        clear k9 q9 K8 H8 R8 IN8 C8
        obtain ⟨kF, hkF⟩ : ∃ kF, kF = 2 * x := ⟨_, rfl⟩
        have F3 : Hid (D.Fits (2 * 0 + kF)) := Lib.hid (F2.out.le (by omega))
        have hkF2 : kF ≤ 240 := by omega
        clear F2 hkF
        go_wp2_with fail
        go_loopw [16] (fun v16 wr => ∃ y col D2, y ≤ nM ∧ v16 = .int .i64 (y : Nat) ∧ Hid (St NZ col0 w col wr) ∧ Hid (DkAt 74 1 col wr b D) ∧ Hid (DkAt 59 2 col wr r D) ∧ Hid (DkAt 74 3 col wr c D2) ∧ Hid (DkAt 59 4 col wr q D2) ∧ Hid (ImI col wr (.slice a4 i c4) S) ∧ Hid (D2.Fits (2 * y + kF))) (fun v16 _ => nM - (intOf v16).toNat)
        case atStart => exact ⟨0, col9, D, Nat.zero_le _, rfl, K9, H9, R9, C9, Q9, IN9, F3⟩
        case round =>
          obtain ⟨y, col, D2, hy, rfl, K, H, R, C, Q, IN, F2⟩ := hrel
          clear K9 H9 R9 C9 Q9 IN9 F3
          by_cases hyn : y = nM
          rotate_left
          · have hlt : y < nM := by omega
            have hlt' : (y : Int) < nM := by omega
            obtain ⟨b7, o7, aB, nB, cB, l, aK, nK, cK, keep, Kd, s, rfl, hri, hrm, hrk, hop0, hd0, hd1, hd2, hd3⟩ := stp_at hM y hlt
            have hfew := (HF2).out.2 y Kd s l keep hri
            have hb7 : b7 < w.heap.size := lt_of_cell hd0
            have hnB : nB ≤ 1024 := by omega
            have HOP := Lib.hid hop0
            have HC := Lib.hid (And.intro hd0 (And.intro hd1 (And.intro hd2 hd3)))
            clear hri hrm hrk hfew hop0 hd0 hd1 hd2 hd3
            obtain ⟨E, hE⟩ : ∃ E, E = doE D2 Kd s l := ⟨_, rfl⟩
            obtain ⟨B, hB⟩ : ∃ B, B = doB D2 Kd s := ⟨_, rfl⟩
            obtain ⟨T, hT⟩ : ∃ T, T = doD D2 Kd s l keep := ⟨_, rfl⟩
            have HE := Lib.hid hE
            have HB := Lib.hid hB
            have HT := Lib.hid hT
            have hBle : B.length ≤ 256 := by rw [hB]; unfold doB; split; exact readB_le F2.out.fit s; simp
            have FT : Hid (T.Fits (2 * y + 2 + kF)) := Lib.hid (by rw [hT]; exact (doD_fits F2.out Kd s l keep HOP.out.hi).le (by omega))
            have hEE : (E != E) = false := by simp
            clear hE hB hT
            have hc0 := ((K).out.below.cell (p := ⟨b7, o7 + y * 4, none⟩) hb7).trans HC.out.1
            have hc1 := ((K).out.below.cell (p := ⟨b7, o7 + y * 4 + 1, none⟩) hb7).trans HC.out.2.1
            have hc2 := ((K).out.below.cell (p := ⟨b7, o7 + y * 4 + 2, none⟩) hb7).trans HC.out.2.2.1
            have hc3 := ((K).out.below.cell (p := ⟨b7, o7 + y * 4 + 3, none⟩) hb7).trans HC.out.2.2.2
            go_wp2_with fail
            refine (do_p 3 col c D2 (2 * y + kF) wr Kd s aB nB cB l aK nK cK keep C.out F2.out (by omega) (by decide) (HOP.out.sb.below K.out.below) (by omega) (HOP.out.sk.below K.out.below) (input_ne HOP.out.sk K.out 3 (by decide)) E HE B HB T HT).mono ?_
            rintro e w8 ⟨v8, rfl, col8, k8, c8, o8⟩
            obtain ⟨a8, c8', rfl⟩ := o8.1.form
            have K8 := Lib.hid (K.out.trans (k8.mono three_ne))
            have H8 := Lib.hid (H.out.st k8 (by decide) (by decide))
            have R8 := Lib.hid (R.out.st k8 (by decide) (by decide))
            have Q8 := Lib.hid (Q.out.st k8 (by decide) (by decide))
            have IN8 := Lib.hid (IN.out.st k8 (by decide))
            have C8 := Lib.hid c8
            have O8 := Lib.hid o8
            clear k8 c8 o8 K H R C Q IN hc0 hc1 hc2 hc3
            have hc0 := ((K8).out.below.cell (p := ⟨b7, o7 + y * 4, none⟩) hb7).trans HC.out.1
            have hc1 := ((K8).out.below.cell (p := ⟨b7, o7 + y * 4 + 1, none⟩) hb7).trans HC.out.2.1
            have hc2 := ((K8).out.below.cell (p := ⟨b7, o7 + y * 4 + 2, none⟩) hb7).trans HC.out.2.2.1
            have hc3 := ((K8).out.below.cell (p := ⟨b7, o7 + y * 4 + 3, none⟩) hb7).trans HC.out.2.2.2
            go_wp2_with fail
            refine (meant_p 4 col8 q D2 (2 * y + kF) w8 Kd s aB nB cB l aK nK cK keep Q8.out F2.out (by omega) (by decide) (HOP.out.sb.below K8.out.below) (by omega) (HOP.out.sk.below K8.out.below) (input_ne HOP.out.sk K8.out 4 (by decide)) E HE B HB T HT).mono ?_
            rintro e w9 ⟨v9, rfl, col9, k9, q9, o9⟩
            obtain ⟨a9, c9', rfl⟩ := o9.1.form
            have K9 := Lib.hid (K8.out.trans (k9.mono four_ne))
            have H9 := Lib.hid (H8.out.st k9 (by decide) (by decide))
            have R9 := Lib.hid (R8.out.st k9 (by decide) (by decide))
            have C9 := Lib.hid (C8.out.st k9 (by decide) (by decide))
            have IN9 := Lib.hid (IN8.out.st k9 (by decide))
            have O9 := Lib.hid (O8.out.st k9 (by decide))
            have Q9 := Lib.hid q9
            have P9 := Lib.hid o9
            clear k9 q9 o9 hc0 hc1 hc2 hc3 K8 H8 R8 C8 Q8 IN8 O8
            obtain ⟨nb, hnb⟩ : ∃ nb, nb = B.length := ⟨_, rfl⟩
            rw [← hnb] at O9 P9 hBle ⊢
            clear hnb
            go_wp2_with fail
            refine (eqb_any a8 nb c8' a9 nb c9' B B w9 O9.out.1.sl P9.out.1.sl (by omega) (by omega)).mono ?_
            rintro e wa ⟨rfl, hba⟩
            rw [decide_eq_true rfl]
            have ka : St (fun _ => False) col9 w9 col9 wa := St.fresh hba _ _
            have Ka := Lib.hid (K9.out.down hba)
            have Ha := Lib.hid (H9.out.st ka (fun h => h) (fun h => h))
            have Ra := Lib.hid (R9.out.st ka (fun h => h) (fun h => h))
            have Ca := Lib.hid (C9.out.st ka (fun h => h) (fun h => h))
            have Qa := Lib.hid (Q9.out.st ka (fun h => h) (fun h => h))
            have INa := Lib.hid (IN9.out.st ka (fun h => h))
            clear ka hba K9 H9 R9 C9 Q9 IN9 O9 P9
            go_wp2_with fail
            refine (alike_any 3 4 col9 c q T wa Ca.out Qa.out).mono ?_
            rintro e wb ⟨rfl, hbb⟩
            have kb : St (fun _ => False) col9 wa col9 wb := St.fresh hbb _ _
            have Kb := Lib.hid (Ka.out.down hbb)
            have Hb := Lib.hid (Ha.out.st kb (fun h => h) (fun h => h))
            have Rb2 := Lib.hid (Ra.out.st kb (fun h => h) (fun h => h))
            have Cb := Lib.hid (Ca.out.st kb (fun h => h) (fun h => h))
            have Qb := Lib.hid (Qa.out.st kb (fun h => h) (fun h => h))
            have INb := Lib.hid (INa.out.st kb (fun h => h))
            clear kb hbb Ka Ha Ra Ca Qa INa
            go_wp2_with fail
            refine (alike_any 1 2 col9 b r D wb Hb.out Rb2.out).mono ?_
            rintro e wc ⟨rfl, hbc⟩
            have kc : St (fun _ => False) col9 wb col9 wc := St.fresh hbc _ _
            have Kc := Lib.hid (Kb.out.down hbc)
            have Hc := Lib.hid (Hb.out.st kc (fun h => h) (fun h => h))
            have Rc := Lib.hid (Rb2.out.st kc (fun h => h) (fun h => h))
            have Cc := Lib.hid (Cb.out.st kc (fun h => h) (fun h => h))
            have Qc := Lib.hid (Qb.out.st kc (fun h => h) (fun h => h))
            have INc := Lib.hid (INb.out.st kc (fun h => h))
            clear kc hbc Kb Hb Rb2 Cb Qb INb
            go_wp2_with fail
            exact ⟨⟨y + 1, col9, T, by omega, by go_num, Kc, Hc, Rc, Cc, Qc, INc, Lib.hid (FT.out.le (by omega))⟩, by simp [intOf]; omega⟩
          subst hyn
          have HLe : Hid (∀ l ∈ D.S, l.length ≤ 1048576) := Lib.hid (fun l hl => by have := F.out.fit.sl l hl; omega)
          have HS1 : Hid (D.S.length ≤ 1048576) := Lib.hid F.out.sec
          have HLe2 : Hid (∀ l ∈ D2.S, l.length ≤ 1048576) := Lib.hid (fun l hl => by have := F2.out.fit.sl l hl; omega)
          have HS2 : Hid (D2.S.length ≤ 1048576) := Lib.hid F2.out.sec
          go_wp2_with fail
          refine (image_dis 1 col b D wr H.out HS1.out HLe.out).mono ?_
          rintro e w8 ⟨v8, us, rfl, hi8, hd8, hb8⟩
          obtain ⟨nS, hnS⟩ : ∃ nS, nS = D.S.length := ⟨_, rfl⟩
          rw [← hnS] at hi8 HS1
          obtain ⟨a8, c8, rfl⟩ := hi8.own.form
          have K8 := Lib.hid (K.out.trans (St.new hb8 NZ col 9))
          have H8 := Lib.hid (H.out.st (St.new hb8 (fun _ => False) col 9) (fun h => h) (fun h => h))
          have R8 := Lib.hid (R.out.st (St.new hb8 (fun _ => False) col 9) (fun h => h) (fun h => h))
          have C8 := Lib.hid (C.out.st (St.new hb8 (fun _ => False) col 9) (fun h => h) (fun h => h))
          have Q8 := Lib.hid (Q.out.st (St.new hb8 (fun _ => False) col 9) (fun h => h) (fun h => h))
          have IN8 := Lib.hid (IN.out.st (St.new hb8 (fun _ => False) col 9) (fun h => h))
          have U9 : Hid (∀ u ∈ us, ∀ g, u.ownBlock = some g → recol col wr.heap.size 9 g = 9) := Lib.hid (fun u hu g hg => recol_ge (hi8.ins.lives u hu g hg).1)
          have I8 := Lib.hid (hi8.mono (Nat.zero_le _))
          have D8 := Lib.hid hd8
          have HNS := Lib.hid hnS
          clear hi8 hd8 hb8 hnS K H R C Q IN
          generalize recol col wr.heap.size 9 = colx at K8 H8 R8 C8 Q8 IN8 U9
          obtain ⟨aR, cR, aP, cP, sv, pv, hR⟩ := R8.out
          obtain ⟨aQ, cQ, aP2, cP2, sv2, pv2, hQ⟩ := Q8.out
          have HIR := Lib.hid hR.imr
          have HIQ := Lib.hid hQ.imr
          have q0 := later_cell (hR.row.cell 0 : w8.cell? ⟨r, 0, none⟩ = some (.slice aR D.S.length cR))
          have p0 := (hQ.row.cell 0 : w8.cell? ⟨q, 0, none⟩ = some (.slice aQ D2.S.length cQ))
          clear hR hQ
          obtain ⟨nQ, hnQ⟩ : ∃ nQ, nQ = D2.S.length := ⟨_, rfl⟩
          rw [← hnQ] at HIQ p0 HS2
          rw [← HNS.out] at HIR q0
          have HNQ := Lib.hid hnQ
          have P0 := Lib.hid p0
          clear hnQ p0
          go_wp2_with fail
          refine wp_region_idx Rb Rb_refl Rb_trans [(0,0),(0,1),(0,2),(0,3),(0,4),(1,5),(0,6),(0,7),(0,8),(0,10),(0,11),(0,12),(0,13),(1,9),(1,14),(0,15),(0,16)] (by kernel_rfl) (by kernel_rfl) (by kernel_rfl) ?_
          simp only [pickO, List.getD_cons_succ, List.getD_cons_zero]
          refine wpCan_seg 5 (by kernel_rfl) ?_
          simp only [List.take_succ_cons, List.take_zero, List.drop_succ_cons, List.drop_zero, List.map_cons, List.map_nil]
          iterate 5 (go_big_quiet_step (fail))
          refine wpQuiet_nil ?_
          clear q0
          refine wpCan_list (k := 0) (fun KK hK => ?_) (fun _ => Rb_refl _)
          go_wp2_with fail
          refine (sameImage_any a8 nS c8 D.S aR nS cR D.S w8.drew (I8.out.imr.below (Below.refl _ _).drew) (HIR.out.below (Below.refl _ _).drew) HS1.out HLe.out HLe.out true (Lib.hid (by simp))).mono ?_
          rintro e w9 ⟨rfl, hb9⟩
          go_wp2_with fail
          refine hK _ _ (fun _ => hb9) ?_
          clear hK KK
          have hB9 : Below w8.heap.size w8 w9 := (Below.refl w8.heap.size w8).drew.trans hb9
          have q1 := laterW_cell ((hB9.cell (p := ⟨q, 0, none⟩) (lt_of_cell P0.out)).trans P0.out)
          have k9 : St (fun _ => False) colx w8 colx w9 := St.fresh hB9 _ _
          have C9 := Lib.hid (C8.out.st k9 (fun h => h) (fun h => h))
          have HIQ9 := Lib.hid (HIQ.out.below hB9)
          have HB9 := Lib.hid hB9
          clear k9 hb9 hB9
          refine wpCan_seg 7 (by kernel_rfl) ?_
          simp only [List.take_succ_cons, List.take_zero, List.drop_succ_cons, List.drop_zero, List.map_cons, List.map_nil]
          iterate 7 (go_big_quiet_step (fail))
          refine wpQuiet_nil ?_
          clear q1
          refine wpCan_list (k := 0) (fun KK hK => ?_) (fun _ => Rb_refl _)
          go_wp2_with fail
          refine (image_p 3 colx c D2 w9 C9.out F2.out.sec HLe2.out).mono ?_
          rintro e wa ⟨va, usa, rfl, hia, hba⟩
          rw [← HNQ.out] at hia
          obtain ⟨aa, ca, rfl⟩ := hia.own.form
          have HIA := Lib.hid hia.imr
          have HIQa := Lib.hid (HIQ9.out.below hba)
          have HBA := Lib.hid hba
          clear hia
          go_wp2_with fail
          refine hK _ _ (fun _ => hba) ?_
          clear hK KK hba
          refine wpCan_list (k := 0) (fun KK hK => ?_) (fun _ => Rb_refl _)
          go_wp2_with fail
          refine (sameImage_any aa nQ ca D2.S aQ nQ cQ D2.S wa HIA.out HIQa.out HS2.out HLe2.out HLe2.out true (Lib.hid (by simp))).mono ?_
          rintro e wb ⟨rfl, hbb⟩
          have hB8 : Below w8.heap.size w8 wb := (HB9.out.trans (HBA.out.mono HB9.out.size)).trans (hbb.mono (Nat.le_trans HB9.out.size HBA.out.size))
          go_wp2_with fail
          refine hK _ _ (fun _ => hbb) ?_
          clear hK KK hbb
          refine wpCan_seg 2 (by kernel_rfl) ?_
          simp only [List.take_succ_cons, List.take_zero, List.drop_succ_cons, List.drop_zero, List.map_cons, List.map_nil]
          iterate 2 (go_big_quiet_step (fail))
          refine wpQuiet_nil ?_
          unfold wpCan
          have kb : St (fun _ => False) colx w8 colx wb := St.fresh hB8 _ _
          have Kb := Lib.hid (K8.out.down hB8)
          have Hb := Lib.hid (H8.out.st kb (fun h => h) (fun h => h))
          have Rb2 := Lib.hid (R8.out.st kb (fun h => h) (fun h => h))
          have INb := Lib.hid (IN8.out.st kb (fun h => h))
          have Ib := Lib.hid (I8.out.below hB8)
          clear kb hB8 HB9 HBA HIA HIQa HIQ9 C9 HIR HIQ P0 K8 H8 R8 C8 Q8 IN8 I8
          go_wp2_with fail
          go_loopw [22] (fun v22 wr => ∃ x S2, x ≤ nS ∧ v22 = .int .i64 (x : Nat) ∧ Hid (St NZ col0 w colx wr) ∧ Hid (DkAt 74 1 colx wr b D) ∧ Hid (DkAt 59 2 colx wr r D) ∧ Hid (ImI colx wr (.slice a4 i c4) S) ∧ Hid (Imgs wr 0 (.slice a8 nS c8) nS us S2)) (fun v22 _ => nS - (intOf v22).toNat)
          case atStart => exact ⟨0, D.S, Nat.zero_le _, rfl, Kb, Hb, Rb2, INb, Ib⟩
          case round =>
            obtain ⟨x, S2, hx, rfl, K, H, R, IN, I⟩ := hrel
            clear Kb Hb Rb2 INb Ib
            by_cases hxn : x = nS
            rotate_left
            · have hlt : x < nS := by omega
              have hlt' : (x : Int) < nS := by omega
              have hsz := I.out.own.1
              obtain ⟨u, hu⟩ : ∃ u, us[x]? = some u := ⟨us[x]'(by omega), by simp [show x < us.length by omega]⟩
              obtain ⟨au, cu, hform⟩ := (I.out.ins.at x u hu).form
              obtain ⟨nu, hnu⟩ : ∃ nu, nu = (S2.getD x []).length := ⟨_, rfl⟩
              rw [← hnu] at hform
              subst hform
              have HU := Lib.hid hu
              have hnm : nu ≤ 9223372036854775807 := by
                have h1 := (I.out.ins.at x _ hu).sl
                rw [← hnu] at h1
                exact h1.len.2.1
              clear hu hsz hnu
              go_wp2_with fail
              go_loopw [23] (fun v23 wr => ∃ k S3, k ≤ nu ∧ v23 = .int .i64 (k : Nat) ∧ Hid (St NZ col0 w colx wr) ∧ Hid (DkAt 74 1 colx wr b D) ∧ Hid (DkAt 59 2 colx wr r D) ∧ Hid (ImI colx wr (.slice a4 i c4) S) ∧ Hid (Imgs wr 0 (.slice a8 nS c8) nS us S3)) (fun v23 _ => nu - (intOf v23).toNat)
              case atStart => exact ⟨0, S2, Nat.zero_le _, rfl, K, H, R, IN, I⟩
              case round =>
                obtain ⟨k, S3, hk, rfl, K, H, R, IN, I⟩ := hrel
                obtain ⟨g8, o8, cap8, he8, _⟩ := I.out.own.open (by omega) (by decide)
                cases he8
                have hc8 := I.out.own.get x (by have := I.out.own.1; omega)
                rw [HU.out] at hc8
                by_cases hkn : k = nu
                · subst hkn
                  go_wp2_with fail
                  exact ⟨⟨x + 1, S3, by omega, by go_num, K, H, R, IN, I⟩, by simp [intOf]; omega⟩
                have hlt2 : k < nu := by omega
                have hlt2' : (k : Int) < nu := by omega
                have ho := I.out.ins.at x _ HU.out
                obtain ⟨l, hl⟩ : ∃ l, l = S3.getD x [] := ⟨_, rfl⟩
                rw [← hl] at ho
                have hlen : l.length = nu := by
                  obtain ⟨_, _, hq⟩ := ho.form
                  cases hq
                  rfl
                clear hl
                rw [hlen] at ho
                obtain ⟨g, off, cap, he, _⟩ := ho.open (by omega) (by decide)
                cases he
                have hc := ho.get k (by rw [bvs_length]; omega)
                rw [bvs_get _ _ (by omega)] at hc
                generalize hz : l.getD k 0 = z at hc
                obtain ⟨y', hy'⟩ : ∃ y : UInt8, y = z + 1 := ⟨_, rfl⟩
                have hy2 : (y'.toNat : Int) = ((z.toNat : Int) + 1) % 256 := by rw [hy', UInt8.toNat_add]; simp
                have q8 := later_cell hc8
                have q9 := later_cell hc
                have HO := Lib.hid ho.drew
                have HLEN := Lib.hid hlen
                have HY := Lib.hid hy2
                clear hz hy' ho hlen hy2
                go_wp2_with fail
                refine wp_region_idx Rb Rb_refl Rb_trans [(0,0),(0,1),(0,2),(0,3),(0,4),(0,5),(0,6),(0,7),(0,8),(0,9),(0,10),(0,11),(0,12),(0,13),(2,14)] (by kernel_rfl) (by kernel_rfl) (by kernel_rfl) ?_
                simp only [pickO, List.getD_cons_succ, List.getD_cons_zero]
                refine wpCan_seg 14 (by kernel_rfl) ?_
                simp only [List.take_succ_cons, List.take_zero, List.drop_succ_cons, List.drop_zero, List.map_cons, List.map_nil]
                iterate 14 (go_big_quiet_step (fail))
                refine wpQuiet_nil ?_
                clear q8 q9 hc hc8
                refine wpCan_list (k := 1) (fun KK hK => ?_) (fun h => by cases h)
                refine wpL_storeOwn (g := 0) rfl _ _ _ rfl (v := .int .u8 (y'.toNat : Int)) rfl (by rw [HY.out]; rfl) rfl rfl (by kernel_rfl) HO.out k rfl (by rw [bvs_length, HLEN.out]; exact hlt2) ?_
                intro w9 hg9 ho9
                rw [bvs_set] at ho9
                have HG9 := Lib.hid hg9
                have HO9 := Lib.hid ho9
                clear hg9 ho9
                refine hK _ _ (fun h => by cases h) ?_
                clear hK KK
                unfold wpCan
                go_wp2_with fail
                have k9 : St (fun x => x = 9) colx wr colx w9 := (St.fresh (Below.refl _ _).drew _ _).trans (St.one HG9.out _ _ (U9.out _ (List.mem_of_getElem? HU.out) g rfl))
                exact ⟨⟨k + 1, S3.set x (l.set k y'), hlt2, by go_num, Lib.hid (K.out.trans (k9.mono nine_ne)), Lib.hid (H.out.st k9 (by decide) (by decide)), Lib.hid (R.out.st k9 (by decide) (by decide)), Lib.hid (IN.out.st k9 (by decide)), Lib.hid ((I.out.below (Below.refl _ _).drew).poke D8.out HU.out HG9.out (by rw [List.length_set, HLEN.out]; exact HO9.out))⟩, by simp [intOf]; omega⟩
            have hxn2 : ¬ (x : Int) < nS := by omega
            clear hxn
            obtain ⟨aR, cR, aP, cP, sv, pv, hR⟩ := R.out
            have HIR := Lib.hid hR.imr
            have q0 := later_cell (hR.row.cell 0 : wr.cell? ⟨r, 0, none⟩ = some (.slice aR D.S.length cR))
            rw [← HNS.out] at HIR q0
            have hB := K.out.below
            clear hR
            go_wp2_with fail
            refine wp_region_idx Rb Rb_refl Rb_trans [(0,0),(0,2),(0,3),(0,4),(0,5),(1,1),(1,6),(0,7),(0,8),(0,9),(1,10),(0,11),(0,12),(1,13),(0,14),(0,15)] (by kernel_rfl) (by kernel_rfl) (by kernel_rfl) ?_
            simp only [pickO, List.getD_cons_succ, List.getD_cons_zero]
            refine wpCan_seg 5 (by kernel_rfl) ?_
            simp only [List.take_succ_cons, List.take_zero, List.drop_succ_cons, List.drop_zero, List.map_cons, List.map_nil]
            iterate 5 (go_big_quiet_step (fail))
            refine wpQuiet_nil ?_
            clear q0
            refine wpCan_list (k := 0) (fun KK hK => ?_) (fun _ => Rb_refl _)
            go_wp2_with fail
            refine (image_p 1 colx b D wr.drew (H.out.st (St.fresh (Below.refl _ _).drew (fun _ => False) colx) (fun h => h) (fun h => h)) F.out.sec HLe.out).mono ?_
            rintro e wa ⟨va, usa, rfl, hia, hba⟩
            rw [← HNS.out] at hia
            obtain ⟨aa, ca, rfl⟩ := hia.own.form
            go_wp2_with fail
            refine hK _ _ (fun _ => hba) ?_
            clear hK KK
            have hba' : Below wr.heap.size wr wa := (Below.refl wr.heap.size wr).drew.trans hba
            have HIA := Lib.hid hia.imr
            have HRA := Lib.hid (HIR.out.below hba')
            have INA := Lib.hid (IN.out.imr.below hba')
            clear hia hba
            refine wpCan_list (k := 0) (fun KK hK => ?_) (fun _ => Rb_refl _)
            go_wp2_with fail
            refine (sameImage_any aa nS ca D.S aR nS cR D.S wa HIA.out HRA.out HS1.out HLe.out HLe.out true (Lib.hid (by simp))).mono ?_
            rintro e wb ⟨rfl, hbb⟩
            have hBb := (hB.trans (hba'.mono hB.size)).trans (hbb.mono (Nat.le_trans hB.size hba'.size))
            have INB := Lib.hid (INA.out.below hbb)
            go_wp2_with fail
            refine hK _ _ (fun _ => hbb) ?_
            clear hK KK hbb
            refine wpCan_seg 3 (by kernel_rfl) ?_
            simp only [List.take_succ_cons, List.take_zero, List.drop_succ_cons, List.drop_zero, List.map_cons, List.map_nil]
            iterate 3 (go_big_quiet_step (fail))
            refine wpQuiet_nil ?_
            refine wpCan_list (k := 0) (fun KK hK => ?_) (fun _ => Rb_refl _)
            go_wp2_with fail
            refine (sameImage_big a4 i c4 S aI i cI S wb INB.out (hI.below hBb) hnI HSL.out HSL.out true (Lib.hid (by simp))).mono ?_
            rintro e wc ⟨rfl, hbc⟩
            have hBc := hBb.trans (hbc.mono hBb.size)
            go_wp2_with fail
            refine hK _ _ (fun _ => hbc) ?_
            clear hK KK hbc
            refine wpCan_seg 2 (by kernel_rfl) ?_
            simp only [List.take_succ_cons, List.take_zero, List.drop_succ_cons, List.drop_zero, List.map_cons, List.map_nil]
            iterate 2 (go_big_quiet_step (fail))
            refine wpQuiet_nil ?_
            refine wpCan_list (k := 0) (fun KK hK => ?_) (fun _ => Rb_refl _)
            go_wp2_with fail
            refine (works_any wc).mono ?_
            rintro e wz ⟨rfl, hbz⟩
            go_wp2_with fail
            refine hK _ _ (fun _ => hbz) ?_
            clear hK KK
            refine wpCan_seg 2 (by kernel_rfl) ?_
            simp only [List.take_succ_cons, List.take_zero, List.drop_succ_cons, List.drop_zero, List.map_cons, List.map_nil]
            iterate 2 (go_big_quiet_step (fail))
            refine wpQuiet_nil ?_
            unfold wpCan
            go_wp2_with fail
            go_ret
            exact ⟨rfl, hBc.trans (hbz.mono hBc.size)⟩
end Go.Proofs.Ytcocodpeigbdaaa
