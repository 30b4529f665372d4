/-
  The document's heap: one thing's words, oid and mark. Conditions: the heap reads as one.
-/
import Derived.Test.YtekmgffjdheifaaHqO
namespace Go.Proofs.Ytekmgffjdheifaa
open Go Go.RowKit
set_option linter.unusedVariables false
set_option linter.unusedSimpArgs false
set_option maxRecDepth 100000

theorem putTh_getD {H : List Th} {k : Nat} {h : Th} (hk : k < H.length) (q : Nat) : (putTh H k h).getD q noTh = if q = k then h else H.getD q noTh := by
  have := thAt_put (H := H) (k := k) (h := h) (by omega) (by omega) q
  rw [thAt_nat, thAt_nat] at this
  rw [this]
  by_cases e : q = k
  · rw [if_pos e, if_pos (by omega)]
  · rw [if_neg e, if_neg (by omega)]
theorem tcell_len (h : Th) (v : Value) : (tcell h v).length = 7 := rfl
section
variable {col col' : Nat → Nat} {w w' : World} {r m gl ol cl : Nat} {H : List Th} {cs : List Value} {vs : Nat → Value}
/-- one thing is another one -/
theorem RfIn.put (h : RfIn col w r m H gl ol cl cs vs) {k : Nat} (hk : k < H.length) {h' : Th} {v' : Value} {cs' : List Value} (K : St (fun y => y = 6 ∨ y = rc k) col w col' w')
    (hrow : Row w' r 101 [.int .i64 (m : Nat), .slice (some ⟨gl, ol, none⟩) H.length cl]) (hown : Own w' 0 7 (.slice (some ⟨gl, ol, none⟩) H.length cl) H.length cs')
    (hcs : ∀ q j, q < H.length → j < 7 → cs'[q * 7 + j]? = if q = k then (tcell h' v')[j]? else cs[q * 7 + j]?)
    (hw : OwnC col' w' (rc k) 2 v' h'.o.l.length (wcells h'.o.l)) : RfIn col' w' r m (putTh H k h') gl ol cl cs' (fun q => if q = k then v' else vs q) := by
  have e := putTh_len H (k : Nat) h'
  have hcg : col' gl = 6 := (K.ext gl (h.own.1.lives gl rfl)).trans (h.own.2 gl rfl)
  refine ⟨by rw [e]; exact hrow, (K.ext r h.row.lt).trans h.cr, by rw [e]; exact ⟨hown, fun g hg => by cases hg; exact hcg⟩, h.ne, fun q j hq hj => ?_, fun q hq => ?_⟩
  · rw [e] at hq
    rw [hcs q j hq hj, putTh_getD hk]
    by_cases eq : q = k
    · rw [if_pos eq, if_pos eq, if_pos eq]
    · rw [if_neg eq, if_neg eq, if_neg eq]
      exact h.at_ q j hq hj
  · rw [e] at hq
    rw [putTh_getD hk]
    by_cases eq : q = k
    · rw [if_pos eq]
      simp only [if_pos eq]
      rw [eq]
      exact hw
    · rw [if_neg eq]
      simp only [if_neg eq]
      exact (h.ws q hq).st K (fun e1 => e1.elim (fun e2 => by unfold rc at e2; omega) (fun e2 => eq (rc_inj e2)))
/-- one cell of a thing -/
theorem RfIn.set1 (h : RfIn col w r m H gl ol cl cs vs) {k : Nat} (hk : k < H.length) {j : Nat} {v : Value} {h' : Th} (hj : j < 7) (ho : h'.o = (H.getD k noTh).o) (ht : ∀ p, p < 7 → (tcell h' (vs k))[p]? = if p = j then some v else (tcell (H.getD k noTh) (vs k))[p]?)
    (hg : w.grownBy w' (some gl)) (hown : Own w' 0 7 (.slice (some ⟨gl, ol, none⟩) H.length cl) H.length (cs.set (k * 7 + j) v)) :
    RfAt col w' r m (putTh H k h') ∧ St RQ col w col w' := by
  have K6 : St (fun y => y = 6) col w col w' := St.one hg _ _ (h.own.2 gl rfl)
  have K : St (fun y => y = 6 ∨ y = rc k) col w col w' := K6.mono (fun _ e => .inl e)
  have hl := h.own.1.1
  refine ⟨⟨gl, ol, cl, _, _, h.put hk (h' := h') (v' := vs k) K (h.row.grown hg (fun e => h.ne (Option.some.inj e).symm)) hown (fun q p hq hp => ?_) ?_⟩, K.mono (fun x hx => by rcases hx with hx | hx; exact .inl hx; exact .inr (by unfold rc at hx; omega))⟩
  · rw [List.getElem?_set]
    by_cases eq : q = k
    · subst eq
      rw [if_pos rfl, ht p hp]
      by_cases ep : p = j
      · subst ep
        rw [if_pos rfl, if_pos rfl, if_pos (by omega)]
      · rw [if_neg ep, if_neg (by omega)]
        exact h.at_ q p hq hp
    · rw [if_neg eq, if_neg (by omega)]
  · rw [ho]
    exact (h.ws k hk).st K6 (by unfold rc; omega)
/-- what stands at a handle's cells, when a thing is there -/
theorem RfIn.there (h : RfIn col w r m H gl ol cl cs vs) {k : Int} (hk : (thAt H k).is = true) : ∃ i : Nat, k = i ∧ i < H.length ∧ H.getD i noTh = thAt H k := by
  obtain ⟨i, e, hi, h2⟩ := thAt_is hk
  exact ⟨i, e, hi, h2.symm⟩
set_option maxHeartbeats 1600000 in
theorem cleanR_p (h : RfIn col w r m H gl ol cl cs vs) (hg : Hid (Good H m)) (k : Int) (B : Bool) (hB : Hid (B = (thAt H k).dirty)) (H' : List Th) (hH : Hid (H' = cleanH H k)) :
    Calls Try.prog 65 #[.pointer (some ⟨r, 0, none⟩), .int .i64 k] w (StepR (.bool B) H' m col w r) := by
  have HH := Lib.hid h
  cases his : (thAt H k).is with
  | false =>
    have HI := Lib.hid his
    obtain rfl : B = false := by rw [hB.out, hg.out.non k his]; rfl
    obtain rfl : H' = H := by rw [hH.out, cleanH, hg.out.non k his]; rfl
    clear his h hB hH
    go_enter Try.func65, Try.ntmps65
    go_wp2_with fail
    refine (has_p HH.out _ false (Lib.hid HI.out.symm)).mono ?_
    rintro e w1 ⟨rfl, rfl⟩
    go_wp2_with fail
    go_ret
    exact StepR.stay HH.out.at (Below.refl _ _)
  | true =>
    obtain ⟨i, rfl, hi, hIA⟩ := h.there his
    have HI := Lib.hid his
    have c1 := h.c1
    have hcap := h.cap
    have hi' : (i : Int) < H.length := by omega
    obtain ⟨d0, d1, d2, d3, d4, d5, d6⟩ := h.all hi
    rw [hIA, ← hB.out] at d6
    have hob := h.own.1
    have hlen : i * 7 + 6 < cs.length := by have := hob.1; omega
    have HIA := Lib.hid hIA
    have HIL := Lib.hid hi
    clear his h d0 d1 d2 d3 d4 d5 hIA
    cases B with
    | false =>
      obtain rfl : H' = H := by rw [hH.out, cleanH, ← hB.out]; rfl
      clear hob hlen
      go_enter Try.func65, Try.ntmps65
      go_wp2_with fail
      refine (has_p HH.out _ true (Lib.hid HI.out.symm)).mono ?_
      rintro e w1 ⟨rfl, rfl⟩
      go_wp2_with fail
      go_ret
      exact StepR.stay HH.out.at (Below.refl _ _)
    | true =>
      have HE : Hid (H' = putTh H (i : Nat) { thAt H (i : Nat) with dirty := false }) := Lib.hid (by rw [hH.out, cleanH, if_pos hB.out.symm])
      go_enter Try.func65, Try.ntmps65
      go_wp2_with fail
      refine (has_p HH.out _ true (Lib.hid HI.out.symm)).mono ?_
      rintro e w1 ⟨rfl, rfl⟩
      go_wp2_with (refine wpL_storeOwn (g := 0) rfl _ _ _ rfl (v := .bool false) rfl rfl rfl rfl (by kernel_rfl) hob (i * 7 + 6) (by omega) hlen ?_; intro w2 hg2 ho2)
      go_ret
      rw [HE.out]
      obtain ⟨q1, q2⟩ := HH.out.set1 HIL.out (j := 6) (v := .bool false) (h' := { thAt H (i : Nat) with dirty := false }) (by decide) (by rw [HIA.out]) (fun p hp => by rw [HIA.out]; (have : p = 0 ∨ p = 1 ∨ p = 2 ∨ p = 3 ∨ p = 4 ∨ p = 5 ∨ p = 6 := by omega); rcases this with rfl | rfl | rfl | rfl | rfl | rfl | rfl <;> rfl) hg2 ho2
      exact ⟨rfl, col, q2, q1⟩
theorem seven {p : Nat} (h : p < 7) : p = 0 ∨ p = 1 ∨ p = 2 ∨ p = 3 ∨ p = 4 ∨ p = 5 ∨ p = 6 := by omega
theorem RfIn.setOid (h : RfIn col w r m H gl ol cl cs vs) {i : Nat} (hi : i < H.length) {t : Th} (hIA : H.getD i noTh = t) {x : Int} (hg : w.grownBy w' (some gl)) (hown : Own w' 0 7 (.slice (some ⟨gl, ol, none⟩) H.length cl) H.length (cs.set (i * 7 + 5) (.int .i64 x))) :
    RfAt col w' r m (putTh H i { t with oid := x }) ∧ St RQ col w col w' :=
  h.set1 hi (j := 5) (v := .int .i64 x) (h' := { t with oid := x }) (by decide) (by rw [hIA]) (fun p hp => by rw [hIA]; rcases seven hp with rfl | rfl | rfl | rfl | rfl | rfl | rfl <;> rfl) hg hown
theorem RfIn.setDirty (h : RfIn col w r m H gl ol cl cs vs) {i : Nat} (hi : i < H.length) {t : Th} (hIA : H.getD i noTh = t) {x : Bool} (hg : w.grownBy w' (some gl)) (hown : Own w' 0 7 (.slice (some ⟨gl, ol, none⟩) H.length cl) H.length (cs.set (i * 7 + 6) (.bool x))) :
    RfAt col w' r m (putTh H i { t with dirty := x }) ∧ St RQ col w col w' :=
  h.set1 hi (j := 6) (v := .bool x) (h' := { t with dirty := x }) (by decide) (by rw [hIA]) (fun p hp => by rw [hIA]; rcases seven hp with rfl | rfl | rfl | rfl | rfl | rfl | rfl <;> rfl) hg hown
theorem put_put (H : List Th) (k : Int) (a b : Th) : putTh (putTh H k a) k b = putTh H k b := by unfold putTh; exact List.set_set ..
set_option maxHeartbeats 1600000 in
theorem tieR_p (h : RfIn col w r m H gl ol cl cs vs) (hg : Hid (Good H m)) (k x : Int) (E : Int) (hE : Hid (E = tieE H k x)) (H' : List Th) (hH : Hid (H' = tieH H k x)) :
    Calls Try.prog 60 #[.pointer (some ⟨r, 0, none⟩), .int .i64 k, .int .i64 x] w (StepR (.int .i64 E) H' m col w r) := by
  have HH := Lib.hid h
  cases his : (thAt H k).is with
  | false =>
    have HI := Lib.hid his
    have e1 : tieE H k x = 7 := by rw [tieE, if_pos his]
    obtain rfl : E = 7 := hE.out.trans e1
    obtain rfl : H' = H := by rw [hH.out, tieH, e1]; rfl
    clear his h hE hH e1
    go_enter Try.func60, Try.ntmps60
    go_wp2_with fail
    refine (has_p HH.out _ false (Lib.hid HI.out.symm)).mono ?_
    rintro e w1 ⟨rfl, rfl⟩
    go_wp2_with fail
    go_ret
    exact StepR.stay HH.out.at (Below.refl _ _)
  | true =>
    obtain ⟨i, rfl, hi, hIA⟩ := h.there his
    have HI := Lib.hid his
    have c1 := h.c1
    have hcap := h.cap
    have hi' : (i : Int) < H.length := by omega
    obtain ⟨d0, d1, d2, d3, d4, d5, d6⟩ := h.all hi
    rw [hIA] at d0 d1 d3 d4 d5 d6
    have HIA := Lib.hid hIA
    have HIL := Lib.hid hi
    have HZ : Hid ((thAt H 0).is = false) := Lib.hid (by rw [hg.out.zero]; rfl)
    by_cases hx : x < 1 ∨ 16384 < x
    · have e1 : tieE H (i : Nat) x = 1 := by rw [tieE, if_neg (by rw [his]; decide), if_pos hx]
      obtain rfl : E = 1 := hE.out.trans e1
      obtain rfl : H' = H := by rw [hH.out, tieH, e1]; rfl
      clear his h hE hH e1 d0 d1 d2 d3 d4 d5 d6
      by_cases hx1 : x < 1
      · go_enter Try.func60, Try.ntmps60
        go_wp2_with fail
        refine (has_p HH.out _ true (Lib.hid HI.out.symm)).mono ?_
        rintro e w1 ⟨rfl, rfl⟩
        go_wp2_with fail
        go_ret
        exact StepR.stay HH.out.at (Below.refl _ _)
      · have hx2 : 16384 < x := by omega
        go_enter Try.func60, Try.ntmps60
        go_wp2_with fail
        refine (has_p HH.out _ true (Lib.hid HI.out.symm)).mono ?_
        rintro e w1 ⟨rfl, rfl⟩
        go_wp2_with fail
        go_ret
        exact StepR.stay HH.out.at (Below.refl _ _)
    have hx1 : ¬ x < 1 := by omega
    have hx2 : ¬ 16384 < x := by omega
    obtain ⟨q, hq⟩ : ∃ q, q = ofH H x := ⟨_, rfl⟩
    obtain ⟨y, hy⟩ : ∃ y, y = (thAt H (i : Nat)).oid := ⟨_, rfl⟩
    rw [← hy] at d5
    have HQ := Lib.hid hq
    have HY := Lib.hid hy
    have e1 : tieE H (i : Nat) x = if 0 < q ∨ 0 < y then 3 else 0 := by rw [tieE, if_neg (by rw [his]; decide), if_neg hx, ← hq, ← hy]
    rw [e1] at hE
    have e2 : tieH H (i : Nat) x = if (0 < q ∨ 0 < y) then H else putTh H (i : Nat) (tieTh (thAt H (i : Nat)) x) := by
      rw [tieH, e1]
      by_cases h0 : 0 < q ∨ 0 < y
      · rw [if_pos h0, if_neg (by decide), if_pos h0]
      · rw [if_neg h0, if_pos rfl, if_neg h0]
    rw [e2] at hH
    clear his h e1 e2 hq hy d0 d1 d2 d3 d4 d6 hx
    by_cases hq0 : 0 < q
    · obtain rfl : E = 3 := hE.out.trans (if_pos (.inl hq0))
      obtain rfl : H' = H := hH.out.trans (if_pos (.inl hq0))
      go_enter Try.func60, Try.ntmps60
      go_wp2_with fail
      refine (has_p HH.out _ true (Lib.hid HI.out.symm)).mono ?_
      rintro e w1 ⟨rfl, rfl⟩
      go_wp2_with fail
      refine (ofR_p HH.out HZ x q HQ).mono ?_
      rintro e w2 ⟨rfl, rfl⟩
      go_wp2_with fail
      go_ret
      exact StepR.stay HH.out.at (Below.refl _ _)
    by_cases hy0 : 0 < y
    · obtain rfl : E = 3 := hE.out.trans (if_pos (.inr hy0))
      obtain rfl : H' = H := hH.out.trans (if_pos (.inr hy0))
      go_enter Try.func60, Try.ntmps60
      go_wp2_with fail
      refine (has_p HH.out _ true (Lib.hid HI.out.symm)).mono ?_
      rintro e w1 ⟨rfl, rfl⟩
      go_wp2_with fail
      refine (ofR_p HH.out HZ x q HQ).mono ?_
      rintro e w2 ⟨rfl, rfl⟩
      go_wp2_with fail
      go_ret
      exact StepR.stay HH.out.at (Below.refl _ _)
    obtain rfl : E = 0 := hE.out.trans (if_neg (by omega))
    have HE : Hid (H' = putTh H (i : Nat) (tieTh (thAt H (i : Nat)) x)) := Lib.hid (hH.out.trans (if_neg (by omega)))
    clear hE hH
    go_enter Try.func60, Try.ntmps60
    go_wp2_with fail
    refine (has_p HH.out _ true (Lib.hid HI.out.symm)).mono ?_
    rintro e w1 ⟨rfl, rfl⟩
    go_wp2_with fail
    refine (ofR_p HH.out HZ x q HQ).mono ?_
    rintro e w2 ⟨rfl, rfl⟩
    go_upto_region 8 with fail
    clear d5
    have hob := HH.out.own.1
    have hlen : i * 7 + 5 < cs.length := by have := hob.1; have := HIL.out; omega
    go_upto_region 9 with (refine wpL_storeOwn (g := 0) rfl _ _ _ rfl (v := .int .i64 x) rfl rfl rfl rfl (by kernel_rfl) hob (i * 7 + 5) (by omega) hlen ?_; intro w2 hg2 ho2)
    obtain ⟨q1, q2⟩ := HH.out.setOid HIL.out HIA.out hg2 ho2
    obtain ⟨H1, hH1⟩ : ∃ H1, H1 = putTh H (i : Nat) { thAt H (i : Nat) with oid := x } := ⟨_, rfl⟩
    rw [← hH1] at q1
    obtain ⟨gl2, ol2, cl2, cs2, vs2, q3⟩ := q1
    have HH2 := Lib.hid q3
    have Q2 := Lib.hid q2
    have HH1 := Lib.hid hH1
    have HIL2 : Hid (i < H1.length) := Lib.hid (by rw [hH1, putTh_len]; exact HIL.out)
    have HIA2 : Hid (H1.getD i noTh = { thAt H (i : Nat) with oid := x }) := Lib.hid (by rw [hH1, putTh_getD HIL.out, if_pos rfl])
    have c1b := q3.c1
    have hcapb := q3.cap
    have hib : (i : Int) < H1.length := by have := HIL2.out; omega
    have hobb := q3.own.1
    have hlenb : i * 7 + 6 < cs2.length := by have := hobb.1; have := HIL2.out; omega
    clear q2 q3 hg2 ho2 hob hlen c1 hcap hi' hH1
    go_upto_region 10 with (refine wpL_storeOwn (g := 0) rfl _ _ _ rfl (v := .bool false) rfl rfl rfl rfl (by kernel_rfl) hobb (i * 7 + 6) (by omega) hlenb ?_; intro w3 hg3 ho3)
    obtain ⟨q4, q5⟩ := HH2.out.setDirty HIL2.out HIA2.out hg3 ho3
    rw [HH1.out, put_put] at q4
    have Q4 := Lib.hid q4
    have Q5 := Lib.hid (Q2.out.trans q5)
    clear q4 q5 hg3 ho3 hobb hlenb
    go_wp2_with fail
    go_ret
    exact ⟨rfl, col, Q5.out, by rw [HE.out]; exact Q4.out⟩
set_option maxHeartbeats 1600000 in
theorem untieR_p (h : RfIn col w r m H gl ol cl cs vs) (hg : Hid (Good H m)) (k : Int) (B : Bool) (hB : Hid (B = untieIs H k)) (H' : List Th) (hH : Hid (H' = untieH H k)) :
    Calls Try.prog 61 #[.pointer (some ⟨r, 0, none⟩), .int .i64 k] w (StepR (.bool B) H' m col w r) := by
  have HH := Lib.hid h
  cases his : (thAt H k).is with
  | false =>
    have HI := Lib.hid his
    have e1 : untieIs H k = false := by rw [untieIs, his]; rfl
    obtain rfl : B = false := hB.out.trans e1
    obtain rfl : H' = H := by rw [hH.out, untieH, e1]; rfl
    clear his h hB hH e1
    go_enter Try.func61, Try.ntmps61
    go_wp2_with fail
    refine (has_p HH.out _ false (Lib.hid HI.out.symm)).mono ?_
    rintro e w1 ⟨rfl, rfl⟩
    go_wp2_with fail
    go_ret
    exact StepR.stay HH.out.at (Below.refl _ _)
  | true =>
    obtain ⟨i, rfl, hi, hIA⟩ := h.there his
    have HI := Lib.hid his
    have c1 := h.c1
    have hcap := h.cap
    have hi' : (i : Int) < H.length := by omega
    obtain ⟨d0, d1, d2, d3, d4, d5, d6⟩ := h.all hi
    rw [hIA] at d0 d1 d3 d4 d5 d6
    have HIA := Lib.hid hIA
    have HIL := Lib.hid hi
    have HG := Lib.hid (hg.out.oid (i : Nat)).1
    have e1 : untieIs H (i : Nat) = (decide (0 < (thAt H (i : Nat)).oid) && decide ((thAt H (i : Nat)).o.k ≠ 8)) := by rw [untieIs, his]; rfl
    have hK8 : Hid ((thAt H (i : Nat)).o.k = 8 ↔ (thAt H (i : Nat)).o.k.toNat = 8) := Lib.hid u8_eq
    have e2 : untieH H (i : Nat) = if untieIs H (i : Nat) then putTh H (i : Nat) (tieTh (thAt H (i : Nat)) 0) else H := rfl
    obtain ⟨y, hy⟩ : ∃ y, y = (thAt H (i : Nat)).oid := ⟨_, rfl⟩
    obtain ⟨q, hq⟩ : ∃ q, q = (thAt H (i : Nat)).o.k.toNat := ⟨_, rfl⟩
    rw [← hy] at d5
    rw [← hq] at d0
    rw [← hy] at HG e1
    rw [← hq] at hK8
    have E1 := Lib.hid e1
    have E2 := Lib.hid e2
    clear his h e1 e2 hy hq d1 d2 d3 d4 d6
    by_cases hy0 : y = 0
    · have e3 : untieIs H (i : Nat) = false := by rw [E1.out, hy0]; rfl
      obtain rfl : B = false := hB.out.trans e3
      obtain rfl : H' = H := by rw [hH.out, E2.out, e3]; rfl
      subst hy0
      clear e3
      go_enter Try.func61, Try.ntmps61
      go_wp2_with fail
      refine (has_p HH.out _ true (Lib.hid HI.out.symm)).mono ?_
      rintro e w1 ⟨rfl, rfl⟩
      go_wp2_with fail
      go_ret
      exact StepR.stay HH.out.at (Below.refl _ _)
    have hyp : 0 < y := by have := HG.out; omega
    have hy1 : (y == 0) = false := by simp [hy0]
    by_cases hq8 : q = 8
    · have e3 : untieIs H (i : Nat) = false := by rw [E1.out]; simp [hK8.out.2 hq8]
      obtain rfl : B = false := hB.out.trans e3
      obtain rfl : H' = H := by rw [hH.out, E2.out, e3]; rfl
      subst hq8
      clear e3
      go_enter Try.func61, Try.ntmps61
      go_wp2_with fail
      refine (has_p HH.out _ true (Lib.hid HI.out.symm)).mono ?_
      rintro e w1 ⟨rfl, rfl⟩
      go_wp2_with fail
      go_ret
      exact StepR.stay HH.out.at (Below.refl _ _)
    have hq1 : ((q : Int) == 8) = false := by simp; omega
    have e3 : untieIs H (i : Nat) = true := by rw [E1.out]; simp [hyp]; exact fun e => hq8 (hK8.out.1 e)
    obtain rfl : B = true := hB.out.trans e3
    have HE : Hid (H' = putTh H (i : Nat) (tieTh (thAt H (i : Nat)) 0)) := Lib.hid (by rw [hH.out, E2.out, e3]; rfl)
    clear e3 hB hH hy0 hq8
    go_enter Try.func61, Try.ntmps61
    go_wp2_with fail
    refine (has_p HH.out _ true (Lib.hid HI.out.symm)).mono ?_
    rintro e w1 ⟨rfl, rfl⟩
    go_upto_region 3 with fail
    clear d5 d0
    have hob := HH.out.own.1
    have hlen : i * 7 + 5 < cs.length := by have := hob.1; have := HIL.out; omega
    go_upto_region 4 with (refine wpL_storeOwn (g := 0) rfl _ _ _ rfl (v := .int .i64 0) rfl rfl rfl rfl (by kernel_rfl) hob (i * 7 + 5) (by omega) hlen ?_; intro w2 hg2 ho2)
    obtain ⟨q1, q2⟩ := HH.out.setOid HIL.out HIA.out hg2 ho2
    obtain ⟨H1, hH1⟩ : ∃ H1, H1 = putTh H (i : Nat) { thAt H (i : Nat) with oid := 0 } := ⟨_, rfl⟩
    rw [← hH1] at q1
    obtain ⟨gl2, ol2, cl2, cs2, vs2, q3⟩ := q1
    have HH2 := Lib.hid q3
    have Q2 := Lib.hid q2
    have HH1 := Lib.hid hH1
    have HIL2 : Hid (i < H1.length) := Lib.hid (by rw [hH1, putTh_len]; exact HIL.out)
    have HIA2 : Hid (H1.getD i noTh = { thAt H (i : Nat) with oid := 0 }) := Lib.hid (by rw [hH1, putTh_getD HIL.out, if_pos rfl])
    have c1b := q3.c1
    have hcapb := q3.cap
    have hib : (i : Int) < H1.length := by have := HIL2.out; omega
    have hobb := q3.own.1
    have hlenb : i * 7 + 6 < cs2.length := by have := hobb.1; have := HIL2.out; omega
    clear q2 q3 hg2 ho2 hob hlen c1 hcap hi' hH1
    go_upto_region 5 with (refine wpL_storeOwn (g := 0) rfl _ _ _ rfl (v := .bool false) rfl rfl rfl rfl (by kernel_rfl) hobb (i * 7 + 6) (by omega) hlenb ?_; intro w3 hg3 ho3)
    obtain ⟨q4, q5⟩ := HH2.out.setDirty HIL2.out HIA2.out hg3 ho3
    rw [HH1.out, put_put] at q4
    have Q4 := Lib.hid q4
    have Q5 := Lib.hid (Q2.out.trans q5)
    clear q4 q5 hg3 ho3 hobb hlenb
    go_wp2_with fail
    go_ret
    exact ⟨rfl, col, Q5.out, by rw [HE.out]; exact Q4.out⟩
theorem oidR_p (h : RfIn col w r m H gl ol cl cs vs) (hg : Hid (Good H m)) (k : Int) (x : Int) (hx : Hid (x = (thAt H k).oid)) :
    Calls Try.prog 62 #[.pointer (some ⟨r, 0, none⟩), .int .i64 k] w fun e w' => e = .returned (.tuple #[.int .i64 x, .bool (decide (0 < x))]) ∧ w = w' := by
  have HH := Lib.hid h
  cases his : (thAt H k).is with
  | false =>
    have HI := Lib.hid his
    obtain rfl : x = 0 := by rw [hx.out, hg.out.non k his]; rfl
    clear his h hx
    go_enter Try.func62, Try.ntmps62
    go_wp2_with fail
    refine (has_p HH.out _ false (Lib.hid HI.out.symm)).mono ?_
    rintro e w1 ⟨rfl, rfl⟩
    go_wp2_with fail
    go_ret2
    exact ⟨rfl, rfl⟩
  | true =>
    obtain ⟨i, rfl, hi, hIA⟩ := h.there his
    have HI := Lib.hid his
    have c1 := h.c1
    have hcap := h.cap
    have hi' : (i : Int) < H.length := by omega
    obtain ⟨d0, d1, d2, d3, d4, d5, d6⟩ := h.all hi
    rw [hIA] at d0 d1 d3 d4 d5 d6
    have HIA := Lib.hid hIA
    have HIL := Lib.hid hi
    have HG := Lib.hid (hg.out.oid (i : Nat)).1
    rw [← hx.out] at d5
    rw [← hx.out] at HG
    clear his h hx d0 d1 d2 d3 d4 d6
    by_cases hy0 : x = 0
    · subst hy0
      go_enter Try.func62, Try.ntmps62
      go_wp2_with fail
      refine (has_p HH.out _ true (Lib.hid HI.out.symm)).mono ?_
      rintro e w1 ⟨rfl, rfl⟩
      go_wp2_with fail
      go_ret2
      exact ⟨rfl, rfl⟩
    have hyp : 0 < x := by have := HG.out; omega
    have hy1 : (x == 0) = false := by simp [hy0]
    go_enter Try.func62, Try.ntmps62
    go_wp2_with fail
    refine (has_p HH.out _ true (Lib.hid HI.out.symm)).mono ?_
    rintro e w1 ⟨rfl, rfl⟩
    go_wp2_with fail
    go_ret2
    exact ⟨by simp [hyp], rfl⟩
end
end Go.Proofs.Ytekmgffjdheifaa
