/-
  Whether roots are right, walked. Condition: code within a machine's reach.
-/
import Derived.Test.YtoddklfblcfoiaaDoorCpA
namespace Go.Proofs.YtoddklfblcfoiaaDoor
open Go Go.RowKit
set_option linter.unusedVariables false
set_option linter.unusedSimpArgs false
set_option maxRecDepth 100000

open Classical in
theorem rootedV_yes {l : List Sta} (h : RootedP l) : rootedV l = true := by unfold rootedV; exact decide_eq_true h
open Classical in
theorem rootedV_no {l : List Sta} (h : ¬ RootedP l) : rootedV l = false := by unfold rootedV; exact decide_eq_false h
theorem run_front {P : Program} (w : World) {t e : TypeId} {z : Nat} (ht : P.underlying t = some (.slice e)) (hsz : (P.info? e).map (·.size) = some z) (b off n c h : Nat) (h1 : h ≤ c) :
    (Instr.slice t (.slice (some ⟨b, off, none⟩) n c) none (some (.int .i64 (h : Nat))) none).run P w = .ok (.slice (some ⟨b, off, none⟩) h c) w := by
  obtain ⟨i, hi', hs⟩ := Option.map_eq_some_iff.1 hsz
  simp [Instr.slice, run_underlying ht, bounds_h w n c h .i64 h1, sizeOf, typeInfo, hi', hs, add_eq]
theorem root_no {l : List Sta} {k : Nat} {x : Sta} (hx : l[k]? = some x) (h : ¬ rootAt l k x) : rootedV l = false := by
  cases hv : rootedV l with
  | false => rfl
  | true => exact absurd ((rootedV_spec hv.symm).1 rfl |>.2 k x hx) h
theorem twice_spec {l : List Sta} {k : Nat} {x : Sta} : twiceB (l.take k) x = false ↔ ∀ j, j < k → ∀ y, l[j]? = some y → y.n ≠ x.n := by
  unfold twiceB
  rw [List.any_eq_false]
  constructor
  · intro h j hj y hy e
    exact h y (List.mem_of_getElem? (i := j) (by rw [List.getElem?_take_of_lt hj]; exact hy)) (decide_eq_true e)
  · intro h y hy
    obtain ⟨j, hj⟩ := List.mem_iff_getElem?.1 hy
    have hjk : j < k := by
      have := (List.getElem?_eq_some_iff.1 hj).1
      rw [List.length_take] at this
      omega
    rw [List.getElem?_take_of_lt hjk] at hj
    simpa using h j hjk y hj
set_option maxHeartbeats 1600000 in
theorem rooted_p (k : Nat) (vF vB : Value) (aR : Option Addr) (nR kR : Nat) (l : List Sta) (w : World) (hk : Row w k 79 [vF, .slice aR nR kR, vB]) (hl : Sl w 2 (.slice aR nR kR) nR (stCells l)) (B : Bool) (HB : Hid (B = rootedV l)) :
    Calls Tryd.prog 39 #[.pointer (some ⟨k, 0, none⟩)] w fun e w' => e = .returned (.bool B) ∧ Below w.heap.size w w' := by
  have hlen : l.length = nR := by have := hl.1; rw [flat_len staC 2 staC_len] at this; omega
  have HN := Lib.hid hlen
  have hn2 := hl.cap.2.1
  have hn3 := hl.cap.1
  have HL := Lib.hid hl
  have HK := Lib.hid hk
  have k1 : w.cell? ⟨k, 1, none⟩ = some (.slice aR nR kR) := hk.cell 1
  clear hlen hl hk
  go_enter Tryd.func39, Tryd.ntmps39
  go_wp2_with fail
  go_loopw [12] (fun v12 wr => ∃ i : Nat, i ≤ nR ∧ v12 = .int .i64 (i : Nat) ∧ Hid (Below w.heap.size w wr ∧ ∀ j, j < i → ∀ x, l[j]? = some x → rootAt l j x)) (fun v12 _ => nR - (intOf v12).toNat)
  case atStart => exact ⟨0, Nat.zero_le _, rfl, Lib.hid ⟨Below.refl _ _, fun j hj => by omega⟩⟩
  case round =>
    clear k1
    obtain ⟨i, hi, rfl, HT⟩ := hrel
    have k1 : wr.cell? ⟨k, 1, none⟩ = some (.slice aR nR kR) := (HK.out.after HT.out.1).cell 1
    by_cases hin : i = nR
    · subst hin
      by_cases h24 : (i : Int) ≤ 24
      · have hB := Lib.hid (show B = true from HB.out.trans (by
          exact rootedV_yes ⟨by have := HN.out; omega, fun j x hx => HT.out.2 j (by have := (List.getElem?_eq_some_iff.1 hx).1; have := HN.out; omega) x hx⟩))
        go_wp2_with fail
        go_ret
        rw [hB.out]
        exact ⟨rfl, HT.out.1⟩
      · have hB := Lib.hid (show B = false from HB.out.trans (by
          exact rootedV_no (fun h => by have := h.1; have := HN.out; omega)))
        go_wp2_with fail
        go_ret
        rw [hB.out]
        exact ⟨rfl, HT.out.1⟩
    · have hlt : i < nR := by omega
      have hlt' : (i : Int) < nR := by omega
      obtain ⟨b5, o5, x, rfl, hx, hc5⟩ := (HL.out.below HT.out.1).elem staC staC_len (by decide) i hlt
      have d0 := hc5 0 _ rfl
      have d1 := hc5 1 _ rfl
      simp only [Nat.add_zero] at d0
      have HX := Lib.hid hx
      obtain ⟨T, hT⟩ : ∃ T, T = twiceB (l.take i) x := ⟨_, rfl⟩
      have HTW := Lib.hid hT
      have hsl : ∀ wx : World, (Instr.slice 23 (.slice (some ⟨b5, o5, none⟩) nR kR) none (some (.int .i64 (i : Nat))) none).run Tryd.prog wx = .ok (.slice (some ⟨b5, o5, none⟩) i kR) wx := fun wx => run_front wx Tryd.underlying23 (z := 2) (by kernel_rfl) b5 o5 nR kR i (by omega)
      clear hT hc5 hx
      have hmf : ∀ (fn : Fn) (first cap : Array Value) (w : World), (Instr.makeFunc fn first cap).run Tryd.prog w = .ok (.func fn first cap) w := fun _ _ _ _ => rfl
      go_upto_region 4 with fail
      obtain ⟨w2, hw2⟩ : ∃ y, y = wr.alloc (.cells #[.string (str x.n), .string (str x.s)] 48) := ⟨_, rfl⟩
      have hb2 : Below wr.heap.size wr w2 := by rw [hw2]; exact (Below.refl _ _).alloc (Nat.le_refl _) _
      have r2 : Row w2 wr.heap.size 48 (staC x) := by rw [hw2]; exact Row.new wr _ _
      rw [← hw2]
      clear hw2
      have k2 : w2.cell? ⟨k, 1, none⟩ = some (.slice (some ⟨b5, o5, none⟩) nR kR) := ((HK.out.after HT.out.1).after hb2).cell 1
      have HB2 := Lib.hid (HT.out.1.trans (hb2.mono HT.out.1.size))
      have HR2 := Lib.hid r2
      have HSF : Hid (Sl w2 2 (.slice (some ⟨b5, o5, none⟩) i kR) i (stCells (l.take i))) := Lib.hid (by
        have h1 := (HL.out.below HB2.out).front (m := i) hi
        have e : (stCells l).take (i * 2) = stCells (l.take i) := by
          have h2 := List.take_append_drop i l
          conv => lhs; rw [← h2]
          rw [stCells, List.flatMap_append, List.take_append_of_le_length (by rw [flat_len staC 2 staC_len, List.length_take, Nat.min_eq_left (by rw [HN.out]; exact hi)]; exact Nat.le_refl _)]
          exact List.take_of_length_le (by rw [flat_len staC 2 staC_len, List.length_take, Nat.min_eq_left (by rw [HN.out]; exact hi)]; exact Nat.le_refl _)
        rw [e] at h1
        exact h1)
      clear k1 d0 d1 hb2 r2
      go_wp2_with fail
      refine (containsR_p (some ⟨b5, o5, none⟩) i kR (l.take i) wr.heap.size x w2 HSF.out HR2.out T HTW).mono ?_
      rintro e w3 ⟨rfl, hb3⟩
      have r3 := HR2.out.after hb3
      have HB3 := Lib.hid (HB2.out.trans (hb3.mono HB2.out.size))
      have c0 : w3.cell? ⟨wr.heap.size, 0, none⟩ = some (.string (str x.n)) := r3.cell 0
      have c1 : w3.cell? ⟨wr.heap.size, 1, none⟩ = some (.string (str x.s)) := r3.cell 1
      clear k2 hb3 r3
      cases T with
      | true =>
        have HBF : Hid (B = false) := Lib.hid (HB.out.trans (root_no HX.out (fun h => by have := twice_spec.2 h.1; rw [← HTW.out] at this; cases this)))
        go_wp2_with fail
        go_ret
        rw [HBF.out]
        exact ⟨rfl, HB3.out⟩
      | false =>
        have HTF := Lib.hid (twice_spec.1 HTW.out.symm)
        by_cases h1 : x.n = []
        · have e1 : ((str x.n).toList == []) = true := by rw [str_nilb]; exact decide_eq_true h1
          have HBF : Hid (B = false) := Lib.hid (HB.out.trans (root_no HX.out (fun h => by have := h.2; simp [staB, h1] at this)))
          clear h1
          go_wp2_with fail
          go_ret
          rw [HBF.out]
          exact ⟨rfl, HB3.out⟩
        have e1 : ((str x.n).toList == []) = false := by rw [str_nilb]; exact decide_eq_false h1
        by_cases h2 : x.s = []
        · have e2 : ((str x.s).toList == []) = true := by rw [str_nilb]; exact decide_eq_true h2
          have HBF : Hid (B = false) := Lib.hid (HB.out.trans (root_no HX.out (fun h => by have := h.2; simp [staB, h2] at this)))
          clear h1 h2
          go_wp2_with fail
          go_ret
          rw [HBF.out]
          exact ⟨rfl, HB3.out⟩
        have e2 : ((str x.s).toList == []) = false := by rw [str_nilb]; exact decide_eq_false h2
        have Z1 := Lib.hid (str_size x.n)
        have Z2 := Lib.hid (str_size x.s)
        by_cases h3 : (32 : Int) < (str x.n).size
        · have HBF : Hid (B = false) := Lib.hid (HB.out.trans (root_no HX.out (fun h => by have h5 := h.2; have := Z1.out; have := Z2.out; simp [staB] at h5; omega)))
          clear h1 h2
          go_wp2_with fail
          go_ret
          rw [HBF.out]
          exact ⟨rfl, HB3.out⟩
        by_cases h4 : (200 : Int) < (str x.s).size
        · have HBF : Hid (B = false) := Lib.hid (HB.out.trans (root_no HX.out (fun h => by have h5 := h.2; have := Z1.out; have := Z2.out; simp [staB] at h5; omega)))
          clear h1 h2
          go_wp2_with fail
          go_ret
          rw [HBF.out]
          exact ⟨rfl, HB3.out⟩
        have HOK : Hid (rootAt l i x) := Lib.hid ⟨HTF.out, by have := Z1.out; have := Z2.out; simp [staB, h1, h2]; omega⟩
        clear h1 h2
        go_wp2_with fail
        refine ⟨⟨i + 1, by omega, by go_num, Lib.hid ⟨HB3.out, fun j hj y hy => ?_⟩⟩, by simp [intOf]; omega⟩
        by_cases hji : j = i
        · subst hji
          rw [HX.out] at hy
          cases hy
          exact HOK.out
        · exact HT.out.2 j (by omega) y hy
end Go.Proofs.YtoddklfblcfoiaaDoor
