/-
  CacheNil, walked. Conditions: the thing done reads.
-/
import Derived.Test.YtchjfmgfoifbcaaChN
namespace Go.Proofs.Ytchjfmgfoifbcaa
open Go.RowKit
set_option linter.unusedVariables false
set_option linter.unusedSimpArgs false
set_option maxRecDepth 100000

theorem one_op (w : World) (cs : List Value) (d : Opr) (h : VOp w cs d) (hl : cs.length = 5) : SlOf VOp 5 (w.alloc (.cells cs.toArray 37)) (.slice (some ⟨w.heap.size, 0, none⟩) 1 1) [d] := by
  refine ⟨_, 1, rfl, Nat.le_refl _, by decide, by simp, fun i hi => ?_⟩
  have h0 : i = 0 := by simp at hi; omega
  subst h0
  refine ⟨_, 0, cs, rfl, hl, stabOp _ _ _ _ ((Below.refl _ _).alloc (Nat.le_refl _) _) h, fun j hj => ?_⟩
  rw [show 0 + 0 * 5 + j = j by omega]
  exact (Row.new w cs 37).cell j
set_option maxHeartbeats 4000000 in
theorem cacheNil_walk (cs : Array Value) (d : Opr) (m : Int) (w : World) (h : VOp w cs.toList d) :
    Calls Try.prog 4 #[.agg cs, .int .i64 m] w fun e w' => e = .returned (.bool true) ∧ Below w.heap.size w w' := by
  obtain ⟨K, s, l, keep, t⟩ := d
  obtain ⟨aB, cB, aK, cK, hcs, ho⟩ := op_rec h
  obtain rfl : cs = #[.int .i64 K, .int .i64 s, .slice aB l.length cB, .slice aK keep.length cK, .int .i64 t] := by
    rw [← Array.toArray_toList (xs := cs), hcs]
  obtain ⟨w1, hw1⟩ : ∃ w1, w1 = (w.alloc (.cells #[.int .i64 K, .int .i64 s, .slice aB l.length cB, .slice aK keep.length cK, .int .i64 t] 37)).alloc (.cells #[.int .i64 K, .int .i64 s, .slice aB l.length cB, .slice aK keep.length cK, .int .i64 t] 37) := ⟨_, rfl⟩
  have hs1 := one_op (w.alloc (.cells #[.int .i64 K, .int .i64 s, .slice aB l.length cB, .slice aK keep.length cK, .int .i64 t] 37)) _ (K, s, l, keep, t) (stabOp _ _ _ _ ((Below.refl _ _).alloc (Nat.le_refl _) _) h) rfl
  rw [World.size_alloc] at hs1
  have hr1 : Row w1 w.heap.size 37 [.int .i64 K, .int .i64 s, .slice aB l.length cB, .slice aK keep.length cK, .int .i64 t] := by rw [hw1]; exact (Row.new w [.int .i64 K, .int .i64 s, .slice aB l.length cB, .slice aK keep.length cK, .int .i64 t] 37).alloc _
  have hb1 : Below w.heap.size w w1 := by rw [hw1]; exact ((Below.refl _ _).alloc (Nat.le_refl _) _).alloc (by simp) _
  have HS1 : Hid (SlOf VOp 5 w1 (.slice (some ⟨w.heap.size + 1, 0, none⟩) 1 1) [(K, s, l, keep, t)]) := Lib.hid (by rw [hw1]; exact hs1)
  have HO := Lib.hid ho
  have HR1 := Lib.hid hr1
  have HB1 := Lib.hid hb1
  clear hs1 hr1 hb1 ho h hcs
  obtain ⟨nB, hnB⟩ : ∃ n, n = l.length := ⟨_, rfl⟩
  obtain ⟨nK, hnK⟩ : ∃ n, n = keep.length := ⟨_, rfl⟩
  rw [← hnB, ← hnK] at hw1 HR1 HO ⊢
  have HNB := Lib.hid hnB
  have HNK := Lib.hid hnK
  clear hnB hnK
  go_enter Try.func4, Try.ntmps4
  go_wp2_with fail
  rw [← hw1]
  clear hw1
  refine (vast_any _ 1 1 [(K, s, l, keep, t)] w1 HS1.out).mono ?_
  rintro e w2 ⟨B, rfl, HV, hb2⟩
  have hB2 := HB1.out.trans (hb2.mono HB1.out.size)
  have HR2 := Lib.hid (HR1.out.after hb2)
  clear HR1 HB1 HS1 hb2
  cases B with
  | true =>
    go_wp2_with fail
    refine (works_any w2).mono ?_
    rintro e wz ⟨rfl, hbz⟩
    go_wp2_with fail
    go_ret
    exact ⟨rfl, (hB2).trans (hbz.mono (hB2).size)⟩
  | false =>
  have hlen := (HV.out rfl).2 0 K s l keep t rfl
  have hnB1 : nB ≤ 1024 := by rw [HNB.out]; exact hlen.1
  have hnK1 : nK ≤ 200 := by rw [HNK.out]; exact hlen.2
  clear HV hlen
  go_wp2_with fail
  refine (dnew_p 16 (by decide) 1 (by decide) w2 col0).mono ?_
  rintro e w3 ⟨bd, rfl, col3, k3, h3⟩
  have K3 : Hid (St NZ col0 w col3 w3) := Lib.hid ((St.fresh hB2 NZ col0).trans (k3.mono (fun _ h => h.elim)))
  have HR3 := Lib.hid (HR2.out.mods k3.mods (fun h => h))
  have HC3 : Hid (col3 w.heap.size = 0) := Lib.hid (k3.ext _ HR2.out.lt)
  have H3 := Lib.hid h3
  have HL3 := Lib.hid (LiveD.start (n := 16) (by decide)).1.fits
  clear k3 h3 HR2 hB2
  have e0 : w3.cell? ⟨w.heap.size, 0, none⟩ = some (.int .i64 K) := HR3.out.cell 0
  have e1 : w3.cell? ⟨w.heap.size, 1, none⟩ = some (.int .i64 s) := HR3.out.cell 1
  have e2 : w3.cell? ⟨w.heap.size, 2, none⟩ = some (.slice aB nB cB) := HR3.out.cell 2
  have e3 : w3.cell? ⟨w.heap.size, 3, none⟩ = some (.slice aK nK cK) := HR3.out.cell 3
  have e4 : w3.cell? ⟨w.heap.size, 4, none⟩ = some (.int .i64 t) := HR3.out.cell 4
  go_wp2_with fail
  refine (does_nil col3 bd (newD 16) _ w3 K s aB nB cB l aK nK cK keep t H3.out HL3.out (by decide) (HO.out.sb.below K3.out.below) hnB1 (HO.out.sk.below K3.out.below) (fun col' w' k => HO.out.sk.below (K3.out.trans (k.mono (fun _ h => by rw [h]; exact Nat.succ_ne_zero _))).below) hnK1).mono ?_
  rintro e w4 ⟨a4, c4, E, rfl, col4, HH⟩
  have K4 := Lib.hid (K3.out.trans (HH.out.2.mono (fun x h => by rcases h with rfl | rfl <;> exact Nat.succ_ne_zero _)))
  have HR4 := Lib.hid (HR3.out.mods HH.out.2.mods (by rw [HC3.out]; rintro (h | h) <;> cases h))
  have HE := Lib.hid HH.out.1
  clear HH K3 HR3 H3 e0 e1 e2 e3 e4
  go_wp2_with (refine wpL_storeRow rfl _ _ _ rfl (cs := [.slice a4 0 c4, .bool false, .int .i64 E]) rfl rfl (Row.new _ _ _) (by kernel_rfl) rfl rfl ?_; intro w5 hg5 hr5)
  refine (held_nil w5).mono ?_
  rintro e wx ⟨rfl, rfl⟩
  have hb5 : Below w4.heap.size w4 w5 := below_grown ((Below.refl _ _).alloc (Nat.le_refl _) _) hg5 (Nat.le_refl _) (by simp)
  have HR5 := Lib.hid (HR4.out.after hb5)
  have hB5 := (K4.out.down hb5).below
  have f0 : w5.cell? ⟨w4.heap.size, 0, none⟩ = some (.slice a4 0 c4) := hr5.cell 0
  have f1 : w5.cell? ⟨w4.heap.size, 1, none⟩ = some (.bool false) := hr5.cell 1
  have f2 : w5.cell? ⟨w4.heap.size, 2, none⟩ = some (.int .i64 E) := hr5.cell 2
  have e0 : w5.cell? ⟨w.heap.size, 0, none⟩ = some (.int .i64 K) := HR5.out.cell 0
  clear hg5 hr5 hb5 HR4 K4 HR5
  go_wp2_with fail
  refine (cnew_nil m w5).mono ?_
  rintro e wx ⟨rfl, rfl⟩
  by_cases h0 : 0 ≤ K
  · by_cases h6 : K ≤ 6
    · obtain rfl := HE.out ⟨h0, h6⟩
      go_wp2_with fail
      refine (works_any w5).mono ?_
      rintro e wz ⟨rfl, hbz⟩
      go_wp2_with fail
      go_ret
      exact ⟨rfl, (hB5).trans (hbz.mono (hB5).size)⟩
    · go_wp2_with fail
      refine (works_any w5).mono ?_
      rintro e wz ⟨rfl, hbz⟩
      go_wp2_with fail
      go_ret
      exact ⟨rfl, (hB5).trans (hbz.mono (hB5).size)⟩
  · go_wp2_with fail
    refine (works_any w5).mono ?_
    rintro e wz ⟨rfl, hbz⟩
    go_wp2_with fail
    go_ret
    exact ⟨rfl, (hB5).trans (hbz.mono (hB5).size)⟩
end Go.Proofs.Ytchjfmgfoifbcaa
