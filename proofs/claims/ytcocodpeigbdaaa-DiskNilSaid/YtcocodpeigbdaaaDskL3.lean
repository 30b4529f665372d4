/-
  DiskNil, walked. Conditions: the step reads.
-/
import Derived.Test.YtcocodpeigbdaaaDskL1
namespace Go.Proofs.Ytcocodpeigbdaaa
open Go.RowKit
set_option linter.unusedVariables false
set_option linter.unusedSimpArgs false

theorem read_nil (s : Int) (w : World) : Calls Try.prog 15 #[.pointer none, .int .i64 s] w fun e w' => e = .returned (.tuple #[.slice none 0 0, .int .i64 2]) ∧ w = w' := by
  go_enter Try.func15, Try.ntmps15
  go_wp2_with fail
  refine (power_nil w).mono ?_
  rintro e w2 ⟨rfl, rfl⟩
  go_wp2_with fail
  go_ret2
  exact ⟨rfl, rfl⟩
theorem write_nil (s : Int) (v : Value) (w : World) : Calls Try.prog 12 #[.pointer none, .int .i64 s, v] w fun e w' => e = .returned (.int .i64 2) ∧ w = w' := by
  go_enter Try.func12, Try.ntmps12
  go_wp2_with fail
  refine (power_nil w).mono ?_
  rintro e w2 ⟨rfl, rfl⟩
  go_wp2_with fail
  go_ret
  exact ⟨rfl, rfl⟩
theorem barrier_nil (w : World) : Calls Try.prog 19 #[.pointer none] w fun e w' => e = .returned (.int .i64 2) ∧ w = w' := by
  go_enter Try.func19, Try.ntmps19
  go_wp2_with fail
  refine (power_nil w).mono ?_
  rintro e w2 ⟨rfl, rfl⟩
  go_wp2_with fail
  go_ret
  exact ⟨rfl, rfl⟩
theorem arm_nil (n : Int) (w : World) : Calls Try.prog 22 #[.pointer none, .int .i64 n] w fun e w' => e = .returned (.int .i64 2) ∧ w = w' := by
  go_enter Try.func22, Try.ntmps22
  go_wp2_with fail
  refine (power_nil w).mono ?_
  rintro e w2 ⟨rfl, rfl⟩
  go_wp2_with fail
  go_ret
  exact ⟨rfl, rfl⟩
theorem off_nil (w : World) : Calls Try.prog 13 #[.pointer none] w fun e w' => (∃ v, e = .returned v) ∧ w = w' := by
  go_enter Try.func13, Try.ntmps13
  go_wp2_with fail
  go_end0
  exact ⟨⟨_, rfl⟩, rfl⟩
theorem on_nil (a : Option Addr) (n c : Nat) (t : Int) (w : World) : Calls Try.prog 14 #[.pointer none, .slice a n c, .int .i64 t] w fun e w' => e = .returned (.int .i64 2) ∧ Below w.heap.size w w' := by
  have hb1 := ((Below.refl w.heap.size w).alloc (Nat.le_refl _) (.cells #[.slice a n c] 30)).alloc (by simp) (.cells #[.int .i64 t] 3)
  go_enter Try.func14, Try.ntmps14
  go_wp2_with fail
  go_ret
  exact ⟨rfl, hb1⟩
theorem dead_nil (w : World) : Calls Try.prog 24 #[.pointer none] w fun e w' => e = .returned (.bool false) ∧ w = w' := by
  go_enter Try.func24, Try.ntmps24
  go_wp2_with fail
  go_ret
  exact ⟨rfl, rfl⟩
theorem pending_nil (w : World) : Calls Try.prog 25 #[.pointer none] w fun e w' => e = .returned (.int .i64 0) ∧ w = w' := by
  go_enter Try.func25, Try.ntmps25
  go_wp2_with fail
  go_ret
  exact ⟨rfl, rfl⟩
theorem steps_nil (w : World) : Calls Try.prog 27 #[.pointer none] w fun e w' => e = .returned (.int .i64 0) ∧ w = w' := by
  go_enter Try.func27, Try.ntmps27
  go_wp2_with fail
  go_ret
  exact ⟨rfl, rfl⟩
theorem sectors_nil (w : World) : Calls Try.prog 32 #[.pointer none] w fun e w' => e = .returned (.int .i64 0) ∧ w = w' := by
  go_enter Try.func32, Try.ntmps32
  go_wp2_with fail
  go_ret
  exact ⟨rfl, rfl⟩
theorem image_nil (w : World) : Calls Try.prog 23 #[.pointer none] w fun e w' => e = .returned (.slice none 0 0) ∧ w = w' := by
  go_enter Try.func23, Try.ntmps23
  go_wp2_with fail
  go_ret
  exact ⟨rfl, rfl⟩
theorem copy_nil (w : World) : Calls Try.prog 31 #[.pointer none] w fun e w' => e = .returned (.pointer none) ∧ w = w' := by
  go_enter Try.func31, Try.ntmps31
  go_wp2_with fail
  go_ret
  exact ⟨rfl, rfl⟩
set_option maxHeartbeats 2000000 in
set_option maxRecDepth 10000 in
theorem do_nil (w : World) (K s : Int) (aB : Option Addr) (nB cB : Nat) (l : List UInt8) (aK : Option Addr) (nK cK : Nat) (hl : Sl w 1 (.slice aB nB cB) nB (bvs l)) (hn : nB ≤ 1048576) (E : Int) (hE : Hid (E = if K = 0 ∨ K = 1 ∨ K = 2 ∨ K = 3 ∨ K = 5 then 2 else 0)) :
    Calls Try.prog 21 #[.pointer none, .agg #[.int .i64 K, .int .i64 s, .slice aB nB cB, .slice aK nK cK]] w fun e w' => e = .returned (.tuple #[.slice none 0 0, .int .i64 E]) ∧ Below w.heap.size w w' := by
  have hb1 : Below w.heap.size w (w.alloc (.cells #[.int .i64 K, .int .i64 s, .slice aB nB cB, .slice aK nK cK] 42)) := (Below.refl _ _).alloc (Nat.le_refl _) _
  have hl1 := hl.below hb1
  have HBB := Lib.hid hb1
  have HL := Lib.hid hl1
  clear hb1 hl1 hl
  rcases kinds K with rfl | rfl | rfl | rfl | rfl | rfl | ⟨k0, k1, k2, k3, k4, k5, n0, n1, n2, n3, n4, n5⟩
  · obtain rfl : E = 2 := hE.out.trans (by simp)
    clear hE
    go_enter Try.func21, Try.ntmps21
    go_wp2_with fail
    refine (read_nil s _).mono ?_
    rintro e w2 ⟨rfl, rfl⟩
    go_wp2_with fail
    go_ret2
    exact ⟨rfl, HBB.out⟩
  · obtain rfl : E = 2 := hE.out.trans (by simp)
    clear hE
    have hr0 := Row.new w [.int .i64 1, .int .i64 s, .slice aB nB cB, .slice aK nK cK] 42
    have HR0 := Lib.hid hr0
    clear hr0
    go_enter Try.func21, Try.ntmps21
    go_wp2_with fail
    generalize (w.alloc (.cells #[.int .i64 1, .int .i64 s, .slice aB nB cB, .slice aK nK cK] 42)) = w1 at HBB HL HR0 ⊢
    refine (copyb_any aB nB cB l _ HL.out).mono ?_
    rintro e w2 ⟨v, rfl, ho, hb2⟩
    obtain ⟨a2, c2, rfl⟩ := ho.form
    have hr2 := HR0.out.after hb2
    have e1 : w2.cell? ⟨w.heap.size, 1, none⟩ = some (.int .i64 s) := hr2.cell 1
    have HO2 := Lib.hid ho
    have hbw := HBB.out.size
    have HB2 : Hid (Below w.heap.size w w2) := Lib.hid (HBB.out.trans (hb2.mono hbw))
    clear ho hb2 hr2
    go_wp2_with fail
    refine (write_nil s _ w2).mono ?_
    rintro e w3 ⟨rfl, rfl⟩
    clear e1
    go_wp2_with fail
    go_loopw [8] (fun v8 wr => ∃ (i : Nat) (l2 : List UInt8), i ≤ nB ∧ v8 = .int .i64 i ∧ Hid (Own wr w1.heap.size 1 (.slice a2 nB c2) nB (bvs l2)) ∧ Hid (Below w.heap.size w wr)) (fun v8 _ => nB - (intOf v8).toNat)
    case atStart => exact ⟨0, l, Nat.zero_le _, rfl, HO2, HB2⟩
    case round =>
      obtain ⟨i, l2, hi, rfl, HO, HS⟩ := hrel
      by_cases hin : i = nB
      · subst hin
        go_wp2_with fail
        go_ret2
        exact ⟨rfl, HS.out⟩
      · have hlt : i < nB := by omega
        have hlt' : (i : Int) < nB := by omega
        obtain ⟨g, off, cap, he, hg1, hg2, hg3, hg4, hlen⟩ := HO.out.open (by omega) (by decide)
        cases he
        have hl2 : l2.length = nB := by rw [bvs_length] at hlen; omega
        have hc := HO.out.get i (by rw [bvs_length]; omega)
        have hf := HO.out.free i (by rw [bvs_length]; omega)
        rw [bvs_get _ _ (by omega)] at hc
        generalize hz : l2.getD i 0 = z at hc
        obtain ⟨y, hy⟩ : ∃ y : UInt8, y = z + 1 := ⟨_, rfl⟩
        have hy2 : (y.toNat : Int) = ((z.toNat : Int) + 1) % 256 := by rw [hy, UInt8.toNat_add]; simp
        have HG1 := Lib.hid hg1
        clear hz hy hl2 hlen hg1
        go_wp2_with (refine wpL_storeOwn (g := 0) rfl _ _ _ rfl (v := .int .u8 (y.toNat : Int)) rfl (by rw [hy2]; rfl) rfl rfl (by kernel_rfl) HO.out i rfl (by rw [bvs_length]; have := HO.out.len; omega) ?_; intro w5 hg5 ho5)
        rw [bvs_set] at ho5
        exact ⟨⟨i + 1, _, hlt, by go_num, Lib.hid ho5, Lib.hid (below_grown HS.out hg5 (Nat.le_trans hbw HG1.out) HS.out.size)⟩, by simp [intOf]; omega⟩
  · obtain rfl : E = 2 := hE.out.trans (by simp)
    clear hE
    go_enter Try.func21, Try.ntmps21
    go_wp2_with fail
    refine (barrier_nil _).mono ?_
    rintro e w2 ⟨rfl, rfl⟩
    go_wp2_with fail
    go_ret2
    exact ⟨rfl, HBB.out⟩
  · obtain rfl : E = 2 := hE.out.trans (by simp)
    clear hE
    go_enter Try.func21, Try.ntmps21
    go_wp2_with fail
    refine (arm_nil s _).mono ?_
    rintro e w2 ⟨rfl, rfl⟩
    go_wp2_with fail
    go_ret2
    exact ⟨rfl, HBB.out⟩
  · obtain rfl : E = 0 := hE.out.trans (by simp)
    clear hE
    go_enter Try.func21, Try.ntmps21
    go_wp2_with fail
    refine (off_nil _).mono ?_
    rintro e w2 ⟨⟨v2, rfl⟩, rfl⟩
    go_wp2_with fail
    go_ret2
    exact ⟨rfl, HBB.out⟩
  · obtain rfl : E = 2 := hE.out.trans (by simp)
    clear hE
    go_enter Try.func21, Try.ntmps21
    go_wp2_with fail
    refine (on_nil aK nK cK s _).mono ?_
    rintro e w2 ⟨rfl, hb2⟩
    go_wp2_with fail
    go_ret2
    exact ⟨rfl, HBB.out.trans (hb2.mono HBB.out.size)⟩
  · obtain rfl : E = 0 := hE.out.trans (by simp [n0, n1, n2, n3, n5])
    clear hE n0 n1 n2 n3 n4 n5
    go_enter Try.func21, Try.ntmps21
    go_wp2_with fail
    go_ret2
    exact ⟨rfl, HBB.out⟩
theorem one_step (w : World) (cs : List Value) (d : Stp) (h : VStep w cs d) (hl : cs.length = 4) : SlOf VStep 4 (w.alloc (.cells cs.toArray 42)) (.slice (some ⟨w.heap.size, 0, none⟩) 1 1) [d] := by
  refine ⟨_, 1, rfl, Nat.le_refl _, by decide, by simp, fun i hi => ?_⟩
  have h0 : i = 0 := by simp at hi; omega
  subst h0
  refine ⟨_, 0, cs, rfl, hl, stabStep _ _ _ _ ((Below.refl _ _).alloc (Nat.le_refl _) _) h, fun j hj => ?_⟩
  rw [show 0 + 0 * 4 + j = j by omega]
  exact (Row.new w cs 42).cell j
set_option maxRecDepth 100000 in
set_option maxHeartbeats 4000000 in
theorem diskNil_walk (cs : Array Value) (d : Stp) (w : World) (h : VStep w cs.toList d) :
    Calls Try.prog 8 #[.agg cs] w fun e w' => e = .returned (.bool true) ∧ Below w.heap.size w w' := by
  obtain ⟨K, s, l, keep⟩ := d
  obtain ⟨aB, cB, aK, cK, hcs, ho⟩ := stp_rec h
  obtain rfl : cs = #[.int .i64 K, .int .i64 s, .slice aB l.length cB, .slice aK keep.length cK] := by
    rw [← Array.toArray_toList (xs := cs), hcs]
  go_enter Try.func8, Try.ntmps8
  have hs0 := one_step (w.alloc (.cells #[.int .i64 K, .int .i64 s, .slice aB l.length cB, .slice aK keep.length cK] 42)) _ (K, s, l, keep) (stabStep _ _ _ _ ((Below.refl _ _).alloc (Nat.le_refl _) _) h) rfl
  have hb0 := ((Below.refl w.heap.size w).alloc (Nat.le_refl _) (.cells #[.int .i64 K, .int .i64 s, .slice aB l.length cB, .slice aK keep.length cK] 42)).alloc (by simp) (.cells #[.int .i64 K, .int .i64 s, .slice aB l.length cB, .slice aK keep.length cK] 42)
  have hcell : ∀ j u, #[Value.int .i64 K, .int .i64 s, .slice aB l.length cB, .slice aK keep.length cK][j]? = some u → ∀ W, Below (w.heap.size + 1) (w.alloc (.cells #[.int .i64 K, .int .i64 s, .slice aB l.length cB, .slice aK keep.length cK] 42)) W → W.cell? ⟨w.heap.size, j, none⟩ = some u := by
    intro j u hu W hW
    have := (Sl.litS w [.int .i64 K, .int .i64 s, .slice aB l.length cB, .slice aK keep.length cK] 42 1 4 rfl (by decide)).addr (by decide)
    obtain ⟨b', o', e1, e2, e3⟩ := this
    cases e1
    refine (hW.cell (p := ⟨w.heap.size, j, none⟩) (Nat.lt_succ_self _)).trans ?_
    simpa using e3 j u (by simpa using hu)
  have HCELL := Lib.hid hcell
  obtain ⟨nB, hnB⟩ : ∃ n, n = l.length := ⟨_, rfl⟩
  obtain ⟨nK, hnK⟩ : ∃ n, n = keep.length := ⟨_, rfl⟩
  rw [World.size_alloc] at hs0
  have hbx : Below (w.heap.size + 1) (w.alloc (.cells #[.int .i64 K, .int .i64 s, .slice aB l.length cB, .slice aK keep.length cK] 42)) ((w.alloc (.cells #[.int .i64 K, .int .i64 s, .slice aB l.length cB, .slice aK keep.length cK] 42)).alloc (.cells #[.int .i64 K, .int .i64 s, .slice aB l.length cB, .slice aK keep.length cK] 42)) := (Below.refl _ _).alloc (by simp) _
  rw [← hnB, ← hnK] at hs0 hb0 HCELL hbx ho ⊢
  have HN := Lib.hid hnB
  have HH := Lib.hid hs0
  clear hcell hnB hnK hs0 hcs h
  go_wp2_with fail
  refine (vast_any _ 1 1 [(K, s, l, keep)] _ HH.out).mono ?_
  rintro e w2 ⟨B, rfl, HV, hb2⟩
  have hB2 := hb0.trans (hb2.mono hb0.size)
  have hbx2 := hbx.trans (hb2.mono (by simp))
  cases B with
  | true =>
    go_wp2_with fail
    refine (works_any w2).mono ?_
    rintro e wz ⟨rfl, hbz⟩
    go_wp2_with fail
    go_ret
    exact ⟨rfl, (hB2).trans (hbz.mono (hB2).size)⟩
  | false =>
  have hn1024 : nB ≤ 1024 := by
    have := ((HV.out rfl).2 0 K s l keep rfl).1
    rw [← HN.out] at this
    exact this
  clear HH HV hb0 hbx hb2
  have HB2 := Lib.hid hB2
  have HSB := Lib.hid (ho.sb.below hB2)
  have e0 := HCELL.out 0 _ rfl _ hbx2
  have e1 := HCELL.out 1 _ rfl _ hbx2
  have e2 := HCELL.out 2 _ rfl _ hbx2
  have e3 := HCELL.out 3 _ rfl _ hbx2
  simp only [List.getElem_toArray, List.getElem_cons_zero, List.getElem_cons_succ] at e0 e1 e2 e3
  clear ho hB2
  rcases kinds K with rfl | rfl | rfl | rfl | rfl | rfl | ⟨k0, k1, k2, k3, k4, k5, n0, n1, n2, n3, n4, n5⟩
  · go_wp2_with fail
    refine (do_nil w2 _ s aB nB cB l aK nK cK HSB.out (by omega) 2 (Lib.hid (by simp))).mono ?_
    rintro e w3 ⟨rfl, hb3⟩
    have hB3 := HB2.out.trans (hb3.mono HB2.out.size)
    have hbx3 := hbx2.trans (hb3.mono (Nat.le_trans (by simp) hbx2.size))
    have f0 := HCELL.out 0 _ rfl _ hbx3
    simp only [List.getElem_toArray, List.getElem_cons_zero, List.getElem_cons_succ] at f0
    clear hbx2 hb3 e0 e1 e2 e3 hbx3
    go_wp2_with fail
    refine (sectors_nil w3).mono ?_
    rintro e wx ⟨rfl, rfl⟩
    go_wp2_with fail
    refine (pending_nil w3).mono ?_
    rintro e wx ⟨rfl, rfl⟩
    go_wp2_with fail
    refine (steps_nil w3).mono ?_
    rintro e wx ⟨rfl, rfl⟩
    go_wp2_with fail
    refine (image_nil w3).mono ?_
    rintro e wx ⟨rfl, rfl⟩
    go_wp2_with fail
    refine (dead_nil w3).mono ?_
    rintro e wx ⟨rfl, rfl⟩
    go_wp2_with fail
    refine (copy_nil w3).mono ?_
    rintro e wx ⟨rfl, rfl⟩
    go_wp2_with fail
    refine (works_any w3).mono ?_
    rintro e wz ⟨rfl, hbz⟩
    go_wp2_with fail
    go_ret
    exact ⟨rfl, (hB3).trans (hbz.mono (hB3).size)⟩
  · go_wp2_with fail
    refine (do_nil w2 _ s aB nB cB l aK nK cK HSB.out (by omega) 2 (Lib.hid (by simp))).mono ?_
    rintro e w3 ⟨rfl, hb3⟩
    have hB3 := HB2.out.trans (hb3.mono HB2.out.size)
    have hbx3 := hbx2.trans (hb3.mono (Nat.le_trans (by simp) hbx2.size))
    have f0 := HCELL.out 0 _ rfl _ hbx3
    simp only [List.getElem_toArray, List.getElem_cons_zero, List.getElem_cons_succ] at f0
    clear hbx2 hb3 e0 e1 e2 e3 hbx3
    go_wp2_with fail
    refine (sectors_nil w3).mono ?_
    rintro e wx ⟨rfl, rfl⟩
    go_wp2_with fail
    refine (pending_nil w3).mono ?_
    rintro e wx ⟨rfl, rfl⟩
    go_wp2_with fail
    refine (steps_nil w3).mono ?_
    rintro e wx ⟨rfl, rfl⟩
    go_wp2_with fail
    refine (image_nil w3).mono ?_
    rintro e wx ⟨rfl, rfl⟩
    go_wp2_with fail
    refine (dead_nil w3).mono ?_
    rintro e wx ⟨rfl, rfl⟩
    go_wp2_with fail
    refine (copy_nil w3).mono ?_
    rintro e wx ⟨rfl, rfl⟩
    go_wp2_with fail
    refine (works_any w3).mono ?_
    rintro e wz ⟨rfl, hbz⟩
    go_wp2_with fail
    go_ret
    exact ⟨rfl, (hB3).trans (hbz.mono (hB3).size)⟩
  · go_wp2_with fail
    refine (do_nil w2 _ s aB nB cB l aK nK cK HSB.out (by omega) 2 (Lib.hid (by simp))).mono ?_
    rintro e w3 ⟨rfl, hb3⟩
    have hB3 := HB2.out.trans (hb3.mono HB2.out.size)
    have hbx3 := hbx2.trans (hb3.mono (Nat.le_trans (by simp) hbx2.size))
    have f0 := HCELL.out 0 _ rfl _ hbx3
    simp only [List.getElem_toArray, List.getElem_cons_zero, List.getElem_cons_succ] at f0
    clear hbx2 hb3 e0 e1 e2 e3 hbx3
    go_wp2_with fail
    refine (sectors_nil w3).mono ?_
    rintro e wx ⟨rfl, rfl⟩
    go_wp2_with fail
    refine (pending_nil w3).mono ?_
    rintro e wx ⟨rfl, rfl⟩
    go_wp2_with fail
    refine (steps_nil w3).mono ?_
    rintro e wx ⟨rfl, rfl⟩
    go_wp2_with fail
    refine (image_nil w3).mono ?_
    rintro e wx ⟨rfl, rfl⟩
    go_wp2_with fail
    refine (dead_nil w3).mono ?_
    rintro e wx ⟨rfl, rfl⟩
    go_wp2_with fail
    refine (copy_nil w3).mono ?_
    rintro e wx ⟨rfl, rfl⟩
    go_wp2_with fail
    refine (works_any w3).mono ?_
    rintro e wz ⟨rfl, hbz⟩
    go_wp2_with fail
    go_ret
    exact ⟨rfl, (hB3).trans (hbz.mono (hB3).size)⟩
  · go_wp2_with fail
    refine (do_nil w2 _ s aB nB cB l aK nK cK HSB.out (by omega) 2 (Lib.hid (by simp))).mono ?_
    rintro e w3 ⟨rfl, hb3⟩
    have hB3 := HB2.out.trans (hb3.mono HB2.out.size)
    have hbx3 := hbx2.trans (hb3.mono (Nat.le_trans (by simp) hbx2.size))
    have f0 := HCELL.out 0 _ rfl _ hbx3
    simp only [List.getElem_toArray, List.getElem_cons_zero, List.getElem_cons_succ] at f0
    clear hbx2 hb3 e0 e1 e2 e3 hbx3
    go_wp2_with fail
    refine (sectors_nil w3).mono ?_
    rintro e wx ⟨rfl, rfl⟩
    go_wp2_with fail
    refine (pending_nil w3).mono ?_
    rintro e wx ⟨rfl, rfl⟩
    go_wp2_with fail
    refine (steps_nil w3).mono ?_
    rintro e wx ⟨rfl, rfl⟩
    go_wp2_with fail
    refine (image_nil w3).mono ?_
    rintro e wx ⟨rfl, rfl⟩
    go_wp2_with fail
    refine (dead_nil w3).mono ?_
    rintro e wx ⟨rfl, rfl⟩
    go_wp2_with fail
    refine (copy_nil w3).mono ?_
    rintro e wx ⟨rfl, rfl⟩
    go_wp2_with fail
    refine (works_any w3).mono ?_
    rintro e wz ⟨rfl, hbz⟩
    go_wp2_with fail
    go_ret
    exact ⟨rfl, (hB3).trans (hbz.mono (hB3).size)⟩
  · go_wp2_with fail
    refine (do_nil w2 _ s aB nB cB l aK nK cK HSB.out (by omega) 0 (Lib.hid (by simp))).mono ?_
    rintro e w3 ⟨rfl, hb3⟩
    have hB3 := HB2.out.trans (hb3.mono HB2.out.size)
    have hbx3 := hbx2.trans (hb3.mono (Nat.le_trans (by simp) hbx2.size))
    have f0 := HCELL.out 0 _ rfl _ hbx3
    simp only [List.getElem_toArray, List.getElem_cons_zero, List.getElem_cons_succ] at f0
    clear hbx2 hb3 e0 e1 e2 e3 hbx3
    go_wp2_with fail
    refine (sectors_nil w3).mono ?_
    rintro e wx ⟨rfl, rfl⟩
    go_wp2_with fail
    refine (pending_nil w3).mono ?_
    rintro e wx ⟨rfl, rfl⟩
    go_wp2_with fail
    refine (steps_nil w3).mono ?_
    rintro e wx ⟨rfl, rfl⟩
    go_wp2_with fail
    refine (image_nil w3).mono ?_
    rintro e wx ⟨rfl, rfl⟩
    go_wp2_with fail
    refine (dead_nil w3).mono ?_
    rintro e wx ⟨rfl, rfl⟩
    go_wp2_with fail
    refine (copy_nil w3).mono ?_
    rintro e wx ⟨rfl, rfl⟩
    go_wp2_with fail
    refine (works_any w3).mono ?_
    rintro e wz ⟨rfl, hbz⟩
    go_wp2_with fail
    go_ret
    exact ⟨rfl, (hB3).trans (hbz.mono (hB3).size)⟩
  · go_wp2_with fail
    refine (do_nil w2 _ s aB nB cB l aK nK cK HSB.out (by omega) 2 (Lib.hid (by simp))).mono ?_
    rintro e w3 ⟨rfl, hb3⟩
    have hB3 := HB2.out.trans (hb3.mono HB2.out.size)
    have hbx3 := hbx2.trans (hb3.mono (Nat.le_trans (by simp) hbx2.size))
    have f0 := HCELL.out 0 _ rfl _ hbx3
    simp only [List.getElem_toArray, List.getElem_cons_zero, List.getElem_cons_succ] at f0
    clear hbx2 hb3 e0 e1 e2 e3 hbx3
    go_wp2_with fail
    refine (sectors_nil w3).mono ?_
    rintro e wx ⟨rfl, rfl⟩
    go_wp2_with fail
    refine (pending_nil w3).mono ?_
    rintro e wx ⟨rfl, rfl⟩
    go_wp2_with fail
    refine (steps_nil w3).mono ?_
    rintro e wx ⟨rfl, rfl⟩
    go_wp2_with fail
    refine (image_nil w3).mono ?_
    rintro e wx ⟨rfl, rfl⟩
    go_wp2_with fail
    refine (dead_nil w3).mono ?_
    rintro e wx ⟨rfl, rfl⟩
    go_wp2_with fail
    refine (copy_nil w3).mono ?_
    rintro e wx ⟨rfl, rfl⟩
    go_wp2_with fail
    refine (works_any w3).mono ?_
    rintro e wz ⟨rfl, hbz⟩
    go_wp2_with fail
    go_ret
    exact ⟨rfl, (hB3).trans (hbz.mono (hB3).size)⟩
  · have HE : Hid ((0 : Int) = if K = 0 ∨ K = 1 ∨ K = 2 ∨ K = 3 ∨ K = 5 then 2 else 0) := Lib.hid (by simp [n0, n1, n2, n3, n5])
    clear n0 n1 n2 n3 n4 n5
    go_wp2_with fail
    refine (do_nil w2 _ s aB nB cB l aK nK cK HSB.out (by omega) 0 HE).mono ?_
    rintro e w3 ⟨rfl, hb3⟩
    have hB3 := HB2.out.trans (hb3.mono HB2.out.size)
    have hbx3 := hbx2.trans (hb3.mono (Nat.le_trans (by simp) hbx2.size))
    have f0 := HCELL.out 0 _ rfl _ hbx3
    simp only [List.getElem_toArray, List.getElem_cons_zero, List.getElem_cons_succ] at f0
    clear hbx2 hb3 e0 e1 e2 e3 hbx3
    go_wp2_with fail
    refine (sectors_nil w3).mono ?_
    rintro e wx ⟨rfl, rfl⟩
    go_wp2_with fail
    refine (pending_nil w3).mono ?_
    rintro e wx ⟨rfl, rfl⟩
    go_wp2_with fail
    refine (steps_nil w3).mono ?_
    rintro e wx ⟨rfl, rfl⟩
    go_wp2_with fail
    refine (image_nil w3).mono ?_
    rintro e wx ⟨rfl, rfl⟩
    go_wp2_with fail
    refine (dead_nil w3).mono ?_
    rintro e wx ⟨rfl, rfl⟩
    go_wp2_with fail
    refine (copy_nil w3).mono ?_
    rintro e wx ⟨rfl, rfl⟩
    go_wp2_with fail
    refine (works_any w3).mono ?_
    rintro e wz ⟨rfl, hbz⟩
    go_wp2_with fail
    go_ret
    exact ⟨rfl, (hB3).trans (hbz.mono (hB3).size)⟩
end Go.Proofs.Ytcocodpeigbdaaa
