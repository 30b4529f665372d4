/-
  HeapHandles walked. Conditions: what is handed in reads.
-/
import Derived.Test.YtekmgffjdheifaaHpY
namespace Go.Proofs.Ytekmgffjdheifaa
open Go Go.RowKit
set_option linter.unusedVariables false
set_option linter.unusedSimpArgs false
set_option maxRecDepth 100000

theorem alloc_tell {m : Nat} {H : List Th} {q : Opn} (h0 : q.K = 0) : (tell m H q).e = allocE H m q.o ∧ (tell m H q).n = allocN H m q.o ∧ doH m H q = allocH H m q.o := by
  unfold tell doH
  rw [if_pos h0, if_pos h0]
  exact ⟨rfl, rfl, rfl⟩
def HaR (b : Nat) (w0 : World) (n : Nat) (v5 v6 : Value) (w : World) : Prop :=
  ∃ (i k : Nat) (H : List Th) (col : Nat → Nat), i ≤ n ∧ k ≤ i ∧ v6 = .int .i64 (i : Nat) ∧ v5 = .int .i64 (k : Nat) ∧ Hid (Pl 1048576 b w0 H (i + 1) col w ∧ H.length = k + 1)
theorem HaR.mk {b : Nat} {w0 : World} {n : Nat} {v5 v6 : Value} {w : World} (i k : Nat) (H : List Th) (col : Nat → Nat) (h1 : i ≤ n) (h2 : k ≤ i) (h3 : v6 = .int .i64 (i : Nat)) (h4 : v5 = .int .i64 (k : Nat)) (h5 : Pl 1048576 b w0 H (i + 1) col w ∧ H.length = k + 1) : HaR b w0 n v5 v6 w := ⟨i, k, H, col, h1, h2, h3, h4, Lib.hid h5⟩
set_option maxHeartbeats 8000000 in
theorem heapHandles_walk (a : Option Addr) (n c : Nat) (L : List Opn) (w : World) (h : OpsIn w a n c L) :
    Calls Try.prog 6 #[.slice a n c] w fun e w' => e = .returned (.bool true) ∧ Below w.heap.size w w' := by
  have HN := Lib.hid h.len
  have hb9 := h.bnd
  have HI := Lib.hid h
  clear h
  go_enter Try.func6, Try.ntmps6
  go_wp2_with fail
  refine (vast_any a n c L w HI.out).mono ?_
  rintro e w1 ⟨B, rfl, HB, hb1⟩
  cases B with
  | true =>
    go_wp2_with fail
    refine (works_any w1).mono ?_
    rintro e w2 ⟨rfl, hb2⟩
    go_wp2_with fail
    go_ret
    exact ⟨rfl, hb1.trans (hb2.mono hb1.size)⟩
  | false =>
    have HF := Lib.hid (HB.out rfl)
    have hn1 : n ≤ 100 := by have := HF.out.1; rw [HN.out] at this; exact this
    clear HB
    go_wp2_with fail
    refine (Pl.starts (m := 1048576) (w0 := w) (by decide) w1 hb1).mono ?_
    rintro e w2 ⟨b, rfl, col2, P2⟩
    clear hb1
    go_wp2_with fail
    go_loopw [5, 6] (fun v5 v6 wr => HaR b w n v5 v6 wr) (fun _ v6 _ => n - (intOf v6).toNat)
    case atStart => exact HaR.mk 0 0 _ _ (Nat.zero_le _) (Nat.le_refl _) rfl rfl ⟨P2.out, rfl⟩
    case round =>
      clear P2
      obtain ⟨i, k, H, col, hi, hki, rfl, rfl, P⟩ := hrel
      by_cases hin : i = n
      · subst hin
        go_wp2_with fail
        refine (pl_get P.out.1 (by decide) ((k : Int) + 1) (wf64 (by omega) (by omega))).mono ?_
        rintro e w7 ⟨o7, is7, a7, n7, c7, rfl, H7, P7, hb7⟩
        have h7 : is7 = false := by rw [H7.out.2.1, thAt_ge (by rw [P.out.2]; omega)]; rfl
        subst h7
        go_upto_region 20 with (refine wpL_storeRow rfl _ _ _ rfl (cs := [.int .u8 (o7.k.toNat : Int), .int .i64 o7.t, .slice a7 n7 c7, .string (str o7.s)]) rfl rfl (Row.new _ _ _) (by kernel_rfl) rfl rfl ?_; intro w8 hg8 hr8)
        have hb8 : Below w7.heap.size w7 w8 := below_grown ((Below.refl _ _).alloc (Nat.le_refl _) _) hg8 (Nat.le_refl _) (by simp)
        have P8 := Lib.hid (P7.out.down hb8)
        clear P7 hb8 hg8 hr8 hb7
        go_wp2_with fail
        refine (works_any w8).mono ?_
        rintro e w3 ⟨rfl, hb3⟩
        go_wp2_with fail
        go_ret
        exact ⟨rfl, P8.out.below.trans (hb3.mono P8.out.below.size)⟩
      have hlt : i < n := by omega
      have hlt' : (i : Int) < n := by omega
      obtain ⟨b1, o1, q, aO, nO, cO, aR, nR, cR, rfl, hq, hc⟩ := ops_at HI.out i hlt
      have HC := Lib.hid hc
      have HT := Lib.hid (show totO q ≤ 16384 by rw [hq]; exact HF.out.2 i (by rw [HN.out]; exact hlt))
      clear hq hc
      have OC := Lib.hid (HC.out.below P.out.1.below)
      obtain ⟨d0, d1, d2, d3, d4, d5, d6, d7, d8, d9⟩ := OC.out.all
      go_wp2_with fail
      refine (pl_does P.out.1 (by omega) (by decide) OC.out HT.out).mono ?_
      rintro e w4 ⟨t, aT, nT, cT, rfl, Ht, col4, H4⟩
      have P4 := Lib.hid H4.out.1
      have HL4 : Hid ((doH 1048576 H q).length = k + 1 + if q.K = 0 ∧ (tell 1048576 H q).e = 0 then 1 else 0) := Lib.hid (by rw [do_more, P.out.2])
      have HLH := Lib.hid P.out.2
      clear P H4 OC d0 d1 d2 d3 d4 d5 d6 d7 d8 d9
      obtain ⟨o', x', n', is', E⟩ := t
      go_upto_region 11 with (refine wpL_storeRow rfl _ _ _ rfl (cs := [.int .u8 (o'.k.toNat : Int), .int .i64 o'.t, .slice aT nT cT, .string (str o'.s), .int .u8 (x'.1.toNat : Int), .int .i64 x'.2, .int .i64 n', .bool is', .int .i64 E]) rfl rfl (Row.new _ _ _) (by kernel_rfl) rfl rfl ?_; intro w5 hg5 hr5)
      have hb5 : Below w4.heap.size w4 w5 := below_grown ((Below.refl _ _).alloc (Nat.le_refl _) _) hg5 (Nat.le_refl _) (by simp)
      have P5 := Lib.hid (P4.out.down hb5)
      have f2 : w5.cell? ⟨w4.heap.size, 6, none⟩ = some (.int .i64 n') := hr5.cell 6
      have f4 : w5.cell? ⟨w4.heap.size, 8, none⟩ = some (.int .i64 E) := hr5.cell 8
      have OC := Lib.hid (HC.out.below P5.out.below)
      obtain ⟨d0, d1, d2, d3, d4, d5, d6, d7, d8, d9⟩ := OC.out.all
      have HG := Lib.hid (show w4.heap.size < w5.heap.size by have := hb5.size; have := hr5.lt; omega)
      clear P4 hg5 hr5 hb5 d1 d2 d3 d4 d5 d6 d7 d8 d9
      generalize hqK : q.K = K at d0
      have HQK := Lib.hid hqK
      clear hqK
      by_cases hK : K = 0
      · subst hK
        have HA : Hid (E = allocE H 1048576 q.o ∧ n' = allocN H 1048576 q.o ∧ doH 1048576 H q = allocH H 1048576 q.o) := Lib.hid (by
          obtain ⟨h1, h2, h3⟩ := alloc_tell (m := 1048576) (H := H) HQK.out
          rw [← h1, ← h2, ← Ht.out.1]
          exact ⟨rfl, rfl, h3⟩)
        by_cases hE : E = 0
        · subst hE
          obtain ⟨k', hk'⟩ : ∃ k', k' = k + 1 := ⟨_, rfl⟩
          have HE : Hid ((doH 1048576 H q).length = k' + 1 ∧ thAt (doH 1048576 H q) k' = newTh q.o) := Lib.hid (by
            have e1 : allocE H 1048576 q.o = 0 := HA.out.1.symm
            rw [HA.out.2.2, allocH, if_pos e1]
            refine ⟨by rw [List.length_append, HLH.out, hk']; rfl, ?_⟩
            rw [thAt_snoc, if_pos (by rw [HLH.out, hk'])])
          have hn' : n' = (k' : Nat) := by
            have e1 : allocE H 1048576 q.o = 0 := HA.out.1.symm
            rw [HA.out.2.1, allocN, if_pos e1, HLH.out, hk']
          subst hn'
          have ek : (k : Int) + 1 = (k' : Nat) := by omega
          have hki' : k' ≤ i + 1 := by omega
          have HK' := Lib.hid hk'
          clear hk'
          go_upto_region 16 with fail
          have EK := Lib.hid ek
          clear ek
          go_wp2_with fail
          refine (pl_get P5.out (by decide) (k' : Nat) (wf64 (by omega) (by omega))).mono ?_
          rintro e w7 ⟨o7, is7, a7, n7, c7, rfl, H7, P7, hb7⟩
          have h7 : o7 = q.o ∧ is7 = true := by rw [H7.out.1, H7.out.2.1, HE.out.2]; exact ⟨rfl, rfl⟩
          obtain ⟨rfl, rfl⟩ := h7
          have F2 := Lib.hid ((hb7.cell (lt_of_cell f2)).trans f2)
          have S7 := Lib.hid (H7.out.2.2.2.sl)
          have HL7 := Lib.hid H7.out.2.2.1
          clear f2 f4 d0 H7 hb7 P5
          go_upto_region 17 with (refine wpL_storeRow rfl _ _ _ rfl (cs := [.int .u8 (q.o.k.toNat : Int), .int .i64 q.o.t, .slice a7 n7 c7, .string (str q.o.s)]) rfl rfl (Row.new _ _ _) (by kernel_rfl) rfl rfl ?_; intro w8 hg8 hr8)
          have hb8 : Below w7.heap.size w7 w8 := below_grown ((Below.refl _ _).alloc (Nat.le_refl _) _) hg8 (Nat.le_refl _) (by simp)
          have P8 := Lib.hid (P7.out.down hb8)
          have OC := Lib.hid (HC.out.below P8.out.below)
          have S8 := Lib.hid (S7.out.below hb8)
          obtain ⟨d0, d1, d2, d3, d4, d5, d6, d7, d8, d9⟩ := OC.out.all
          have q3 := later_cell d3
          have q4 := later_cell d4
          have q5 := later_cell d5
          have q6 := later_cell d6
          have qn := later_cell (show w8.cell? ⟨w4.heap.size, 6, none⟩ = some (.int .i64 (k' : Nat)) from (hb8.cell (lt_of_cell F2.out)).trans F2.out)
          have r0 := later_cell (show w8.cell? ⟨w7.heap.size, 0, none⟩ = some (.int .u8 (q.o.k.toNat : Int)) from hr8.cell 0)
          have r1 := later_cell (show w8.cell? ⟨w7.heap.size, 1, none⟩ = some (.int .i64 q.o.t) from hr8.cell 1)
          have r2 := later_cell (show w8.cell? ⟨w7.heap.size, 2, none⟩ = some (.slice a7 n7 c7) from hr8.cell 2)
          have r3 := later_cell (show w8.cell? ⟨w7.heap.size, 3, none⟩ = some (.string (str q.o.s)) from hr8.cell 3)
          have HS : Hid (Sl w8 2 (.slice aO nO cO) nO (wcells q.o.l) ∧ q.o.l.length = nO) := Lib.hid (by obtain ⟨cs2, hob⟩ := OC.out.oq.ob; exact ⟨hob.sl, hob.len⟩)
          have hnn : n7 = nO := by have h1 := HL7.out; have h2 := HS.out.2; omega
          subst hnn
          clear d0 d1 d2 d3 d4 d5 d6 d7 d8 d9 hg8 hr8 hb8 OC S7 P7
          try go_frame
          refine wp_region_idx Rb Rb_refl Rb_trans [(0,0),(0,1),(0,2),(0,3),(0,4),(0,5),(0,6),(0,7),(0,8),(0,9),(0,10),(0,11),(0,12),(0,13),(0,14),(1,15),(0,16),(0,17)] (by kernel_rfl) (by kernel_rfl) (by kernel_rfl) ?_
          simp only [pickO, List.getD_cons_succ, List.getD_cons_zero]
          refine wpCan_seg 15 (by kernel_rfl) ?_
          simp only [List.take_succ_cons, List.take_zero, List.drop_succ_cons, List.drop_zero, List.map_cons, List.map_nil]
          iterate 15 (go_big_quiet_step (fail))
          refine wpQuiet_nil ?_
          clear q3 q4 q5 q6 qn r0 r1 r2 r3
          refine wpCan_list (k := 0) (fun KK hK => ?_) (fun _ => Rb_refl _)
          go_wp2_with fail
          refine (same_t q.o.k.toNat q.o.t a7 n7 c7 aO cO q.o.l q.o.s w8.drew (S8.out.below (Below.refl _ _).drew) (HS.out.1.below (Below.refl _ _).drew)).mono ?_
          rintro e w50 ⟨rfl, hb50⟩
          go_wp2_with fail
          refine hK _ _ (fun _ => hb50) ?_
          clear hK KK
          refine wpCan_seg 2 (by kernel_rfl) ?_
          simp only [List.take_succ_cons, List.take_zero, List.drop_succ_cons, List.drop_zero, List.map_cons, List.map_nil]
          iterate 2 (go_big_quiet_step (fail))
          refine wpQuiet_nil ?_
          unfold wpCan
          have P9 : Hid (Pl 1048576 b w (doH 1048576 H q) (i + 2) col4 w50) := Lib.hid (P8.out.down ((Below.refl _ _).drew.trans hb50))
          clear hb50
          go_wp2_with fail
          exact ⟨HaR.mk (i + 1) k' _ col4 hlt hki' (by go_num) rfl ⟨P9.out, HE.out.1⟩, by simp [intOf]; omega⟩
        · have hn' : n' = 0 := by
            have e1 : ¬ allocE H 1048576 q.o = 0 := fun e => hE (by rw [HA.out.1]; exact e)
            rw [HA.out.2.1, allocN, if_neg e1]
          subst hn'
          have hE1 : (E == 0) = false := by simpa using hE
          have hE2 : (E != 0) = true := by simpa using hE
          have HE : Hid ((doH 1048576 H q).length = k + 1) := Lib.hid (by rw [HL4.out, if_neg (fun h => hE (by have := Ht.out.1; rw [← this] at h; exact h.2))])
          go_wp2_with fail
          exact ⟨HaR.mk (i + 1) k _ col4 hlt (by omega) (by go_num) rfl ⟨P5.out, HE.out⟩, by simp [intOf]; omega⟩
      · have hK1 : (K == 0) = false := by simpa using hK
        have hK2 : (K != 0) = true := by simpa using hK
        have HE : Hid ((doH 1048576 H q).length = k + 1) := Lib.hid (by rw [HL4.out, if_neg (fun h => hK (by rw [← HQK.out]; exact h.1))])
        go_wp2_with fail
        exact ⟨HaR.mk (i + 1) k _ col4 hlt (by omega) (by go_num) rfl ⟨P5.out, HE.out⟩, by simp [intOf]; omega⟩
theorem heapHandles_any (a : Option Addr) (n c : Nat) (l : List (Int × Int × Int × (UInt8 × Int × List (UInt8 × Int) × List UInt8) × (UInt8 × Int) × List Int)) (w : World) (h : SlOf VOp 10 w (.slice a n c) l) :
    Calls Try.prog 6 #[.slice a n c] w fun e w' => e = .returned (.bool true) ∧ Below w.heap.size w w' := by
  obtain ⟨L, hL⟩ := ops_open h
  exact heapHandles_walk a n c L w hL
end Go.Proofs.Ytekmgffjdheifaa
