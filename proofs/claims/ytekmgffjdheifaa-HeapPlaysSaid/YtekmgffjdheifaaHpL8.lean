/-
  HeapPlays walked. Conditions: what is handed in reads.
-/
import Derived.Test.YtekmgffjdheifaaHqX
namespace Go.Proofs.Ytekmgffjdheifaa
open Go Go.RowKit
set_option linter.unusedVariables false
set_option linter.unusedSimpArgs false
set_option maxRecDepth 100000

theorem rq8 : ¬ RQ 8 := fun h => by rcases h with h | h <;> omega
theorem pp_meant {m r : Nat} {H : List Th} {n : Nat} {col : Nat → Nat} {w : World} (h : RfAt col w r m H) (L : Live24 H m n) (hn : n ≤ 1000) (hm : m ≤ 16777216) {b1 p : Nat} {q : Opn} {aO : Option Addr} {nO cO : Nat} {aR : Option Addr} {nR cR : Nat} (hq : OpC w b1 p q aO nO cO aR nR cR) (hsm : totO q ≤ 16384) :
    Calls Try.prog 36 #[.pointer (some ⟨r, 0, none⟩), .agg #[.int .i64 q.K, .int .i64 q.k, .int .i64 q.i, .int .u8 (q.o.k.toNat : Int), .int .i64 q.o.t, .slice aO nO cO, .string (str q.o.s), .int .u8 (q.x.1.toNat : Int), .int .i64 q.x.2, .slice aR nR cR]] w
      fun e w' => ∃ t aT nT cT, e = .returned (.agg #[.int .u8 (t.o.k.toNat : Int), .int .i64 t.o.t, .slice aT nT cT, .string (str t.o.s), .int .u8 (t.x.1.toNat : Int), .int .i64 t.x.2, .int .i64 t.n, .bool t.is, .int .i64 t.e]) ∧ Hid (t = tell m H q ∧ t.o.l.length = nT) ∧ ∃ col', Hid (St RQ col w col' w' ∧ RfAt col' w' r m (doH m H q) ∧ Sl w' 2 (.slice aT nT cT) nT (wcells t.o.l)) := by
  refine (meant_p h L.good hm (by have := L.len; omega) L.wf q _ aO nO cO aR nR cR hq.oq hsm).mono ?_
  rintro e w' ⟨t, v, rfl, HT⟩
  obtain ⟨ht, col', k, hH, ho⟩ := HT.out
  obtain ⟨aT, cT, rfl⟩ := ho.form
  exact ⟨t, aT, _, cT, rfl, Lib.hid ⟨ht, rfl⟩, col', Lib.hid ⟨k, hH, ho⟩⟩
def PsR (m b r : Nat) (w0 : World) (n : Nat) (v9 : Value) (w : World) : Prop :=
  ∃ (i : Nat) (H : List Th) (col : Nat → Nat), i ≤ n ∧ v9 = .int .i64 (i : Nat) ∧ Hid (PP m b r w0 H (i + 1) col w)
theorem PsR.mk {m b r : Nat} {w0 : World} {n : Nat} {v9 : Value} {w : World} (i : Nat) (H : List Th) (col : Nat → Nat) (h1 : i ≤ n) (h2 : v9 = .int .i64 (i : Nat)) (h3 : PP m b r w0 H (i + 1) col w) : PsR m b r w0 n v9 w := ⟨i, H, col, h1, h2, Lib.hid h3⟩
set_option maxHeartbeats 16000000 in
theorem heapPlays_walk (z : Int) (a : Option Addr) (n c : Nat) (L : List Opn) (w : World) (h : OpsIn w a n c L) :
    Calls Try.prog 9 #[.int .i64 z, .slice a n c] w fun e w' => e = .returned (.bool true) ∧ Below w.heap.size w w' := by
  have HN := Lib.hid h.len
  have hb9 := h.bnd
  have HI := Lib.hid h
  clear h
  cases hz : newIs z with
  | false =>
    have HZ := Lib.hid hz
    clear hz
    go_enter Try.func9, Try.ntmps9
    go_wp2_with fail
    refine (vast_any a n c L w HI.out).mono ?_
    rintro e w1 ⟨B, rfl, HB, hb1⟩
    cases B with
    | true =>
      go_wp2_with fail
      refine (works_any w1).mono ?_
      rintro e w2 ⟨rfl, hb2⟩
      go_wp2_with fail
      go_ret
      exact ⟨rfl, hb1.trans (hb2.mono hb1.size)⟩
    | false =>
      go_wp2_with fail
      refine (new_no z w1 HZ).mono ?_
      rintro e w2 ⟨rfl, rfl⟩
      go_wp2_with fail
      refine (newR_no z w1 HZ).mono ?_
      rintro e w2 ⟨rfl, rfl⟩
      go_wp2_with fail
      go_loopw [9] (fun v9 wr => v9 = .int .i64 0 ∧ wr = w1) (fun v9 _ => 0)
      case atStart => exact ⟨rfl, rfl⟩
      case round =>
        obtain ⟨rfl, rfl⟩ := hrel
        by_cases hn0 : n = 0
        · subst hn0
          go_wp2_with fail
          refine (works_any _).mono ?_
          rintro e w2 ⟨rfl, hb2⟩
          go_wp2_with fail
          go_ret
          exact ⟨rfl, hb1.trans (hb2.mono hb1.size)⟩
        · have hn1 : (0 : Int) < n := by omega
          go_wp2_with fail
          refine (works_any _).mono ?_
          rintro e w2 ⟨rfl, hb2⟩
          go_wp2_with fail
          go_ret
          exact ⟨rfl, hb1.trans (hb2.mono hb1.size)⟩
  | true =>
  obtain ⟨m, rfl⟩ : ∃ m : Nat, z = m := ⟨z.toNat, by simp [newIs] at hz; omega⟩
  have hm9 : 1 ≤ m ∧ m ≤ 16777216 := by simp [newIs] at hz; omega
  clear hz
  go_enter Try.func9, Try.ntmps9
  go_wp2_with fail
  refine (vast_any a n c L w HI.out).mono ?_
  rintro e w1 ⟨B, rfl, HB, hb1⟩
  cases B with
  | true =>
    go_wp2_with fail
    refine (works_any w1).mono ?_
    rintro e w2 ⟨rfl, hb2⟩
    go_wp2_with fail
    go_ret
    exact ⟨rfl, hb1.trans (hb2.mono hb1.size)⟩
  | false =>
    have HF := Lib.hid (HB.out rfl)
    have hn1 : n ≤ 100 := by have := HF.out.1; rw [HN.out] at this; exact this
    clear HB
    go_wp2_with fail
    refine (Pl.starts (m := m) (w0 := w) hm9 w1 hb1).mono ?_
    rintro e w2 ⟨b, rfl, col2, P2⟩
    clear hb1
    go_wp2_with fail
    refine (newR_yes m col2 w2 hm9).mono ?_
    rintro e w3 ⟨r, rfl, HR3⟩
    have P3 : Hid (PP m b r w newH 1 (recol col2 w2.heap.size 6) w3) := Lib.hid ⟨P2.out.paint HR3.out.2 6, HR3.out.1⟩
    have hmle : m ≤ 16777216 := hm9.2
    have hmm : ((m : Int) != (m : Int)) = false := by simp
    clear P2 HR3 hm9
    go_wp2_with fail
    go_loopw [9] (fun v9 wr => PsR m b r w n v9 wr) (fun v9 _ => n - (intOf v9).toNat)
    case atStart => exact PsR.mk 0 _ _ (Nat.zero_le _) rfl P3.out
    case round =>
      clear P3
      obtain ⟨i, H, col, hi, rfl, P⟩ := hrel
      by_cases hin : i = n
      · subst hin
        go_wp2_with fail
        refine (works_any wr).mono ?_
        rintro e w3 ⟨rfl, hb3⟩
        go_wp2_with fail
        go_ret
        exact ⟨rfl, P.out.P.below.trans (hb3.mono P.out.P.below.size)⟩
      have hlt : i < n := by omega
      have hlt' : (i : Int) < n := by omega
      obtain ⟨b1, o1, q, aO, nO, cO, aR, nR, cR, rfl, hq, hc⟩ := ops_at HI.out i hlt
      have HC := Lib.hid hc
      have HT := Lib.hid (show totO q ≤ 16384 by rw [hq]; exact HF.out.2 i (by rw [HN.out]; exact hlt))
      have HBL : Hid (b1 < w.heap.size) := Lib.hid (lt_of_cell hc.all.1)
      clear hq hc
      have OC := Lib.hid (HC.out.below P.out.P.below)
      obtain ⟨d0, d1, d2, d3, d4, d5, d6, d7, d8, d9⟩ := OC.out.all
      go_upto_region 10 with fail
      have q0 := laterW_cell (B := w.heap.size) d0 HBL.out
      have q1 := laterW_cell (B := w.heap.size) d1 HBL.out
      have q2 := laterW_cell (B := w.heap.size) d2 HBL.out
      have q3 := laterW_cell (B := w.heap.size) d3 HBL.out
      have q4 := laterW_cell (B := w.heap.size) d4 HBL.out
      have q5 := laterW_cell (B := w.heap.size) d5 HBL.out
      have q6 := laterW_cell (B := w.heap.size) d6 HBL.out
      have q7 := laterW_cell (B := w.heap.size) d7 HBL.out
      have q8 := laterW_cell (B := w.heap.size) d8 HBL.out
      have q9 := laterW_cell (B := w.heap.size) d9 HBL.out
      clear d0 d1 d2 d3 d4 d5 d6 d7 d8 d9 OC
      try go_frame
      refine wp_region_idx (RW w.heap.size) (RW_refl _) (RW_trans _) [(0,0),(0,1),(0,2),(0,3),(0,4),(0,6),(0,7),(0,8),(0,9),(0,10),(1,5),(1,11),(1,12),(0,13),(0,14),(0,15),(0,17),(1,16),(1,18),(0,19),(0,20),(0,21),(0,22),(0,24),(1,23),(1,25),(0,26),(0,27),(0,28),(0,29),(0,31),(1,30),(0,32),(0,33),(0,34),(0,35),(0,37),(1,36),(1,38),(1,39),(0,40),(0,41),(0,42),(0,43),(0,45),(1,44),(1,46),(1,47),(0,48),(0,49)] (by kernel_rfl) (by kernel_rfl) (by kernel_rfl) ?_
      simp only [pickO, List.getD_cons_succ, List.getD_cons_zero]
      refine wpCan_seg 10 (by kernel_rfl) ?_
      simp only [List.take_succ_cons, List.take_zero, List.drop_succ_cons, List.drop_zero, List.map_cons, List.map_nil]
      iterate 10 (go_big_quiet_step (fail))
      refine wpQuiet_nil ?_
      clear q0 q1 q2 q3 q4 q5 q6 q7 q8 q9
      have PD : Hid (PP m b r w H (i + 1) col wr.drew) := Lib.hid (P.out.down (Below.refl _ _).drew)
      refine wpCan_list (k := 0) (fun KK hK => ?_) (fun _ => RW_refl _ _)
      go_wp2_with fail
      refine (pl_does PD.out.P (by omega) hmle (HC.out.below PD.out.P.below) HT.out).mono ?_
      rintro e w4 ⟨t, aT, nT, cT, rfl, Ht, col4, H4⟩
      go_wp2_with fail
      refine hK _ _ (fun _ => RW.of PD.out.P.below H4.out.1.below) ?_
      clear hK KK
      have P4 := Lib.hid H4.out.1
      have R4 := Lib.hid (PD.out.R.st H4.out.2.1 hq_rq)
      have T4 := Lib.hid H4.out.2.2
      have L4 := Lib.hid PD.out.P.L
      clear H4 PD P
      refine wpCan_list (k := 0) (fun KK hK => ?_) (fun _ => RW_refl _ _)
      go_wp2_with fail
      refine (pp_meant R4.out L4.out (by omega) hmle (HC.out.below P4.out.below) HT.out).mono ?_
      rintro e w5 ⟨t2, a2, n2, c2, rfl, Ht2, col5, H5⟩
      obtain rfl : t2 = t := Ht2.out.1.trans Ht.out.1.symm
      obtain rfl : n2 = nT := Ht2.out.2.symm.trans Ht.out.2
      have P5 : Hid (PP m b r w (doH m H q) (i + 2) col5 w5) := Lib.hid ⟨⟨P4.out.K.trans (H5.out.1.mono rq_nz), P4.out.A.st H5.out.1 rq_hq, P4.out.L⟩, H5.out.2.1⟩
      have T5 := Lib.hid ((T4.out.st H5.out.1 rq8).1.sl)
      have S5 := Lib.hid H5.out.2.2
      go_wp2_with fail
      refine hK _ _ (fun _ => RW.of P4.out.below P5.out.P.below) ?_
      clear hK KK P4 R4 T4 L4 H5
      generalize doH m H q = H' at P5
      refine wpCan_list (k := 0) (fun KK hK => ?_) (fun _ => RW_refl _ _)
      go_wp2_with fail
      refine (sameT_p t2 aT n2 cT a2 c2 w5 T5.out S5.out).mono ?_
      rintro e w6 ⟨rfl, hb6⟩
      have P6 := Lib.hid (P5.out.down hb6)
      go_wp2_with fail
      refine hK _ _ (fun _ => RW.of (P5.out).P.below (P6.out).P.below) ?_
      clear hK KK
      clear T5 S5 P5 hb6
      obtain ⟨U, hU⟩ : ∃ U, U = usedH H' := ⟨_, rfl⟩
      obtain ⟨C, hC⟩ : ∃ C, C = countH H' := ⟨_, rfl⟩
      obtain ⟨D, hD⟩ : ∃ D, D = (dirtyL H').length := ⟨_, rfl⟩
      obtain ⟨O, hO⟩ : ∃ O, O = (oidsL H').length := ⟨_, rfl⟩
      have HU := Lib.hid hU
      have HCC := Lib.hid hC
      have HD := Lib.hid hD
      have HO := Lib.hid hO
      have HG : Hid (Good H' m) := Lib.hid P6.out.P.L.good
      have HL9 : Hid (H'.length ≤ 1000000) := Lib.hid (by have := P6.out.P.L.len; omega)
      have hUU : ((U : Int) != (U : Int)) = false := by simp
      have hCC : ((C : Int) != (C : Int)) = false := by simp
      clear hU hC hD hO
      refine wpCan_seg 4 (by kernel_rfl) ?_
      simp only [List.take_succ_cons, List.take_zero, List.drop_succ_cons, List.drop_zero, List.map_cons, List.map_nil]
      iterate 4 (go_big_quiet_step (fail))
      refine wpQuiet_nil ?_
      refine wpCan_list (k := 0) (fun KK hK => ?_) (fun _ => RW_refl _ _)
      go_wp2_with fail
      refine (pl_used P6.out.P U HU).mono ?_
      rintro e w7 ⟨rfl, rfl⟩
      go_wp2_with fail
      refine hK _ _ (fun _ => RW_refl _ _) ?_
      clear hK KK
      obtain ⟨gl, ol, cl, cs, vs, hin6⟩ := P6.out.R
      refine wpCan_list (k := 0) (fun KK hK => ?_) (fun _ => RW_refl _ _)
      go_wp2_with fail
      refine (usedR_p hin6 HG hmle U HU).mono ?_
      rintro e w7 ⟨rfl, hb7⟩
      have P7 := Lib.hid (P6.out.down hb7)
      go_wp2_with fail
      refine hK _ _ (fun _ => RW.of (P6.out).P.below (P7.out).P.below) ?_
      clear hK KK
      clear hin6 hb7 P6
      refine wpCan_seg 5 (by kernel_rfl) ?_
      simp only [List.take_succ_cons, List.take_zero, List.drop_succ_cons, List.drop_zero, List.map_cons, List.map_nil]
      iterate 5 (go_big_quiet_step (fail))
      refine wpQuiet_nil ?_
      refine wpCan_list (k := 0) (fun KK hK => ?_) (fun _ => RW_refl _ _)
      go_wp2_with fail
      refine (pl_count P7.out.P C HCC).mono ?_
      rintro e w8 ⟨rfl, rfl⟩
      go_wp2_with fail
      refine hK _ _ (fun _ => RW_refl _ _) ?_
      clear hK KK
      obtain ⟨gl7, ol7, cl7, cs7, vs7, hin7⟩ := P7.out.R
      refine wpCan_list (k := 0) (fun KK hK => ?_) (fun _ => RW_refl _ _)
      go_wp2_with fail
      refine (countR_p hin7 C HCC).mono ?_
      rintro e w8 ⟨rfl, rfl⟩
      go_wp2_with fail
      refine hK _ _ (fun _ => RW_refl _ _) ?_
      clear hK KK
      clear hin7
      refine wpCan_seg 5 (by kernel_rfl) ?_
      simp only [List.take_succ_cons, List.take_zero, List.drop_succ_cons, List.drop_zero, List.map_cons, List.map_nil]
      iterate 5 (go_big_quiet_step (fail))
      refine wpQuiet_nil ?_
      refine wpCan_list (k := 0) (fun KK hK => ?_) (fun _ => RW_refl _ _)
      go_wp2_with fail
      refine (plz_limit P7.out.P).mono ?_
      rintro e w8 ⟨rfl, rfl⟩
      go_wp2_with fail
      refine hK _ _ (fun _ => RW_refl _ _) ?_
      clear hK KK
      refine wpCan_seg 5 (by kernel_rfl) ?_
      simp only [List.take_succ_cons, List.take_zero, List.drop_succ_cons, List.drop_zero, List.map_cons, List.map_nil]
      iterate 5 (go_big_quiet_step (fail))
      refine wpQuiet_nil ?_
      refine wpCan_list (k := 0) (fun KK hK => ?_) (fun _ => RW_refl _ _)
      go_wp2_with fail
      refine (plz_dirty P7.out.P (by omega) D HD).mono ?_
      rintro e w8 ⟨a8, c8, rfl, HO8, hb8⟩
      have P8 := Lib.hid (P7.out.down hb8)
      go_wp2_with fail
      refine hK _ _ (fun _ => RW.of (P7.out).P.below (P8.out).P.below) ?_
      clear hK KK
      clear hb8 P7
      obtain ⟨gl8, ol8, cl8, cs8, vs8, hin8⟩ := P8.out.R
      refine wpCan_list (k := 0) (fun KK hK => ?_) (fun _ => RW_refl _ _)
      go_wp2_with fail
      refine (dirtyR_p hin8 HL9.out D HD).mono ?_
      rintro e w9 ⟨a9, c9, rfl, ho9, hb9'⟩
      have P9 := Lib.hid (P8.out.down hb9')
      have S8 := Lib.hid (HO8.out.sl.below hb9')
      have S9 := Lib.hid ho9.sl
      go_wp2_with fail
      refine hK _ _ (fun _ => RW.of (P8.out).P.below (P9.out).P.below) ?_
      clear hK KK
      clear hin8 hb9' P8 HO8 ho9
      refine wpCan_list (k := 0) (fun KK hK => ?_) (fun _ => RW_refl _ _)
      go_wp2_with fail
      refine (sameList_t (dirtyL H') a8 D c8 a9 c9 w9 S8.out S9.out).mono ?_
      rintro e wA ⟨rfl, hbA⟩
      have PA := Lib.hid (P9.out.down hbA)
      go_wp2_with fail
      refine hK _ _ (fun _ => RW.of (P9.out).P.below (PA.out).P.below) ?_
      clear hK KK
      clear hbA P9 S8 S9
      refine wpCan_seg 5 (by kernel_rfl) ?_
      simp only [List.take_succ_cons, List.take_zero, List.drop_succ_cons, List.drop_zero, List.map_cons, List.map_nil]
      iterate 5 (go_big_quiet_step (fail))
      refine wpQuiet_nil ?_
      refine wpCan_list (k := 0) (fun KK hK => ?_) (fun _ => RW_refl _ _)
      go_wp2_with fail
      refine (plz_oids PA.out.P O HO).mono ?_
      rintro e wB ⟨aB, cB, rfl, HOB, hbB⟩
      have PB := Lib.hid (PA.out.down hbB)
      go_wp2_with fail
      refine hK _ _ (fun _ => RW.of (PA.out).P.below (PB.out).P.below) ?_
      clear hK KK
      clear hbB PA
      obtain ⟨glB, olB, clB, csB, vsB, hinB⟩ := PB.out.R
      refine wpCan_list (k := 0) (fun KK hK => ?_) (fun _ => RW_refl _ _)
      go_wp2_with fail
      refine (oidsR_p hinB HG HL9.out O HO).mono ?_
      rintro e wC ⟨aC, cC, rfl, hoC, hbC⟩
      have PC := Lib.hid (PB.out.down hbC)
      have SB := Lib.hid (HOB.out.sl.below hbC)
      have SC := Lib.hid hoC.sl
      go_wp2_with fail
      refine hK _ _ (fun _ => RW.of (PB.out).P.below (PC.out).P.below) ?_
      clear hK KK
      clear hinB hbC PB HOB hoC
      refine wpCan_list (k := 0) (fun KK hK => ?_) (fun _ => RW_refl _ _)
      go_wp2_with fail
      refine (sameList_t (oidsL H') aB O cB aC cC wC SB.out SC.out).mono ?_
      rintro e wD ⟨rfl, hbD⟩
      have PD := Lib.hid (PC.out.down hbD)
      go_wp2_with fail
      refine hK _ _ (fun _ => RW.of (PC.out).P.below (PD.out).P.below) ?_
      clear hK KK
      clear hbD PC SB SC
      refine wpCan_seg 2 (by kernel_rfl) ?_
      simp only [List.take_succ_cons, List.take_zero, List.drop_succ_cons, List.drop_zero, List.map_cons, List.map_nil]
      iterate 2 (go_big_quiet_step (fail))
      refine wpQuiet_nil ?_
      unfold wpCan
      go_wp2_with fail
      exact ⟨PsR.mk (i + 1) H' col5 hlt (by go_num) PD.out, by simp [intOf]; omega⟩
theorem heapPlays_any (z : Int) (hz : (Lit.int .i64 z).wf = true) (a : Option Addr) (n c : Nat) (l : List (Int × Int × Int × (UInt8 × Int × List (UInt8 × Int) × List UInt8) × (UInt8 × Int) × List Int)) (w : World) (h : SlOf VOp 10 w (.slice a n c) l) :
    Calls Try.prog 9 #[.int .i64 z, .slice a n c] w fun e w' => e = .returned (.bool true) ∧ Below w.heap.size w w' := by
  obtain ⟨L, hL⟩ := ops_open h
  exact heapPlays_walk z a n c L w hL
end Go.Proofs.Ytekmgffjdheifaa
