/-
  HeapTies walked. Conditions: what is handed in reads.
-/
import Derived.Test.YtekmgffjdheifaaHpZ
namespace Go.Proofs.Ytekmgffjdheifaa
open Go Go.RowKit
set_option linter.unusedVariables false
set_option linter.unusedSimpArgs false
set_option maxRecDepth 100000

theorem riseL_perm (l : List Int) : (riseL l).Perm l := List.mergeSort_perm _ _
theorem riseL_rise (l : List Int) : (riseL l).Pairwise (· ≤ ·) := (List.pairwise_mergeSort (le := fun x y : Int => decide (x ≤ y)) (fun a b c h1 h2 => by simp at *; omega) (fun a b => by simp; omega) l).imp (fun h => by simpa using h)
/-- how many are tied -/
def tiedN (H : List Th) : Nat := (H.filter fun h => decide (0 < h.oid)).length
theorem tied_take {H : List Th} {k : Nat} (hk : k < H.length) : tiedN (H.take (k + 1)) = tiedN (H.take k) + if 0 < (thAt H k).oid then 1 else 0 := by
  rw [List.take_succ_eq_append_getElem hk, tiedN, List.filter_append, List.length_append, ← tiedN, thAt_nat, getD_lt hk]
  congr 1
  by_cases h : 0 < H[k].oid <;> simp [h]
theorem tied_take1 {H : List Th} {m : Nat} (h : Good H m) : tiedN (H.take 1) = 0 := by
  have hl := h.len
  have hz := h.zero
  have e0 := tied_take (H := H) (k := 0) (by omega)
  rw [show ((0 : Nat) : Int) = 0 from rfl, hz] at e0
  simpa [tiedN, noTh] using e0
theorem oidsL_len (H : List Th) : (oidsL H).length = tiedN H := by
  unfold oidsL
  rw [(riseL_perm _).length_eq, List.length_map, tiedN]
/-- oids rise, and each is one's -/
theorem oidsL_mem {H : List Th} {x : Int} (h : x ∈ oidsL H) : 0 < x ∧ ∃ k, (thAt H k).oid = x := by
  have h1 := (riseL_perm _).mem_iff.1 h
  obtain ⟨y, hy, rfl⟩ := List.mem_map.1 h1
  obtain ⟨hm, hp⟩ := List.mem_filter.1 hy
  obtain ⟨i, hi, rfl⟩ := List.mem_iff_getElem.1 hm
  exact ⟨of_decide_eq_true hp, i, by rw [thAt_nat, getD_lt hi]⟩
theorem oidsL_lt {H : List Th} {m : Nat} (hg : Good H m) : (oidsL H).Pairwise (· < ·) := by
  have hnd : ((H.filter fun h => decide (0 < h.oid)).map (·.oid)).Nodup := by
    rw [List.Nodup, List.pairwise_map, List.pairwise_filter]
    refine List.pairwise_iff_getElem.2 fun i j hi hj hij h1 h2 e => ?_
    have := hg.one i j (by rw [thAt_nat, getD_lt hi]; exact of_decide_eq_true h1) (by rw [thAt_nat, thAt_nat, getD_lt hi, getD_lt hj]; exact e)
    omega
  have h1 : (oidsL H).Nodup := (riseL_perm _).nodup_iff.2 hnd
  have h2 : (oidsL H).Pairwise (· ≤ ·) := riseL_rise _
  rw [List.Nodup] at h1
  exact (h1.and h2).imp (fun h => by have := h.1; have := h.2; omega)
theorem oids_next {H : List Th} {m : Nat} (hg : Good H m) {i : Nat} (hi : i + 1 < (oidsL H).length) : (oidsL H).getD i 0 < (oidsL H).getD (i + 1) 0 := by
  rw [getD_lt (by omega), getD_lt hi]
  exact List.pairwise_iff_getElem.1 (oidsL_lt hg) i (i + 1) (by omega) hi (by omega)
theorem oids_ok {H : List Th} {m : Nat} (hg : Good H m) {i : Nat} (hi : i < (oidsL H).length) : 0 < ofH H ((oidsL H).getD i 0) ∧ 1 ≤ (oidsL H).getD i 0 ∧ (oidsL H).getD i 0 ≤ 16384 := by
  rw [getD_lt hi]
  obtain ⟨h1, k, hk⟩ := oidsL_mem (List.getElem_mem hi)
  have := hg.ofEq h1 hk
  have := hg.oid k
  omega
def TiR (b : Nat) (w0 : World) (n k : Nat) (H : List Th) (col : Nat → Nat) (v5 v6 : Value) (w : World) : Prop :=
  ∃ (j T : Nat), 1 ≤ j ∧ j ≤ k + 1 ∧ T ≤ j ∧ v6 = .int .i64 (j : Nat) ∧ v5 = .int .i64 (T : Nat) ∧ Hid (Pl 1048576 b w0 H n col w ∧ T = tiedN (H.take j))
theorem TiR.mk {b : Nat} {w0 : World} {n k : Nat} {H : List Th} {col : Nat → Nat} {v5 v6 : Value} {w : World} (j T : Nat) (h1 : 1 ≤ j) (h2 : j ≤ k + 1) (h3 : T ≤ j) (h4 : v6 = .int .i64 (j : Nat)) (h5 : v5 = .int .i64 (T : Nat)) (h6 : Pl 1048576 b w0 H n col w ∧ T = tiedN (H.take j)) : TiR b w0 n k H col v5 v6 w := ⟨j, T, h1, h2, h3, h4, h5, Lib.hid h6⟩
set_option maxHeartbeats 8000000 in
theorem heapTies_walk (a : Option Addr) (n c : Nat) (L : List Opn) (w : World) (h : OpsIn w a n c L) :
    Calls Try.prog 8 #[.slice a n c] w fun e w' => e = .returned (.bool true) ∧ Below w.heap.size w w' := by
  have HN := Lib.hid h.len
  have hb9 := h.bnd
  have HI := Lib.hid h
  clear h
  go_enter Try.func8, Try.ntmps8
  go_wp2_with fail
  refine (vast_any a n c L w HI.out).mono ?_
  rintro e w1 ⟨B, rfl, HB, hb1⟩
  cases B with
  | true =>
    go_wp2_with fail
    refine (works_any w1).mono ?_
    rintro e w2 ⟨rfl, hb2⟩
    go_wp2_with fail
    go_ret
    exact ⟨rfl, hb1.trans (hb2.mono hb1.size)⟩
  | false =>
    have HF := Lib.hid (HB.out rfl)
    have hn1 : n ≤ 100 := by have := HF.out.1; rw [HN.out] at this; exact this
    clear HB
    go_wp2_with fail
    refine (played_any a n c L w w1 HI.out hb1 HF.out).mono ?_
    rintro e w2 ⟨b, k, rfl, hkn, H, col, P2⟩
    clear hb1
    go_wp2_with fail
    go_loopw [5, 6] (fun v5 v6 wr => TiR b w (n + 1) k H col v5 v6 wr) (fun _ v6 _ => k + 1 - (intOf v6).toNat)
    case atStart => exact TiR.mk 1 0 (Nat.le_refl _) (by omega) (by decide) rfl rfl ⟨P2.out.1, (tied_take1 P2.out.1.L.good).symm⟩
    case round =>
      have HLN := Lib.hid P2.out.2
      clear P2
      obtain ⟨j, T, hj1, hjk, hT, rfl, rfl, P⟩ := hrel
      by_cases hjn : j = k + 1
      · subst hjn
        have hnj : ¬ (((k + 1 : Nat) : Int)) ≤ (k : Int) := by omega
        have HNO : Hid (T = (oidsL H).length) := Lib.hid (by rw [P.out.2, oidsL_len, List.take_of_length_le (by rw [HLN.out]; exact Nat.le_refl _)])
        have HG := Lib.hid P.out.1.L.good
        go_wp2_with fail
        refine (plz_oids P.out.1 T HNO).mono ?_
        rintro e w3 ⟨a3, c3, rfl, HO3, hb3⟩
        have P3 := Lib.hid (P.out.1.down hb3)
        have S3 := Lib.hid HO3.out.sl
        clear P HO3 hb3
        have hTT : ((T : Int) != (T : Int)) = false := by simp
        go_wp2_with fail
        go_loopw [14] (fun v14 wr => ∃ i : Nat, i ≤ T ∧ v14 = .int .i64 (i : Nat) ∧ Hid (Pl 1048576 b w H (n + 1) col wr ∧ Sl wr 1 (.slice a3 T c3) T (ints (oidsL H)))) (fun v14 _ => T - (intOf v14).toNat)
        case atStart => exact ⟨0, Nat.zero_le _, rfl, Lib.hid ⟨P3.out, S3.out⟩⟩
        case round =>
          clear P3 S3
          obtain ⟨i, hi, rfl, P4⟩ := hrel
          by_cases hin : i = T
          · subst hin
            go_wp2_with fail
            refine (works_any wr).mono ?_
            rintro e w5 ⟨rfl, hb5⟩
            go_wp2_with fail
            go_ret
            exact ⟨rfl, P4.out.1.below.trans (hb5.mono P4.out.1.below.size)⟩
          have hiT : i < T := by omega
          have hiT' : (i : Int) < T := by omega
          have hlen : i < (oidsL H).length := by rw [← HNO.out]; exact hiT
          have HOK := Lib.hid (oids_ok HG.out hlen)
          obtain ⟨b1, o1, u1, ha, hu, hcell⟩ := P4.out.2.at (k := i) (by omega)
          rw [ints_get _ _ hlen] at hu
          cases hu
          subst ha
          obtain ⟨y, hy⟩ : ∃ y, y = (oidsL H).getD i 0 := ⟨_, rfl⟩
          obtain ⟨q, hq⟩ : ∃ q, q = ofH H y := ⟨_, rfl⟩
          have hq0 : 0 < q := by rw [hq, hy]; exact HOK.out.1
          have hwy : (Lit.int .i64 y).wf = true := wf64 (by rw [hy]; have := HOK.out.2.1; omega) (by rw [hy]; have := HOK.out.2.2; omega)
          rw [← hy] at hcell
          have HQ := Lib.hid hq
          have HY := Lib.hid hy
          have HC := Lib.hid hcell
          clear hq hlen
          by_cases hi0 : i = 0
          · subst hi0
            clear hy
            rw [Nat.add_zero] at hcell
            go_wp2_with fail
            refine (plz_of P4.out.1 y hwy q HQ).mono ?_
            rintro e w5 ⟨rfl, rfl⟩
            go_wp2_with fail
            go_quiet (fail)
            rename_i nq
            go_wp2_with fail
            have hbq : Below wr.heap.size wr (wr.drewN nq) := below_drewN (Below.refl _ _) nq
            exact ⟨⟨1, by omega, by go_num, Lib.hid ⟨P4.out.1.down hbq, P4.out.2.below hbq⟩⟩, by simp [intOf]; omega⟩
          · obtain ⟨p, rfl⟩ : ∃ p, i = p + 1 := ⟨i - 1, by omega⟩
            have hlen2 : p + 1 < (oidsL H).length := by rw [← HNO.out]; exact hiT
            obtain ⟨b2, o2, u2, ha2, hu2, hcell2⟩ := P4.out.2.at (k := p) (by omega)
            rw [ints_get _ _ (by omega)] at hu2
            cases hu2
            cases ha2
            obtain ⟨z, hz⟩ : ∃ z, z = (oidsL H).getD p 0 := ⟨_, rfl⟩
            have hzy : z < y := by rw [hz, hy]; exact oids_next HG.out hlen2
            rw [← hz] at hcell2
            clear hz hy hlen2
            have e1 : ((p + 1 : Nat) : Int) - 1 = (p : Nat) := by omega
            have hp0 : (0 : Int) < ((p + 1 : Nat) : Int) := by omega
            have hpT : (p : Int) < T := by omega
            go_wp2_with fail
            refine (plz_of P4.out.1 y hwy q HQ).mono ?_
            rintro e w5 ⟨rfl, rfl⟩
            go_wp2_with fail
            go_quiet (fail)
            rename_i nq
            go_wp2_with fail
            have hbq : Below wr.heap.size wr (wr.drewN nq) := below_drewN (Below.refl _ _) nq
            exact ⟨⟨p + 1 + 1, by omega, by go_num, Lib.hid ⟨P4.out.1.down hbq, P4.out.2.below hbq⟩⟩, by simp [intOf]; omega⟩
      have hjk' : (j : Int) ≤ (k : Int) := by omega
      have HTT : Hid (tiedN (H.take (j + 1)) = T + if 0 < (thAt H j).oid then 1 else 0) := Lib.hid (by rw [tied_take (by rw [HLN.out]; omega), P.out.2])
      have P := Lib.hid P.out.1
      have HG := Lib.hid P.out.L.good
      clear hb9
      go_wp2_with fail
      refine (pl_get P.out (by decide) j (wf64 (by omega) (by omega))).mono ?_
      rintro e w7 ⟨o7, is7, a7, n7, c7, rfl, H7, P7, hb7⟩
      go_upto_region 11 with (refine wpL_storeRow rfl _ _ _ rfl (cs := [.int .u8 (o7.k.toNat : Int), .int .i64 o7.t, .slice a7 n7 c7, .string (str o7.s)]) rfl rfl (Row.new _ _ _) (by kernel_rfl) rfl rfl ?_; intro w8 hg8 hr8)
      have hb8 : Below w7.heap.size w7 w8 := below_grown ((Below.refl _ _).alloc (Nat.le_refl _) _) hg8 (Nat.le_refl _) (by simp)
      have P8 := Lib.hid (P7.out.down hb8)
      have G0 := Lib.hid (show w8.cell? ⟨w7.heap.size, 0, none⟩ = some (.int .u8 (o7.k.toNat : Int)) from hr8.cell 0)
      have G1 := Lib.hid (show w8.cell? ⟨w7.heap.size, 1, none⟩ = some (.int .i64 o7.t) from hr8.cell 1)
      clear hg8 hr8 hb7 hb8 P7
      obtain ⟨x, hx⟩ : ∃ x, x = (thAt H j).oid := ⟨_, rfl⟩
      have HX := Lib.hid hx
      clear hx
      go_wp2_with fail
      refine (plz_oid P8.out j (wf64 (by omega) (by omega)) x HX).mono ?_
      rintro e w9 ⟨rfl, hb9'⟩
      have P9 := Lib.hid (P8.out.down hb9')
      have g0 := (hb9'.cell (lt_of_cell G0.out)).trans G0.out
      have g1 := (hb9'.cell (lt_of_cell G1.out)).trans G1.out
      clear P8 hb9' G0 G1
      by_cases hx0 : 0 < x
      · have HI7 : Hid ((thAt H j).is = true ∧ ofH H x = j ∧ (x ≤ 16384) ∧ ((thAt H j).o.k = 8 → (thAt H j).o.t = x)) := Lib.hid (by
          have h1 := HG.out.isOf (k := j) (by rw [← HX.out]; exact hx0)
          refine ⟨h1, (HG.out.ofEq hx0 HX.out.symm).1, by rw [HX.out]; exact (HG.out.oid j).2, fun h8 => ?_⟩
          rw [HX.out]; exact (HG.out.stub j h1 h8).symm)
        have h7 : is7 = true := by rw [H7.out.2.1]; exact HI7.out.1
        subst h7
        have hx9 : x ≤ 16384 := HI7.out.2.2.1
        have HJ : Hid ((j : Int) = ofH H x) := Lib.hid HI7.out.2.1.symm
        have HS : Hid (tiedN (H.take (j + 1)) = T + 1) := Lib.hid (by rw [HTT.out, if_pos (by rw [← HX.out]; exact hx0)])
        have hj0 : (0 : Int) < (j : Int) := by omega
        have hjj : ((j : Int) != (j : Int)) = false := by simp
        have hx1 : ¬ x < 1 := by omega
        have hx2 : ¬ 16384 < x := by omega
        by_cases h8 : o7.k = 8
        · have ht : o7.t = x := by rw [H7.out.1]; exact HI7.out.2.2.2 (by rw [← H7.out.1]; exact h8)
          rw [h8] at g0
          rw [ht] at g1
          have hxx : (x != x) = false := by simp
          go_wp2_with fail
          refine (plz_of P9.out x (wf64 (by omega) (by omega)) (j : Nat) HJ).mono ?_
          rintro e w10 ⟨rfl, rfl⟩
          go_wp2_with fail
          exact ⟨TiR.mk (j + 1) (T + 1) (by omega) (by omega) (by omega) (by go_num) (by go_num) ⟨P9.out, HS.out.symm⟩, by simp [intOf]; omega⟩
        · have h8' : ((o7.k.toNat : Int) == 8) = false := by
            simp only [beq_eq_false_iff_ne]
            intro e
            exact h8 (UInt8.toNat_inj.1 (by have : (8 : UInt8).toNat = 8 := rfl; omega))
          generalize (o7.k.toNat : Int) = kk at g0 h8'
          go_wp2_with fail
          refine (plz_of P9.out x (wf64 (by omega) (by omega)) (j : Nat) HJ).mono ?_
          rintro e w10 ⟨rfl, rfl⟩
          go_wp2_with fail
          exact ⟨TiR.mk (j + 1) (T + 1) (by omega) (by omega) (by omega) (by go_num) (by go_num) ⟨P9.out, HS.out.symm⟩, by simp [intOf]; omega⟩
      · have h0 : x = 0 := by have := (HG.out.oid j).1; rw [← HX.out] at this; omega
        subst h0
        have HS : Hid (tiedN (H.take (j + 1)) = T) := Lib.hid (by rw [HTT.out, if_neg (by rw [← HX.out]; decide)]; rfl)
        have HK : Hid ((thAt H j).is = true → ¬ (thAt H j).o.k = 8) := Lib.hid (fun h1 h8 => by
          have h2 := HG.out.stub j h1 h8
          have h3 := (may_stub (HG.out.may j h1) h8).1
          have h4 := HX.out
          omega)
        cases is7 with
        | false =>
          go_wp2_with fail
          exact ⟨TiR.mk (j + 1) T (by omega) (by omega) (by omega) (by go_num) rfl ⟨P9.out, HS.out.symm⟩, by simp [intOf]; omega⟩
        | true =>
          have h8 : ¬ o7.k = 8 := by rw [H7.out.1]; exact HK.out H7.out.2.1.symm
          have h8' : ((o7.k.toNat : Int) == 8) = false := by
            simp only [beq_eq_false_iff_ne]
            intro e
            exact h8 (UInt8.toNat_inj.1 (by have : (8 : UInt8).toNat = 8 := rfl; omega))
          generalize (o7.k.toNat : Int) = kk at g0 h8'
          go_wp2_with fail
          exact ⟨TiR.mk (j + 1) T (by omega) (by omega) (by omega) (by go_num) rfl ⟨P9.out, HS.out.symm⟩, by simp [intOf]; omega⟩
theorem heapTies_any (a : Option Addr) (n c : Nat) (l : List (Int × Int × Int × (UInt8 × Int × List (UInt8 × Int) × List UInt8) × (UInt8 × Int) × List Int)) (w : World) (h : SlOf VOp 10 w (.slice a n c) l) :
    Calls Try.prog 8 #[.slice a n c] w fun e w' => e = .returned (.bool true) ∧ Below w.heap.size w w' := by
  obtain ⟨L, hL⟩ := ops_open h
  exact heapTies_walk a n c L w hL
end Go.Proofs.Ytekmgffjdheifaa
