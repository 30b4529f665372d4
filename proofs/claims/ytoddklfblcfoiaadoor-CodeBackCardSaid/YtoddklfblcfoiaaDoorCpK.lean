/-
  The law that what was written is read, walked. Condition: the table as laid; within a machine's reach.
-/
import Derived.Test.YtoddklfblcfoiaaDoorCpJ
namespace Go.Proofs.YtoddklfblcfoiaaDoor
open Go Go.RowKit
set_option linter.unusedVariables false
set_option linter.unusedSimpArgs false
set_option maxRecDepth 100000

/-- what is compared, in some later world -/
structure BkS (W : World) (k kd : Nat) (aF : Option Addr) (nF kF : Nat) (aR : Option Addr) (nR kR : Nat) (c : Cod) (a : Option Addr) (n cc : Nat) (l : List UInt8) (aG : Option Addr) (kG : Nat) (aS : Option Addr) (kS : Nat) (a3 : Option Addr) (m c3 : Nat) (w : World) : Prop where
  b : BtS W k aF nF kF aR nR kR c a n cc l w
  row : Row w kd 25 [.slice aG nF kG, .slice aS nR kS]
  dm : CodM w (.slice aG nF kG) (.slice aS nR kS) c
  ws : Own w (W.heap.size + 1) 1 (.slice a3 m c3) m (bvs (codL c))
theorem BkS.fresh {W : World} {k kd : Nat} {aF : Option Addr} {nF kF : Nat} {aR : Option Addr} {nR kR : Nat} {c : Cod} {a : Option Addr} {n cc : Nat} {l : List UInt8} {aG : Option Addr} {kG : Nat} {aS : Option Addr} {kS : Nat} {a3 : Option Addr} {m c3 : Nat} {w w' : World} (h : BkS W k kd aF nF kF aR nR kR c a n cc l aG kG aS kS a3 m c3 w) (hb : Below w.heap.size w w') : BkS W k kd aF nF kF aR nR kR c a n cc l aG kG aS kS a3 m c3 w' :=
  ⟨h.b.fresh hb, h.row.after hb, h.dm.below hb, h.ws.below hb⟩
set_option maxHeartbeats 4000000 in
theorem law_back (aF : Option Addr) (nF kF : Nat) (aR : Option Addr) (nR kR : Nat) (c : Cod) (a : Option Addr) (n cc : Nat) (l : List UInt8) (cut : Nat) (more : UInt8) (W : World) (hc : CodM W (.slice aF nF kF) (.slice aR nR kR) c) (HZ : Hid (CodZ c)) (HI : Hid (CodI c)) (hl : Sl W 1 (.slice a n cc) n (bvs l)) (hcut : cut < 65536) (h : ∃ b fuel n, PrimsR W b fuel n) :
    Calls Tryd.prog 6 #[.agg #[.slice aF nF kF, .slice aR nR kR], .slice a n cc, .agg #[.int .u16 (cut : Nat), .int .u8 (more.toNat : Nat)]] W fun e w' => e = .returned (.bool true) ∧ Below W.heap.size W w' := by
  obtain ⟨pb, fuel, pn, hP⟩ := h
  have HP0 := Lib.hid hP
  have HN : Hid (l.length = n) := Lib.hid hl.len.1
  have hnn := hl.len.2.1
  have HL0 := Lib.hid hl
  obtain ⟨k, hk⟩ : ∃ y, y = W.heap.size := ⟨_, rfl⟩
  obtain ⟨w0, hw0⟩ : ∃ y, y = W.alloc (.cells #[.slice aF nF kF, .slice aR nR kR] 25) := ⟨_, rfl⟩
  have hb0 : Below W.heap.size W w0 := by rw [hw0]; exact (Below.refl _ _).alloc (Nat.le_refl _) _
  have hs0 : w0.heap.size = W.heap.size + 1 := by rw [hw0]; simp
  have HSZ : Hid (nF = c.f.length ∧ nR = c.r.length) := Lib.hid ⟨by obtain ⟨⟨vs, h1, h2⟩, h3⟩ := hc; have := h1.cap; omega, by obtain ⟨_, h3⟩ := hc; have h4 := h3.cap.2.2.2; rw [flat_len staC 2 (fun _ => rfl)] at h4; omega⟩
  obtain ⟨w1, hw1⟩ : ∃ y, y = w0.alloc (.cells #[.int .u16 (cut : Nat), .int .u8 (more.toNat : Nat)] 43) := ⟨_, rfl⟩
  have hb1 : Below w0.heap.size w0 w1 := by rw [hw1]; exact (Below.refl _ _).alloc (Nat.le_refl _) _
  have HS1 : Hid (BtS W k aF nF kF aR nR kR c a n cc l w1) := Lib.hid (by
    have h0 : BtS W k aF nF kF aR nR kR c a n cc l w0 := ⟨by rw [hw0, hk]; exact Row.new W _ _, hc.below hb0, hl.below hb0, hb0⟩
    exact h0.fresh hb1)
  have HX1 : Hid (Row w1 (W.heap.size + 1) 43 [.int .u16 (cut : Nat), .int .u8 (more.toNat : Nat)]) := Lib.hid (by rw [hw1, ← hs0]; exact Row.new w0 _ _)
  have HS1S : Hid (W.heap.size + 1 ≤ w1.heap.size) := Lib.hid (by have := hb1.size; omega)
  obtain ⟨B, hB⟩ : ∃ y, y = decide (3000 < sizeV c) := ⟨_, rfl⟩
  have HB := Lib.hid hB
  clear hP hB hl hc hb0 hb1
  have hlg := large_p aF nF kF aR nR kR c w1 HS1.out.cod HZ B HB
  have q0 : w1.cell? ⟨k, 0, none⟩ = some (.slice aF nF kF) := HS1.out.box.cell 0
  have q1 : w1.cell? ⟨k, 1, none⟩ = some (.slice aR nR kR) := HS1.out.box.cell 1
  have x0 : w1.cell? ⟨W.heap.size + 1, 0, none⟩ = some (.int .u16 (cut : Nat)) := HX1.out.cell 0
  have x1 : w1.cell? ⟨W.heap.size + 1, 1, none⟩ = some (.int .u8 (more.toNat : Nat)) := HX1.out.cell 1
  go_enter Tryd.func6, Tryd.ntmps6
  go_upto_region 1 with fail
  rw [← hw0, ← hw1, ← hk]
  rw [← hk] at x0 x1
  clear hw0 hw1 hs0
  have HK := Lib.hid hk
  clear hk
  go_upto_region 4 with fail
  refine hlg.mono ?_
  rintro e w2 ⟨rfl, hb2⟩
  clear hlg q0 q1 x0 x1 HX1
  have HS := Lib.hid (HS1.out.fresh hb2)
  have HS2S : Hid (W.heap.size + 1 ≤ w2.heap.size) := Lib.hid (by have := hb2.size; have := HS1S.out; omega)
  clear HS1 hb2 HS1S
  cases B with
  | true =>
    have hwk := works_p W pb fuel pn HP0 _ (Lib.hid HS.out.bel)
    go_wp2_with fail
    refine hwk.mono ?_
    rintro e wz ⟨rfl, hbz⟩
    clear hwk
    go_wp2_with fail
    go_ret
    exact ⟨rfl, HS.out.bel.trans (hbz.mono HS.out.bel.size)⟩
  | false =>
    by_cases hn : n ≤ 32768
    · have hn' : ¬ (32768 : Int) < n := by omega
      have HSM : Hid (sizeV c ≤ 3000) := Lib.hid (by have := of_decide_eq_false HB.out.symm; omega)
      clear HB
      have HCL : Hid ((codL c).length ≤ 200000) := Lib.hid (codL_small HSM.out)
      have HOK : Hid (CodOk c) := Lib.hid (cod_ok HSM.out HI.out)
      have hF3 : nF ≤ 3000 := by rw [HSZ.out.1]; exact (size_small HSM.out).1
      have hR3 : nR ≤ 3000 := by rw [HSZ.out.2]; exact (size_small HSM.out).2.1
      have HC9 : Hid ((codL c).length ≤ 1000000000) := Lib.hid (Nat.le_trans HCL.out (by decide))
      have q0 : w2.cell? ⟨k, 0, none⟩ = some (.slice aF nF kF) := HS.out.box.cell 0
      have q1 : w2.cell? ⟨k, 1, none⟩ = some (.slice aR nR kR) := HS.out.box.cell 1
      have hwr := write_p aF nF kF aR nR kR c w2 HS.out.cod HC9
      go_upto_region 6 with fail
      refine hwr.mono ?_
      rintro e w3 ⟨v3, rfl, ho3, hb3⟩
      clear hwr q0 q1
      obtain ⟨m, hm⟩ : ∃ y, y = (codL c).length := ⟨_, rfl⟩
      have hm9 : m ≤ 200000 := by rw [hm]; exact HCL.out
      have hm8 : 8 ≤ m := by rw [hm]; exact codL_len c
      rw [← hm] at ho3
      obtain ⟨a3, c3, rfl⟩ := ho3.form
      have HS3 := Lib.hid (HS.out.fresh hb3)
      have HO3 : Hid (Own w3 (W.heap.size + 1) 1 (.slice a3 m c3) m (bvs (codL c))) := Lib.hid (ho3.mono HS2S.out)
      have HM := Lib.hid hm
      clear HS hb3 ho3 hm HS2S
      have hrd : Calls Tryd.prog 14 #[.slice a3 m c3] w3 fun e w' => ∃ aG kG aS kS, e = .returned (.tuple #[.agg #[.slice aG nF kG, .slice aS nR kS], .int .i64 0]) ∧ CodM w' (.slice aG nF kG) (.slice aS nR kS) c ∧ Below w3.heap.size w3 w' :=
        (read_p a3 m c3 (codL c) w3 HO3.out.sl (by omega)).mono (fun e w' h => by
          rcases h with ⟨C, vF, vR, vs, h1, h2, h3, h4⟩ | ⟨h1, _⟩
          · have h5 := h1.out
            rw [read_write HOK.out] at h5
            cases h5
            have h6 := h3.codM
            obtain ⟨⟨aG, kG, e1⟩, aS, kS, e2⟩ := h6.form
            rw [← HSZ.out.1] at e1
            rw [← HSZ.out.2] at e2
            subst e1 e2
            exact ⟨aG, kG, aS, kS, h2, h6, h4⟩
          · rw [read_write HOK.out] at h1
            cases h1)
      go_upto_region 7 with fail
      refine hrd.mono ?_
      rintro e w4 ⟨aG, kG, aS, kS, rfl, hD4, hb4⟩
      clear hrd
      have HS4 := Lib.hid (HS3.out.fresh hb4)
      have HO4 := Lib.hid (HO3.out.below hb4)
      have HD4 := Lib.hid hD4
      clear HS3 HO3 hb4 hD4
      go_upto_region 7 with fail
      obtain ⟨w5, hw5⟩ : ∃ y, y = w4.alloc (.cells #[.slice aG nF kG, .slice aS nR kS] 25) := ⟨_, rfl⟩
      have hb5 : Below w4.heap.size w4 w5 := by rw [hw5]; exact (Below.refl _ _).alloc (Nat.le_refl _) _
      obtain ⟨kd, hkd⟩ : ∃ y, y = w4.heap.size := ⟨_, rfl⟩
      have HK5 : Hid (BkS W k kd aF nF kF aR nR kR c a n cc l aG kG aS kS a3 m c3 w5) := Lib.hid ⟨HS4.out.fresh hb5, by rw [hw5, hkd]; exact Row.new w4 _ _, HD4.out.below hb5, HO4.out.below hb5⟩
      rw [← hw5, ← hkd]
      clear hw5 hkd hb5 HS4 HO4 HD4
      have d0 : w5.cell? ⟨kd, 0, none⟩ = some (.slice aG nF kG) := HK5.out.row.cell 0
      have d1 : w5.cell? ⟨kd, 1, none⟩ = some (.slice aS nR kS) := HK5.out.row.cell 1
      have hwr := write_p aG nF kG aS nR kS c w5 HK5.out.dm HC9
      have hm8' : ¬ (m : Int) < 8 := by omega
      go_upto_region 8 with fail
      refine hwr.mono ?_
      rintro e w6 ⟨v6, rfl, ho6, hb6⟩
      clear hwr d0 d1
      rw [← HM.out] at ho6
      obtain ⟨a6, c6, rfl⟩ := ho6.form
      have HK6 := Lib.hid (HK5.out.fresh hb6)
      have heq : Calls Tryd.prog 16 #[.slice a6 m c6, .slice a3 m c3] w6 fun e w' => e = .returned (.bool true) ∧ Below w6.heap.size w6 w' :=
        (eqb_any a6 m c6 a3 m c3 (codL c) (codL c) w6 ho6.sl HK6.out.ws.sl (by omega) (by omega)).mono (fun e w' h => by rw [decide_eq_true rfl] at h; exact h)
      clear HK5 hb6 ho6
      go_upto_region 8 with fail
      refine heq.mono ?_
      rintro e w7 ⟨rfl, hb7⟩
      clear heq
      have HK7 := Lib.hid (HK6.out.fresh hb7)
      clear HK6 hb7
      have q0 : w7.cell? ⟨k, 0, none⟩ = some (.slice aF nF kF) := HK7.out.b.box.cell 0
      have q1 : w7.cell? ⟨k, 1, none⟩ = some (.slice aR nR kR) := HK7.out.b.box.cell 1
      have d0 : w7.cell? ⟨kd, 0, none⟩ = some (.slice aG nF kG) := HK7.out.row.cell 0
      have d1 : w7.cell? ⟨kd, 1, none⟩ = some (.slice aS nR kS) := HK7.out.row.cell 1
      have hFF : ((nF : Int) != nF) = false := by simp
      have hRR : ((nR : Int) != nR) = false := by simp
      go_upto_region 9 with fail
      clear q0 q1 d0 d1 hRR
      go_wp2_with fail
      go_loopw [12] (fun v12 wr => ∃ i : Nat, i ≤ nF ∧ v12 = .int .i64 (i : Nat) ∧ Hid (BkS W k kd aF nF kF aR nR kR c a n cc l aG kG aS kS a3 m c3 wr)) (fun v12 _ => nF - (RowKit.intOf v12).toNat)
      case atStart => exact ⟨0, Nat.zero_le _, rfl, HK7⟩
      case round =>
        clear HK7
        obtain ⟨i, hi, rfl, HW⟩ := hrel
        have q0 : wr.cell? ⟨k, 0, none⟩ = some (.slice aF nF kF) := HW.out.b.box.cell 0
        have d0 : wr.cell? ⟨kd, 0, none⟩ = some (.slice aG nF kG) := HW.out.row.cell 0
        by_cases hin : i = nF
        · as_aux_lemma =>
            have hin' : nF = i := hin.symm
            subst hin'
            clear hin hi
            go_wp2_with fail
            clear q0 d0
            go_loopw [14] (fun v14 wr => ∃ j : Nat, j ≤ nR ∧ v14 = .int .i64 (j : Nat) ∧ Hid (BkS W k kd aF nF kF aR nR kR c a n cc l aG kG aS kS a3 m c3 wr)) (fun v14 _ => nR - (RowKit.intOf v14).toNat)
            case atStart => exact ⟨0, Nat.zero_le _, rfl, HW⟩
            case round =>
              clear HW
              obtain ⟨j, hj, rfl, HW⟩ := hrel
              have q1 : wr.cell? ⟨k, 1, none⟩ = some (.slice aR nR kR) := HW.out.b.box.cell 1
              have d1 : wr.cell? ⟨kd, 1, none⟩ = some (.slice aS nR kS) := HW.out.row.cell 1
              by_cases hjn : j = nR
              · have hjn' : nR = j := hjn.symm
                subst hjn'
                clear hjn hj d1
                obtain ⟨g3, o3, c3', e3, hg3, hg3l, hc31, hc32, _⟩ := HW.out.ws.open (by omega) (by decide)
                cases e3
                obtain ⟨q, hq⟩ : ∃ y, y = cut % m := ⟨_, rfl⟩
                have hqm : q < m := by rw [hq]; exact Nat.mod_lt _ (by omega)
                have hqi : (cut : Int) % (m : Int) = (q : Int) := by rw [hq]; omega
                have hm0 : ¬ m = 0 := by omega
                have hsl : ∀ wx : World, (Instr.slice 26 (.slice (some ⟨g3, o3, none⟩) m c3) none (some (.int .i64 (q : Nat))) none).run Tryd.prog wx = .ok (.slice (some ⟨g3, o3, none⟩) q c3) wx := fun wx =>
                  run_front wx Tryd.underlying26 (z := 1) (by kernel_rfl) g3 o3 m c3 q (by omega)
                clear hq
                have hcutR : Calls Tryd.prog 14 #[.slice (some ⟨g3, o3, none⟩) q c3] wr fun e w' => e = .returned (.tuple #[.agg #[nilV, nilV], .int .i64 8]) ∧ Below wr.heap.size wr w' :=
                  (read_p (some ⟨g3, o3, none⟩) q c3 ((codL c).take q) wr (by have h1 := (HW.out.ws.front (m := q) (by omega)).sl; rw [Nat.mul_one] at h1; unfold bvs at h1 ⊢; rw [List.map_take]; exact h1) (by omega)).mono (fun e w' h => by
                    have hno := read_cut HOK.out (k := q) (by rw [← HM.out]; exact hqm)
                    rcases h with ⟨C, vF, vR, vs, h1, h2, h3, h4⟩ | ⟨_, h2, h3⟩
                    · have h5 := h1.out
                      rw [hno] at h5
                      cases h5
                    · exact ⟨h2, h3⟩)
                go_upto_region 25 with fail
                refine hcutR.mono ?_
                rintro e w8 ⟨rfl, hb8⟩
                clear hcutR hsl hqi
                unfold nilV
                have HO8 := Lib.hid (HW.out.ws.below hb8)
                have HB8 := Lib.hid (HW.out.b.bel.trans (hb8.mono HW.out.b.bel.size))
                clear hb8 q1
                go_upto_region 25 with fail
                obtain ⟨w9, hw9⟩ : ∃ y, y = w8.alloc (.cells #[.slice none 0 0, .slice none 0 0] 25) := ⟨_, rfl⟩
                have hb9 : Below w8.heap.size w8 w9 := by rw [hw9]; exact (Below.refl _ _).alloc (Nat.le_refl _) _
                rw [← hw9]
                have HO9 := Lib.hid (HO8.out.below hb9)
                have HB9 := Lib.hid (HB8.out.trans (hb9.mono HB8.out.size))
                clear HO8 HB8 hb9 hw9
                have HOa := Lib.hid (HO9.out.alloc (.cells #[.int .u8 (more.toNat : Nat)] 5))
                have HSa := Lib.hid (Sl.one w9 (.int .u8 (more.toNat : Nat)) 5)
                have HBa : Hid (Below W.heap.size W (w9.alloc (.cells #[.int .u8 (more.toNat : Nat)] 5))) := Lib.hid (HB9.out.alloc HB9.out.size _)
                have HBS : Hid (W.heap.size + 1 ≤ (w9.alloc (.cells #[.int .u8 (more.toNat : Nat)] 5)).heap.size) := Lib.hid (by have := HB9.out.size; simp; omega)
                go_upto_region 26 with (at_builtin; refine wpL_append etB rfl _ _ rfl HOa.out rfl HSa.out rfl (by simp [Value.oneCell']) (by omega) (by simp [maxLen]; omega) HBS.out ?_; intro v10 w10 ho10 hg10)
                obtain ⟨a10, c10, rfl⟩ := ho10.form
                have hba := below_own HBa.out HOa.out hg10 (Nat.le_succ _) HBa.out.size
                have e10 : bvs (codL c) ++ [Value.int .u8 (more.toNat : Int)] = bvs (codL c ++ [more]) := by rw [bvs_append]; rfl
                rw [e10] at ho10
                have HO10 := Lib.hid ho10.sl
                have HB10 := Lib.hid hba
                clear hg10 e10 hba ho10 HBa HOa HSa HBS HB9 HO9 HW
                have hmoreR : Calls Tryd.prog 14 #[.slice a10 (m + 1) c10] w10 fun e w' => e = .returned (.tuple #[.agg #[nilV, nilV], .int .i64 8]) ∧ Below w10.heap.size w10 w' :=
                  (read_p a10 (m + 1) c10 (codL c ++ [more]) w10 HO10.out (by omega)).mono (fun e w' h => by
                    have hno := read_more HOK.out more
                    rcases h with ⟨C, vF, vR, vs, h1, h2, h3, h4⟩ | ⟨_, h2, h3⟩
                    · have h5 := h1.out
                      rw [hno] at h5
                      cases h5
                    · exact ⟨h2, h3⟩)
                go_upto_region 27 with fail
                refine hmoreR.mono ?_
                rintro e w11 ⟨rfl, hb11⟩
                clear hmoreR
                unfold nilV
                have HB11 := Lib.hid (HB10.out.trans (hb11.mono HB10.out.size))
                clear hb11 HB10 HO10
                go_upto_region 27 with fail
                obtain ⟨w12, hw12⟩ : ∃ y, y = w11.alloc (.cells #[.slice none 0 0, .slice none 0 0] 25) := ⟨_, rfl⟩
                rw [← hw12]
                have HB12 : Hid (Below W.heap.size W w12) := Lib.hid (by rw [hw12]; exact HB11.out.alloc HB11.out.size _)
                clear hw12 HB11
                obtain ⟨E, hE⟩ : ∃ y, y = rE l := ⟨_, rfl⟩
                have hrd := (read_p a n cc l w12 (HL0.out.below HB12.out) (by omega)).mono (fun e w' h => read_any h E hE)
                go_upto_region 30 with fail
                refine hrd.mono ?_
                rintro e w13 ⟨aY, nY, kY, aZ, nZ, kZ, rfl, hY, hb13⟩
                clear hrd
                have HB13 := Lib.hid (HB12.out.trans (hb13.mono HB12.out.size))
                have HY13 := Lib.hid hY
                have HE := Lib.hid hE
                clear hb13 hY hE HB12
                go_upto_region 30 with fail
                obtain ⟨w14, hw14⟩ : ∃ y, y = w13.alloc (.cells #[.slice aY nY kY, .slice aZ nZ kZ] 25) := ⟨_, rfl⟩
                have hb14 : Below w13.heap.size w13 w14 := by rw [hw14]; exact (Below.refl _ _).alloc (Nat.le_refl _) _
                obtain ⟨ky, hky⟩ : ∃ y, y = w13.heap.size := ⟨_, rfl⟩
                have HX14 : Hid (Row w14 ky 25 [.slice aY nY kY, .slice aZ nZ kZ]) := Lib.hid (by rw [hw14, hky]; exact Row.new w13 _ _)
                rw [← hw14, ← hky]
                have HB14 := Lib.hid (HB13.out.trans (hb14.mono HB13.out.size))
                have HY14 := Lib.hid (HY13.out.below hb14)
                clear hb14 HB13 HY13 hw14 hky
                cases hr : readC l with
                | none =>
                  have hE8 : E = 8 := by rw [HE.out]; unfold rE; rw [hr]
                  subst hE8
                  clear hr
                  have hwk := works_p W pb fuel pn HP0 w14 HB14
                  go_wp2_with fail
                  refine hwk.mono ?_
                  rintro e wz ⟨rfl, hbz⟩
                  clear hwk
                  go_wp2_with fail
                  go_ret
                  exact ⟨rfl, HB14.out.trans (hbz.mono HB14.out.size)⟩
                | some C =>
                  have hE0 : E = 0 := by rw [HE.out]; unfold rE; rw [hr]
                  subst hE0
                  have HCL2 : Hid (rD l = C ∧ codL C = l) := Lib.hid ⟨by unfold rD; rw [hr]; rfl, (write_read hr).1⟩
                  clear hr
                  have HYC : Hid (CodM w14 (.slice aY nY kY) (.slice aZ nZ kZ) C) := Lib.hid (by have := HY14.out; rw [HCL2.out.1] at this; exact this)
                  have y0 : w14.cell? ⟨ky, 0, none⟩ = some (.slice aY nY kY) := HX14.out.cell 0
                  have y1 : w14.cell? ⟨ky, 1, none⟩ = some (.slice aZ nZ kZ) := HX14.out.cell 1
                  have hwr := write_p aY nY kY aZ nZ kZ C w14 HYC.out (Lib.hid (by rw [HCL2.out.2, HN.out]; omega))
                  go_wp2_with fail
                  refine hwr.mono ?_
                  rintro e w15 ⟨v15, rfl, ho15, hb15⟩
                  clear hwr y0 y1
                  rw [HCL2.out.2, HN.out] at ho15
                  obtain ⟨a15, c15, rfl⟩ := ho15.form
                  have HB15 := Lib.hid (HB14.out.trans (hb15.mono HB14.out.size))
                  have heq : Calls Tryd.prog 16 #[.slice a15 n c15, .slice a n cc] w15 fun e w' => e = .returned (.bool true) ∧ Below w15.heap.size w15 w' :=
                    (eqb_any a15 n c15 a n cc l l w15 ho15.sl (HL0.out.below HB15.out) (by omega) (by omega)).mono (fun e w' h => by rw [decide_eq_true rfl] at h; exact h)
                  clear ho15 hb15
                  go_wp2_with fail
                  refine heq.mono ?_
                  rintro e w16 ⟨rfl, hb16⟩
                  clear heq
                  have HB16 := Lib.hid (HB15.out.trans (hb16.mono HB15.out.size))
                  have hwk := works_p W pb fuel pn HP0 w16 HB16
                  clear hb16
                  go_wp2_with fail
                  refine hwk.mono ?_
                  rintro e wz ⟨rfl, hbz⟩
                  clear hwk
                  go_wp2_with fail
                  go_ret
                  exact ⟨rfl, HB16.out.trans (hbz.mono HB16.out.size)⟩
              · have hjlt : j < nR := by omega
                have hjlt' : (j : Int) < nR := by omega
                have hs1 : Sl wr 2 (.slice aR nR kR) nR (stCells c.r) := by have := HW.out.b.cod.2; rw [← HSZ.out.2] at this; exact this
                have hs2 : Sl wr 2 (.slice aS nR kS) nR (stCells c.r) := by have := HW.out.dm.2; rw [← HSZ.out.2] at this; exact this
                obtain ⟨b5, o5, x, rfl, hx, hc5⟩ := hs1.elem staC staC_len (by decide) j hjlt
                obtain ⟨b6, o6, y, rfl, hy, hc6⟩ := hs2.elem staC staC_len (by decide) j hjlt
                rw [hx] at hy
                cases hy
                have e0 := hc5 0 _ rfl
                have e1 := hc5 1 _ rfl
                have f0 := hc6 0 _ rfl
                have f1 := hc6 1 _ rfl
                simp only [Nat.add_zero] at e0 f0
                generalize str x.n = xa at e0 f0
                generalize str x.s = xb at e1 f1
                clear hx hc5 hc6 hs1 hs2
                go_wp2_with fail
                go_quiet (fail)
                go_wp2_with fail
                exact ⟨⟨j + 1, by omega, by go_num, Lib.hid (HW.out.fresh (below_drewN (Below.refl _ _) nq))⟩, by simp [RowKit.intOf]; omega⟩
        · have hilt : i < nF := by omega
          have hilt' : (i : Int) < nF := by omega
          obtain ⟨f, hf⟩ : ∃ f, c.f[i]? = some f := ⟨_, List.getElem?_eq_getElem (by rw [← HSZ.out.1]; exact hilt)⟩
          obtain ⟨gF, oF, aL, cL, rfl, hq, hsq⟩ := HW.out.b.cod.fun_at i f hf
          obtain ⟨gG, oG, aM, cM, rfl, hd, hsd⟩ := HW.out.dm.fun_at i f hf
          have HIN : Hid (∀ wx, Below wr.heap.size wr wx → (wx.cell? ⟨gF, oF + i, none⟩ = some (.slice aL f.length cL) ∧ Sl wx 5 (.slice aL f.length cL) f.length (inCells f)) ∧ wx.cell? ⟨gG, oG + i, none⟩ = some (.slice aM f.length cM) ∧ Sl wx 5 (.slice aM f.length cM) f.length (inCells f)) :=
            Lib.hid (fun wx hx => ⟨⟨(hx.cell (lt_of_cell hq)).trans hq, hsq.below hx⟩, (hx.cell (lt_of_cell hd)).trans hd, hsd.below hx⟩)
          obtain ⟨nL, hnL⟩ : ∃ y, y = f.length := ⟨_, rfl⟩
          have HNL := Lib.hid hnL
          have hL3 : nL ≤ 3000 := by rw [hnL]; exact ((size_small HSM.out).2.2.1 f (List.mem_of_getElem? hf)).1
          rw [← hnL] at hq hd
          have hLL : ((nL : Int) != nL) = false := by simp
          clear hf hsq hsd hnL
          go_wp2_with fail
          go_quiet (fail)
          rename_i nq
          have HW2 := Lib.hid (HW.out.fresh (below_drewN (Below.refl _ _) nq))
          have HIN2 : Hid (∀ wx, Below (wr.drewN nq).heap.size (wr.drewN nq) wx → (wx.cell? ⟨gF, oF + i, none⟩ = some (.slice aL f.length cL) ∧ Sl wx 5 (.slice aL f.length cL) f.length (inCells f)) ∧ wx.cell? ⟨gG, oG + i, none⟩ = some (.slice aM f.length cM) ∧ Sl wx 5 (.slice aM f.length cM) f.length (inCells f)) :=
            Lib.hid (fun wx hx => HIN.out wx ((below_drewN (Below.refl _ _) nq).trans (hx.mono (below_drewN (Below.refl wr.heap.size wr) nq).size)))
          obtain ⟨wd, hwd⟩ : ∃ y, y = wr.drewN nq := ⟨_, rfl⟩
          rw [← hwd] at HW2 HIN2 ⊢
          clear HW HIN hwd q0 d0 hq hd hLL
          go_wp2_with fail
          go_loopw [13] (fun v13 wr2 => ∃ j : Nat, j ≤ nL ∧ v13 = .int .i64 (j : Nat) ∧ Hid (BkS W k kd (some ⟨gF, oF, none⟩) nF kF aR nR kR c a n cc l (some ⟨gG, oG, none⟩) kG aS kS a3 m c3 wr2) ∧ Hid (Below wd.heap.size wd wr2)) (fun v13 _ => nL - (RowKit.intOf v13).toNat)
          case atStart => exact ⟨0, Nat.zero_le _, rfl, HW2, Lib.hid (Below.refl _ _)⟩
          case round =>
            as_aux_lemma =>
              clear HW2
              obtain ⟨j, hj, rfl, HW, HU⟩ := hrel
              have q0 : wr.cell? ⟨k, 0, none⟩ = some (.slice (some ⟨gF, oF, none⟩) nF kF) := HW.out.b.box.cell 0
              have d0 : wr.cell? ⟨kd, 0, none⟩ = some (.slice (some ⟨gG, oG, none⟩) nF kG) := HW.out.row.cell 0
              have hq := (HIN2.out wr HU.out).1.1
              have hd := (HIN2.out wr HU.out).2.1
              rw [← HNL.out] at hq hd
              by_cases hjn : j = nL
              · have hjn' : nL = j := hjn.symm
                subst hjn'
                go_wp2_with fail
                exact ⟨⟨i + 1, by omega, by go_num, HW⟩, by simp [RowKit.intOf]; omega⟩
              · have hjlt : j < nL := by omega
                have hjlt' : (j : Int) < nL := by omega
                obtain ⟨b5, o5, x, rfl, hx, hc5⟩ := (HIN2.out wr HU.out).1.2.elem insC insC_len (by decide) j (by rw [← HNL.out]; exact hjlt)
                obtain ⟨b6, o6, y, rfl, hy, hc6⟩ := (HIN2.out wr HU.out).2.2.elem insC insC_len (by decide) j (by rw [← HNL.out]; exact hjlt)
                rw [hx] at hy
                cases hy
                have e0 := hc5 0 _ rfl
                have e1 := hc5 1 _ rfl
                have e2 := hc5 2 _ rfl
                have e3 := hc5 3 _ rfl
                have e4 := hc5 4 _ rfl
                have f0 := hc6 0 _ rfl
                have f1 := hc6 1 _ rfl
                have f2 := hc6 2 _ rfl
                have f3 := hc6 3 _ rfl
                have f4 := hc6 4 _ rfl
                simp only [Nat.add_zero] at e0 f0
                generalize str x.t = xt at e4 f4
                generalize (x.op.toNat : Int) = xo at e0 f0
                generalize x.a = xa at e1 f1
                generalize x.b = xb at e2 f2
                generalize x.c = xc at e3 f3
                clear hx hc5 hc6
                go_wp2_with fail
                go_quiet (fail)
                go_wp2_with fail
                exact ⟨⟨j + 1, by omega, by go_num, Lib.hid (HW.out.fresh (below_drewN (Below.refl _ _) nq)), Lib.hid (below_drewN HU.out nq)⟩, by simp [RowKit.intOf]; omega⟩
    · have hn' : (32768 : Int) < n := by omega
      have hwk := works_p W pb fuel pn HP0 _ (Lib.hid HS.out.bel)
      go_wp2_with fail
      refine hwk.mono ?_
      rintro e wz ⟨rfl, hbz⟩
      clear hwk
      go_wp2_with fail
      go_ret
      exact ⟨rfl, HS.out.bel.trans (hbz.mono HS.out.bel.size)⟩
def VCut : World → List Value → Int × UInt8 → Prop := VRec2 1 1 (VInt .u16) VByte
theorem opensCut : Opens Tryd.prog 43 2 VCut := opens_rec2 Tryd.underlying43 (by kernel_rfl) rfl rfl rfl rfl (opens_int Tryd.underlying41 (by kernel_rfl)) (opens_byte Tryd.underlying5 (by kernel_rfl))
theorem back_top (cs : Array Value) (d : List (List DIns) × List DSta) (a : Option Addr) (n cc : Nat) (l : List UInt8) (cs2 : Array Value) (d2 : Int × UInt8) (W : World) (h0 : VCod W cs.toList d) (h1 : SlOf VByte 1 W (.slice a n cc) l) (h2 : VCut W cs2.toList d2) (h : ∃ b fuel n, PrimsR W b fuel n) :
    Calls Tryd.prog 6 #[.agg cs, .slice a n cc, .agg cs2] W fun e w' => e = .returned (.bool true) ∧ Below W.heap.size W w' := by
  obtain ⟨aF, nF, kF, aR, nR, kR, c, hcs, hc, hz, hi⟩ := cod_open h0
  obtain rfl : cs = #[.slice aF nF kF, .slice aR nR kR] := by cases cs; simp_all
  obtain ⟨z, x⟩ := d2
  obtain ⟨c0, c1, e2, _, _, v0, v1⟩ := h2
  obtain ⟨cut, hcut, hcz⟩ := nat_u16 v0.2
  simp only at v0 v1 hcz
  subst hcz
  obtain rfl : cs2 = #[.int .u16 (cut : Nat), .int .u8 (x.toNat : Nat)] := by
    have v1' : c1 = [.int .u8 (x.toNat : Int)] := v1
    rw [v0.1, v1'] at e2
    cases cs2; simp_all
  have hl := h1.bytes
  have hn := h1.len.1
  subst hn
  exact law_back aF nF kF aR nR kR c a _ cc l cut x W hc (Lib.hid hz) (Lib.hid hi) hl hcut h
end Go.Proofs.YtoddklfblcfoiaaDoor
