/-
  THE THEOREM OF STAGE 22, walked. Condition: the table as laid; within a machine's reach.
-/
import Derived.Test.YtoddklfblcfoiaaDoorCqO
import Derived.Test.YtoddklfblcfoiaaDoorCpI
namespace Go.Proofs.YtoddklfblcfoiaaDoor
open Go Go.RowKit
set_option linter.unusedVariables false
set_option linter.unusedSimpArgs false
set_option maxRecDepth 100000

/-- what a law was handed, in some later world -/
structure BgS (W : World) (k : Nat) (aF : Option Addr) (nF kF : Nat) (aR : Option Addr) (nR kR : Nat) (c : Cod) (a : Option Addr) (n cc : Nat) (l : List UInt8) (w : World) : Prop where
  box : Row w k 25 [.slice aF nF kF, .slice aR nR kR]
  cod : CodM w (.slice aF nF kF) (.slice aR nR kR) c
  bs : Sl w 1 (.slice a n cc) n (bvs l)
  bel : Below W.heap.size W w
theorem BgS.fresh {W : World} {k : Nat} {aF : Option Addr} {nF kF : Nat} {aR : Option Addr} {nR kR : Nat} {c : Cod} {a : Option Addr} {n cc : Nat} {l : List UInt8} {w w' : World} (h : BgS W k aF nF kF aR nR kR c a n cc l w) (hb : Below w.heap.size w w') : BgS W k aF nF kF aR nR kR c a n cc l w' :=
  ⟨h.box.after hb, h.cod.below hb, h.bs.below hb, h.bel.trans (hb.mono h.bel.size)⟩
theorem checkE_cases (c : Cod) : checkE c = 0 ∨ checkE c = 17 := by
  unfold checkE
  split
  · exact .inl rfl
  · exact .inr rfl
theorem checkE_zero {c : Cod} (h : checkE c = 0) : CheckP c := by
  unfold checkE at h
  split at h
  · assumption
  · cases h
theorem next_all {V : Lab} {l : List Ins} {f nF nR : Nat} {g : Ins} (hV : ValidV l f g V) (hop : ∀ x ∈ l, opB nF nR l.length x = true) {m : Ms} (hI : MInv V l.length m) (hd : m.done = false) :
    ∃ (p : Nat) (x : Ins), m.at_ = p ∧ l[p]? = some x ∧ ∀ way, MInv V l.length (nextM f nR (leastV f) g way x m) := by
  obtain ⟨p, x, h1, h2, _⟩ := next_goes hV hop hI hd 0
  refine ⟨p, x, h1, h2, fun way => ?_⟩
  obtain ⟨p', x', h3, h4, h5⟩ := next_goes hV hop hI hd way
  have hp : p' = p := by omega
  subst hp
  rw [h2] at h4
  cases h4
  exact h5
/-- how things stand after so many steps, and one more -/
structure GoS (W : World) (ob : Nat) (vF vR : Value) (f : Nat) (aw : Option Addr) (nw cw : Nat) (V : Lab) (n i : Nat) (m : Ms) (tv : Value) (step : Nat) (w : World) : Prop where
  st : step ≤ i
  ms : MS W ob vF vR f (leastV f) aw nw cw step m tv w
  inv : MInv V n m
  bn : MBn (2 + 65540 * (i : Int)) m
theorem go_head {V : Lab} {f : Nat} {l : List Ins} {g : Ins} (hV : ValidV l f g V) : MInv V l.length ⟨0, leastV f, [], false, false⟩ :=
  ⟨rfl, .inr ⟨0, (leastV f, []), rfl, hV.1, hV.2.1, rfl, .nil⟩⟩
theorem least_le (f : Nat) : 0 ≤ leastV f ∧ leastV f ≤ 2 := by unfold leastV; split <;> omega
set_option maxHeartbeats 3000000 in
theorem law_goes (aF : Option Addr) (nF kF : Nat) (aR : Option Addr) (nR kR : Nat) (c : Cod) (fq : Nat) (hfq : fq < 256) (aw : Option Addr) (nw cw : Nat) (ws : List UInt8) (W : World) (hc : CodM W (.slice aF nF kF) (.slice aR nR kR) c) (HZ : Hid (CodZ c)) (hl : Sl W 1 (.slice aw nw cw) nw (bvs ws)) (h : ∃ b fuel n, PrimsR W b fuel n) :
    Calls Tryd.prog 7 #[.agg #[.slice aF nF kF, .slice aR nR kR], .int .u8 (fq : Nat), .slice aw nw cw] W fun e w' => e = .returned (.bool true) ∧ Below W.heap.size W w' := by
  obtain ⟨pb, fuel, pn, hP⟩ := h
  have HP0 := Lib.hid hP
  have HWS := Lib.hid hl
  have HC0 := Lib.hid hc
  have hnw := hl.len.2.1
  have HSZ : Hid (nF = c.f.length ∧ nR = c.r.length) := Lib.hid ⟨by obtain ⟨⟨vs, h1, h2⟩, h3⟩ := hc; have := h1.cap; omega, by obtain ⟨_, h3⟩ := hc; have h4 := h3.cap.2.2.2; rw [flat_len staC 2 (fun _ => rfl)] at h4; omega⟩
  obtain ⟨k, hk⟩ : ∃ y, y = W.heap.size := ⟨_, rfl⟩
  obtain ⟨w1, hw1⟩ : ∃ y, y = W.alloc (.cells #[.slice aF nF kF, .slice aR nR kR] 25) := ⟨_, rfl⟩
  have HS1 : Hid (BgS W k aF nF kF aR nR kR c aw nw cw ws w1) := Lib.hid (by
    have hb1 : Below W.heap.size W w1 := by rw [hw1]; exact (Below.refl _ _).alloc (Nat.le_refl _) _
    exact ⟨by rw [hw1, hk]; exact Row.new W _ _, hc.below hb1, hl.below hb1, hb1⟩)
  obtain ⟨B, hB⟩ : ∃ y, y = decide (3000 < sizeV c) := ⟨_, rfl⟩
  have HB := Lib.hid hB
  clear hP hB hl hc
  have hlg := large_p aF nF kF aR nR kR c w1 HS1.out.cod HZ B HB
  have q0 : w1.cell? ⟨k, 0, none⟩ = some (.slice aF nF kF) := HS1.out.box.cell 0
  have q1 : w1.cell? ⟨k, 1, none⟩ = some (.slice aR nR kR) := HS1.out.box.cell 1
  go_enter Tryd.func7, Tryd.ntmps7
  go_upto_region 1 with fail
  rw [← hw1, ← hk]
  clear hw1
  have HK := Lib.hid hk
  clear hk
  go_upto_region 2 with fail
  refine hlg.mono ?_
  rintro e w2 ⟨rfl, hb2⟩
  clear hlg q0 q1
  have HS := Lib.hid (HS1.out.fresh hb2)
  clear HS1 hb2
  cases B with
  | true =>
    have hwk := works_p W pb fuel pn HP0 _ (Lib.hid HS.out.bel)
    go_wp2_with fail
    refine hwk.mono ?_
    rintro e wz ⟨rfl, hbz⟩
    clear hwk
    go_wp2_with fail
    go_ret
    exact ⟨rfl, HS.out.bel.trans (hbz.mono HS.out.bel.size)⟩
  | false =>
    have HSM : Hid (sizeV c ≤ 3000) := Lib.hid (by have := of_decide_eq_false HB.out.symm; omega)
    clear HB
    have hF3 : nF ≤ 3000 := by rw [HSZ.out.1]; exact (size_small HSM.out).1
    have hR3 : nR ≤ 3000 := by rw [HSZ.out.2]; exact (size_small HSM.out).2.1
    have q0 : w2.cell? ⟨k, 0, none⟩ = some (.slice aF nF kF) := HS.out.box.cell 0
    have q1 : w2.cell? ⟨k, 1, none⟩ = some (.slice aR nR kR) := HS.out.box.cell 1
    obtain ⟨E, hE⟩ : ∃ y, y = checkE c := ⟨_, rfl⟩
    have hck := check_p W pb fuel pn HP0 _ _ _ _ _ _ c w2 (Lib.hid HS.out.bel) HS.out.cod (by omega) (fun l hl => ⟨Nat.le_trans ((size_small HSM.out).2.2.1 l hl).1 (by decide), fun x hx => Nat.le_trans (((size_small HSM.out).2.2.1 l hl).2 x hx) (by decide)⟩) (by omega) E (Lib.hid hE)
    go_upto_region 2 with fail
    refine hck.mono ?_
    rintro e w3 ⟨rfl, hb3⟩
    clear hck q0 q1
    have HS3 := Lib.hid (HS.out.fresh hb3)
    clear HS hb3
    have HS := HS3
    clear HS3
    rcases checkE_cases c with h0 | h0
    · have hE0 : E = 0 := hE.trans h0
      have HCK := Lib.hid (checkE_zero h0)
      subst hE0
      clear hE h0
      by_cases hn : nw ≤ 1024
      · have hn' : ¬ (1024 : Int) < nw := by omega
        have hF0 : 0 < nF := (by
          rw [HSZ.out.1]
          exact Nat.pos_of_ne_zero (fun h => HCK.out.1 (List.eq_nil_of_length_eq_zero h)))
        have hFb : ((nF : Int) == 0) = false := by rw [beq_eq_false_iff_ne]; omega
        have q0 : w3.cell? ⟨k, 0, none⟩ = some (.slice aF nF kF) := HS.out.box.cell 0
        have q1 : w3.cell? ⟨k, 1, none⟩ = some (.slice aR nR kR) := HS.out.box.cell 1
        obtain ⟨f, hf⟩ : ∃ y, y = fq % nF := ⟨_, rfl⟩
        have hfn : f < nF := by rw [hf]; exact Nat.mod_lt _ hF0
        have hfi : (fq : Int) % (nF : Int) = (f : Int) := by rw [hf]; omega
        obtain ⟨l, hl⟩ : ∃ l, c.f[f]? = some l := ⟨_, List.getElem?_eq_getElem (by rw [← HSZ.out.1]; exact hfn)⟩
        have HL := Lib.hid hl
        obtain ⟨b, hgr, hmr⟩ := HCK.out.2.2.2
        obtain ⟨V, hV0⟩ := hmr.2 f l hl
        have HV : Hid (ValidV l f (grpOf c.f.flatten f) V) := Lib.hid (by rw [grp_find hgr f]; exact hV0)
        have HOP : Hid (OpsAll c) := Lib.hid HCK.out.2.2.1
        clear hf hl hgr hmr hV0 b
        have hnF0 : ¬ nF = 0 := by omega
        have q0 := later_cell q0
        have q1 := later_cell q1
        go_upto_region 5 with fail
        refine wp_region_idx Rb Rb_refl Rb_trans [(0,0),(0,1),(0,2),(0,3),(0,4),(0,5),(0,6),(0,7),(0,8),(1,9),(0,10)] (by kernel_rfl) (by kernel_rfl) (by kernel_rfl) ?_
        simp only [pickO, List.getD_cons_succ, List.getD_cons_zero]
        clear hn hn' hFb
        refine wpCan_seg 9 (by kernel_rfl) ?_
        simp only [List.take_succ_cons, List.take_zero, List.drop_succ_cons, List.drop_zero, List.map_cons, List.map_nil]
        iterate 9 (go_big_quiet_step (fail))
        refine wpQuiet_nil ?_
        clear q0 q1
        refine wpCan_list (k := 0) (fun KK hK => ?_) (fun _ => Rb_refl _)
        go_wp2_with fail
        obtain ⟨w4, hw4⟩ : ∃ y, y = (w3.alloc (.cells #[.slice aF nF kF, .slice aR nR kR, .int .i64 (f : Nat), .int .i64 0, .int .i64 0, .int .i64 0, .slice none 0 0, .slice aw nw cw, .int .i64 0, .bool false, .bool false] 53)).drew := ⟨_, rfl⟩
        have hb4 : Below w3.heap.size w3.drew w4 := by rw [hw4]; exact (Below.refl w3.heap.size w3.drew).alloc (Nat.le_refl _) _
        obtain ⟨ob, hob⟩ : ∃ y, y = w3.heap.size := ⟨_, rfl⟩
        have HM4 : Hid (MS W ob (.slice aF nF kF) (.slice aR nR kR) f 0 aw nw cw 0 ⟨0, 0, [], false, false⟩ (.slice none 0 0) w4) := Lib.hid (by
          refine ⟨by rw [hw4, hob]; exact (Row.new w3 _ _).drew, Own.nil _ _ _, HS.out.bel.trans (((Below.refl w3.heap.size w3).drew.trans hb4).mono HS.out.bel.size), by rw [hob]; exact HS.out.bel.size⟩)
        rw [← hw4, ← hob]
        refine hK _ _ (fun _ => hb4) ?_
        clear hK KK hw4 hob hb4 HS
        refine wpCan_seg 1 (by kernel_rfl) ?_
        simp only [List.take_succ_cons, List.take_zero, List.drop_succ_cons, List.drop_zero, List.map_cons, List.map_nil]
        iterate 1 (go_big_quiet_step (fail))
        refine wpQuiet_nil ?_
        unfold wpCan
        have HV1 := HV.out.1
        have c2 : w4.cell? ⟨ob, 2, none⟩ = some (.int .i64 (f : Nat)) := HM4.out.row.cell 2
        by_cases hf0 : f = 0
        · have hf0' : ¬ (0 : Int) < f := by omega
          go_wp2_with fail
          have HG : Hid (GoS W ob (.slice aF nF kF) (.slice aR nR kR) f aw nw cw V l.length 0 ⟨0, leastV f, [], false, false⟩ (.slice none 0 0) 0 w4) := Lib.hid (by
            have e : leastV f = 0 := by unfold leastV; rw [if_pos hf0]
            refine ⟨Nat.le_refl _, by rw [e]; exact HM4.out, go_head HV.out, ⟨by rw [e]; decide, by rw [e]; decide, (fun x hx => by cases hx), by show (0 : Int) ≤ 2 + 65540 * 0; decide⟩⟩)
          clear c2 HM4 hf0 hf0'
          go_loopw [8] (fun v8 wr => ∃ i : Nat, i ≤ 400 ∧ v8 = .int .i64 (i : Nat) ∧ Hid (∃ m tv step, GoS W ob (.slice aF nF kF) (.slice aR nR kR) f aw nw cw V l.length i m tv step wr)) (fun v8 _ => 400 - (RowKit.intOf v8).toNat)
          case atStart => exact ⟨0, Nat.zero_le _, rfl, Lib.hid ⟨_, _, _, HG.out⟩⟩
          case round =>
            clear HG
            obtain ⟨i, hi, rfl, HX⟩ := hrel
            obtain ⟨m, tv, step, hG⟩ := HX.out
            have HG := Lib.hid hG
            clear hG HX
            have c10 : wr.cell? ⟨ob, 10, none⟩ = some (.bool m.done) := HG.out.ms.row.cell 10
            by_cases hi4 : i = 400
            · subst hi4
              have hwk := works_p W pb fuel pn HP0 wr (Lib.hid HG.out.ms.bel)
              go_wp2_with fail
              refine hwk.mono ?_
              rintro e wz ⟨rfl, hbz⟩
              clear hwk
              go_wp2_with fail
              go_ret
              exact ⟨rfl, HG.out.ms.bel.trans (hbz.mono HG.out.ms.bel.size)⟩
            · have hilt : i < 400 := by omega
              have hilt' : (i : Int) < 400 := by omega
              obtain ⟨dn, hdn⟩ : ∃ y, y = m.done := ⟨_, rfl⟩
              rw [← hdn] at c10
              cases dn with
              | true =>
                clear hdn
                have hwk := works_p W pb fuel pn HP0 wr (Lib.hid HG.out.ms.bel)
                go_wp2_with fail
                refine hwk.mono ?_
                rintro e wz ⟨rfl, hbz⟩
                clear hwk
                go_wp2_with fail
                go_ret
                exact ⟨rfl, HG.out.ms.bel.trans (hbz.mono HG.out.ms.bel.size)⟩
              | false =>
                obtain ⟨p, x, hat, hx, hnx⟩ := next_all HV.out (nF := nF) (nR := nR) (by have h1 := HOP.out l (List.mem_of_getElem? HL.out); rw [← HSZ.out.1, ← HSZ.out.2] at h1; exact h1) HG.out.inv hdn.symm
                have HNXT := Lib.hid hnx
                have hmn := mnext_p W ob aF nF kF aR nR kR c f l (leastV f) (grpOf c.f.flatten f) aw nw cw ws step m p x (2 + 65540 * (i : Int)) tv wr HG.out.ms
                  ⟨HC0.out, HL.out, hx, hat, HG.out.inv.1, hdn.symm, HWS.out, rfl, HG.out.bn, by omega, by omega, by omega, HSZ.out.1, HSZ.out.2, by have := HG.out.st; omega, fun l hl => Nat.le_trans ((size_small HSM.out).2.2.1 l hl).1 (by decide), HOP.out, (least_le f).1, fun way => (hnx way).1⟩
                have HMV : Hid (Moves1 x) := Lib.hid (op_moves (nF := nF) (nR := nR) (n := l.length) (by have h1 := HOP.out l (List.mem_of_getElem? HL.out) x (List.mem_of_getElem? hx); rw [← HSZ.out.1, ← HSZ.out.2] at h1; exact h1) (by omega))
                clear hat hx hnx hdn
                go_wp2_with fail
                refine hmn.mono ?_
                rintro e w9 ⟨tv9, way, rfl, hm9⟩
                clear hmn c10
                have HG9 : Hid (GoS W ob (.slice aF nF kF) (.slice aR nR kR) f aw nw cw V l.length (i + 1) (nextM f nR (leastV f) (grpOf c.f.flatten f) way x m) tv9 (step + 1) w9) := Lib.hid (by
                  have h1 := HG.out.st
                  have h2 := next_bnd HMV.out HG.out.bn (least_le f).1 (HNXT.out way).1
                  exact ⟨by omega, hm9, HNXT.out way, h2.up (by omega)⟩)
                have c9 : w9.cell? ⟨ob, 9, none⟩ = some (.bool false) := by
                  have h1 : w9.cell? ⟨ob, 9, none⟩ = some (.bool (nextM f nR (leastV f) (grpOf c.f.flatten f) way x m).wrong) := hm9.row.cell 9
                  rw [(HNXT.out way).1] at h1
                  exact h1
                clear hm9
                go_wp2_with fail
                exact ⟨⟨i + 1, by omega, by go_num, Lib.hid ⟨_, _, _, HG9.out⟩⟩, by simp [RowKit.intOf]; omega⟩
        · have hf0' : (0 : Int) < f := by omega
          have f3 : w4.frozen? ⟨ob, 3, none⟩ = false := HM4.out.row.free 3
          have c3 : w4.cell? ⟨ob, 3, none⟩ = some (.int .i64 0) := HM4.out.row.cell 3
          go_upto_region 8 with fail
          have HM5 : Hid (MS W ob (.slice aF nF kF) (.slice aR nR kR) f 1 aw nw cw 0 ⟨0, 0, [], false, false⟩ (.slice none 0 0) (w4.setCell ⟨ob, 3, none⟩ (.int .i64 1))) := Lib.hid (HM4.out.put (grown_setCell w4 ob 3 _) (HM4.out.row.set 3 (.int .i64 1)) rfl)
          obtain ⟨w5, hw5⟩ : ∃ y, y = w4.setCell ⟨ob, 3, none⟩ (.int .i64 1) := ⟨_, rfl⟩
          rw [← hw5] at HM5 ⊢
          clear f3 c3 c2 hw5 HM4
          have f5 : w5.frozen? ⟨ob, 5, none⟩ = false := HM5.out.row.free 5
          have c5 : w5.cell? ⟨ob, 5, none⟩ = some (.int .i64 0) := HM5.out.row.cell 5
          go_wp2_with fail
          have HM6 : Hid (MS W ob (.slice aF nF kF) (.slice aR nR kR) f 1 aw nw cw 0 ⟨0, 1, [], false, false⟩ (.slice none 0 0) (w5.setCell ⟨ob, 5, none⟩ (.int .i64 1))) := Lib.hid (HM5.out.put (grown_setCell w5 ob 5 _) (HM5.out.row.set 5 (.int .i64 1)) rfl)
          obtain ⟨w6, hw6⟩ : ∃ y, y = w5.setCell ⟨ob, 5, none⟩ (.int .i64 1) := ⟨_, rfl⟩
          rw [← hw6] at HM6 ⊢
          clear f5 c5 hw6 HM5
          have HG : Hid (GoS W ob (.slice aF nF kF) (.slice aR nR kR) f aw nw cw V l.length 0 ⟨0, leastV f, [], false, false⟩ (.slice none 0 0) 0 w6) := Lib.hid (by
            have e : leastV f = 1 := by unfold leastV; rw [if_neg hf0]
            refine ⟨Nat.le_refl _, by rw [e]; exact HM6.out, go_head HV.out, ⟨by rw [e]; decide, by rw [e]; decide, (fun x hx => by cases hx), by show (0 : Int) ≤ 2 + 65540 * 0; decide⟩⟩)
          have hd : decide (0 < f) = true := decide_eq_true (by omega)
          try simp only [hd]
          clear HM6 hf0 hf0' hd
          go_loopw [8] (fun v8 wr => ∃ i : Nat, i ≤ 400 ∧ v8 = .int .i64 (i : Nat) ∧ Hid (∃ m tv step, GoS W ob (.slice aF nF kF) (.slice aR nR kR) f aw nw cw V l.length i m tv step wr)) (fun v8 _ => 400 - (RowKit.intOf v8).toNat)
          case atStart => exact ⟨0, Nat.zero_le _, rfl, Lib.hid ⟨_, _, _, HG.out⟩⟩
          case round =>
            clear HG
            obtain ⟨i, hi, rfl, HX⟩ := hrel
            obtain ⟨m, tv, step, hG⟩ := HX.out
            have HG := Lib.hid hG
            clear hG HX
            have c10 : wr.cell? ⟨ob, 10, none⟩ = some (.bool m.done) := HG.out.ms.row.cell 10
            by_cases hi4 : i = 400
            · subst hi4
              have hwk := works_p W pb fuel pn HP0 wr (Lib.hid HG.out.ms.bel)
              go_wp2_with fail
              refine hwk.mono ?_
              rintro e wz ⟨rfl, hbz⟩
              clear hwk
              go_wp2_with fail
              go_ret
              exact ⟨rfl, HG.out.ms.bel.trans (hbz.mono HG.out.ms.bel.size)⟩
            · have hilt : i < 400 := by omega
              have hilt' : (i : Int) < 400 := by omega
              obtain ⟨dn, hdn⟩ : ∃ y, y = m.done := ⟨_, rfl⟩
              rw [← hdn] at c10
              cases dn with
              | true =>
                clear hdn
                have hwk := works_p W pb fuel pn HP0 wr (Lib.hid HG.out.ms.bel)
                go_wp2_with fail
                refine hwk.mono ?_
                rintro e wz ⟨rfl, hbz⟩
                clear hwk
                go_wp2_with fail
                go_ret
                exact ⟨rfl, HG.out.ms.bel.trans (hbz.mono HG.out.ms.bel.size)⟩
              | false =>
                obtain ⟨p, x, hat, hx, hnx⟩ := next_all HV.out (nF := nF) (nR := nR) (by have h1 := HOP.out l (List.mem_of_getElem? HL.out); rw [← HSZ.out.1, ← HSZ.out.2] at h1; exact h1) HG.out.inv hdn.symm
                have HNXT := Lib.hid hnx
                have hmn := mnext_p W ob aF nF kF aR nR kR c f l (leastV f) (grpOf c.f.flatten f) aw nw cw ws step m p x (2 + 65540 * (i : Int)) tv wr HG.out.ms
                  ⟨HC0.out, HL.out, hx, hat, HG.out.inv.1, hdn.symm, HWS.out, rfl, HG.out.bn, by omega, by omega, by omega, HSZ.out.1, HSZ.out.2, by have := HG.out.st; omega, fun l hl => Nat.le_trans ((size_small HSM.out).2.2.1 l hl).1 (by decide), HOP.out, (least_le f).1, fun way => (hnx way).1⟩
                have HMV : Hid (Moves1 x) := Lib.hid (op_moves (nF := nF) (nR := nR) (n := l.length) (by have h1 := HOP.out l (List.mem_of_getElem? HL.out) x (List.mem_of_getElem? hx); rw [← HSZ.out.1, ← HSZ.out.2] at h1; exact h1) (by omega))
                clear hat hx hnx hdn
                go_wp2_with fail
                refine hmn.mono ?_
                rintro e w9 ⟨tv9, way, rfl, hm9⟩
                clear hmn c10
                have HG9 : Hid (GoS W ob (.slice aF nF kF) (.slice aR nR kR) f aw nw cw V l.length (i + 1) (nextM f nR (leastV f) (grpOf c.f.flatten f) way x m) tv9 (step + 1) w9) := Lib.hid (by
                  have h1 := HG.out.st
                  have h2 := next_bnd HMV.out HG.out.bn (least_le f).1 (HNXT.out way).1
                  exact ⟨by omega, hm9, HNXT.out way, h2.up (by omega)⟩)
                have c9 : w9.cell? ⟨ob, 9, none⟩ = some (.bool false) := by
                  have h1 : w9.cell? ⟨ob, 9, none⟩ = some (.bool (nextM f nR (leastV f) (grpOf c.f.flatten f) way x m).wrong) := hm9.row.cell 9
                  rw [(HNXT.out way).1] at h1
                  exact h1
                clear hm9
                go_wp2_with fail
                exact ⟨⟨i + 1, by omega, by go_num, Lib.hid ⟨_, _, _, HG9.out⟩⟩, by simp [RowKit.intOf]; omega⟩
      · have hn' : (1024 : Int) < nw := by omega
        have hwk := works_p W pb fuel pn HP0 _ (Lib.hid HS.out.bel)
        go_wp2_with fail
        refine hwk.mono ?_
        rintro e wz ⟨rfl, hbz⟩
        clear hwk
        go_wp2_with fail
        go_ret
        exact ⟨rfl, HS.out.bel.trans (hbz.mono HS.out.bel.size)⟩
    · have hE0 : E = 17 := hE.trans h0
      subst hE0
      clear hE h0
      have hwk := works_p W pb fuel pn HP0 _ (Lib.hid HS.out.bel)
      go_wp2_with fail
      refine hwk.mono ?_
      rintro e wz ⟨rfl, hbz⟩
      clear hwk
      go_wp2_with fail
      go_ret
      exact ⟨rfl, HS.out.bel.trans (hbz.mono HS.out.bel.size)⟩
theorem opensU8 : Opens Tryd.prog 5 1 VByte := opens_byte Tryd.underlying5 (by kernel_rfl)
theorem goes_top (cs : Array Value) (d : List (List DIns) × List DSta) (z : Int) (a : Option Addr) (n cc : Nat) (l : List UInt8) (W : World) (h0 : VCod W cs.toList d) (hz : (Lit.int .u8 z).wf = true) (h1 : SlOf VByte 1 W (.slice a n cc) l) (h : ∃ b fuel n, PrimsR W b fuel n) :
    Calls Tryd.prog 7 #[.agg cs, .int .u8 z, .slice a n cc] W fun e w' => e = .returned (.bool true) ∧ Below W.heap.size W w' := by
  obtain ⟨aF, nF, kF, aR, nR, kR, c, hcs, hc, hzz, hi⟩ := cod_open h0
  obtain rfl : cs = #[.slice aF nF kF, .slice aR nR kR] := by cases cs; simp_all
  obtain ⟨fq, hfq, rfl⟩ := nat_u8 hz
  have hl := h1.bytes
  have hn := h1.len.1
  subst hn
  exact law_goes aF nF kF aR nR kR c fq hfq a _ cc l W hc (Lib.hid hzz) hl h
end Go.Proofs.YtoddklfblcfoiaaDoor
