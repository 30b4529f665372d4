/-
  A cache's inner steps: on, may, write, use, out. Conditions: the cache reads as one, its disk's power stays.
-/
import Derived.Test.YtchjfmgfoifbcaaChM
namespace Go.Proofs.Ytchjfmgfoifbcaa
open Go.RowKit
set_option linter.unusedVariables false
set_option linter.unusedSimpArgs false
set_option maxRecDepth 100000

theorem zeroPfr (w : World) : (zeroValue 71).run Try.prog w = .ok (.pointer none) w := by kernel_rfl
theorem mapT : Try.prog.underlying 64 = some (.map 3 71) := Try.underlying64
theorem con_p (b bd : Nat) (w : World) (c0 : w.cell? ⟨b, 0, none⟩ = some (.pointer (some ⟨bd, 0, none⟩))) (c2 : w.cell? ⟨bd, 2, none⟩ = some (.bool false)) :
    Calls Try.prog 31 #[.pointer (some ⟨b, 0, none⟩)] w fun e w' => e = .returned (.int .i64 0) ∧ w = w' := by
  go_enter Try.func31, Try.ntmps31
  go_wp2_with fail
  refine (dead_any bd false w c2).mono ?_
  rintro e w1 ⟨rfl, rfl⟩
  go_wp2_with fail
  go_ret
  exact ⟨rfl, rfl⟩
theorem cmay_p (b bd : Nat) (aS : Option Addr) (n cS : Nat) (s : Int) (w : World) (c0 : w.cell? ⟨b, 0, none⟩ = some (.pointer (some ⟨bd, 0, none⟩))) (c2 : w.cell? ⟨bd, 2, none⟩ = some (.bool false)) (c1 : w.cell? ⟨bd, 0, none⟩ = some (.slice aS n cS))
    (E : Int) (HE : Hid (E = mayE n s)) : Calls Try.prog 37 #[.pointer (some ⟨b, 0, none⟩), .int .i64 s] w fun e w' => e = .returned (.int .i64 E) ∧ w = w' := by
  by_cases h0 : s < 0
  · obtain rfl : E = 1 := HE.out.trans (by unfold mayE; rw [if_neg (by omega)])
    go_enter Try.func37, Try.ntmps37
    go_wp2_with fail
    refine (con_p b bd w c0 c2).mono ?_
    rintro e w1 ⟨rfl, rfl⟩
    go_wp2_with fail
    go_ret
    exact ⟨rfl, rfl⟩
  have h0' : 0 ≤ s := by omega
  by_cases h1 : s < (n : Int)
  · obtain rfl : E = 0 := HE.out.trans (by unfold mayE; rw [if_pos (by omega)])
    go_enter Try.func37, Try.ntmps37
    go_wp2_with fail
    refine (con_p b bd w c0 c2).mono ?_
    rintro e w1 ⟨rfl, rfl⟩
    go_wp2_with fail
    refine (sectors_any bd aS n cS w c1).mono ?_
    rintro e w1 ⟨rfl, rfl⟩
    have h2 : ¬ (n : Int) ≤ s := by omega
    go_wp2_with fail
    go_ret
    exact ⟨rfl, rfl⟩
  · obtain rfl : E = 1 := HE.out.trans (by unfold mayE; rw [if_neg (by omega)])
    go_enter Try.func37, Try.ntmps37
    go_wp2_with fail
    refine (con_p b bd w c0 c2).mono ?_
    rintro e w1 ⟨rfl, rfl⟩
    go_wp2_with fail
    refine (sectors_any bd aS n cS w c1).mono ?_
    rintro e w1 ⟨rfl, rfl⟩
    have h2 : (n : Int) ≤ s := by omega
    go_wp2_with fail
    go_ret
    exact ⟨rfl, rfl⟩
theorem later_look {w : World} {c : Nat} {col : Nat → Nat} {b bd bm : Nat} {C : Ch} {at_ : Int → Option Nat} (h : CkIn c col w b C bd bm at_) {k : Int} (hk : (Lit.int .i64 k).wf = true) {v : Value} (hv : ptrV (at_ k) = v) :
    ∀ x : Later Rb w.drew, (Instr.lookup 64 (.map (some bm)) (.int .i64 k) false).run Try.prog x.w = .ok v x.w := fun x => by
  rw [← hv]
  exact ((h.mp.below (Below.refl _ _).drew).below x.later).look keyInt mapT (zeroPfr _) hk
set_option maxHeartbeats 1000000 in
theorem cwrite_p (c cd : Nat) (col : Nat → Nat) (b bd bm : Nat) (C : Ch) (at_ : Int → Option Nat) (n N : Nat) (k : Int) (w : World) (h : CkIn c col w b C bd bm at_) (hd : DkAt 62 cd col w bd C.D) (HL : LiveC C n N) (hN : N < 1000000000) (hk : k ∈ C.ks) :
    Calls Try.prog 33 #[.pointer (some ⟨b, 0, none⟩), .int .i64 k] w fun e w' => e = .returned (.int .i64 0) ∧ Made 62 cd col w bd (wrC C k).D w' := by
  obtain ⟨g, hg, hgb, hgm, a, cc, hr, _, hi⟩ := h.fr k hk
  have hwf := h.mp.wf keyInt k hk
  have c0 := h.c0
  have c3 := h.c3
  have hlk := h.look mapT zeroPfr hwf
  rw [ptrV_some hg] at hlk
  have hd0 := fr0 hr
  have hd2 := fr2 hr
  have q0 := later_cell c0
  have q1 := later_cell hd0
  have HW := Lib.hid (fun e => HL.write hk e)
  have HWR : Hid ((wrC C k).D = if (C.F k).dirty = true then writeD C.D k (C.F k).b else C.D) := Lib.hid rfl
  have HI := Lib.hid hi.1
  have HD := Lib.hid hd
  have HF := Lib.hid HL.D.fits
  have hlen : (C.F k).b.length ≤ 256 := by rw [HL.frb k hk]; exact Nat.le_refl _
  clear h hr hi hd HL hk hg
  generalize (wrC C k).D = T at HWR ⊢
  cases hdd : (C.F k).dirty with
  | false =>
    rw [hdd] at hd2
    obtain rfl : T = C.D := HWR.out.trans (by rw [hdd]; rfl)
    clear hdd HWR HW
    go_enter Try.func33, Try.ntmps33
    go_wp2_with fail
    go_ret
    exact ⟨rfl, Made.refl HD.out⟩
  | true =>
    rw [hdd] at hd2
    have HT : Hid (T = writeD C.D k (C.F k).b) := Lib.hid (HWR.out.trans (by rw [hdd]; rfl))
    have HE := Lib.hid (HW.out hdd)
    clear hdd HWR HW
    obtain ⟨nb, hnb⟩ : ∃ nb, nb = (C.F k).b.length := ⟨_, rfl⟩
    rw [← hnb] at q1 hd0 HI hlen
    clear hnb
    go_enter Try.func33, Try.ntmps33
    go_wp2_with fail
    refine wp_region_idx Rb Rb_refl Rb_trans [(0,0),(0,1),(0,2),(0,3),(0,4),(0,5),(0,6),(0,7),(0,8),(2,9),(2,10)] (by kernel_rfl) (by kernel_rfl) (by kernel_rfl) ?_
    simp only [pickO, List.getD_cons_succ, List.getD_cons_zero]
    refine wpCan_seg 9 (by kernel_rfl) ?_
    simp only [List.take_succ_cons, List.take_zero, List.drop_succ_cons, List.drop_zero, List.map_cons, List.map_nil]
    iterate 9 (go_big_quiet_step (fail))
    refine wpQuiet_nil ?_
    clear q0 q1
    have HD2 := Lib.hid (HD.out.st (St.fresh (Below.refl _ _).drew (fun _ => False) col) (fun h => h) (fun h => h))
    refine wpCan_list (k := 1) (fun KK hK => ?_) (fun h => by cases h)
    go_wp2_with fail
    refine (write_p cd col bd C.D k N a nb cc (C.F k).b w.drew HD2.out HF.out (by omega) HI.out.drew 0 HE T HT).mono ?_
    rintro e w1 ⟨rfl, col1, k1, h1⟩
    have HM : Hid (Made 62 cd col w bd T w1) := Lib.hid ⟨col1, (St.fresh (Below.refl _ _).drew _ col).trans k1, h1⟩
    clear k1 h1
    go_wp2_with fail
    refine hK _ _ (fun h => by cases h) ?_
    clear hK KK
    refine wpCan_list (k := 1) (fun KK hK => ?_) (fun h => by cases h)
    go_wp2_with fail
    refine hK _ _ (fun h => by cases h) ?_
    clear hK KK
    unfold wpCan
    go_wp2_with fail
    go_ret
    exact ⟨rfl, HM.out⟩
set_option maxHeartbeats 1000000 in
/-- a sector's frame is used -/
theorem use_p (c : Nat) (col : Nat → Nat) (b bd bm : Nat) (C : Ch) (at_ : Int → Option Nat) (s : Int) (g : Nat) (w : World) (h : CkIn c col w b C bd bm at_) (hk : s ∈ C.ks) (hg : at_ s = some g) (hck : 0 ≤ C.clock ∧ C.clock ≤ 1000000000) :
    Calls Try.prog 39 #[.pointer (some ⟨b, 0, none⟩), .int .i64 s] w fun e w' => e = .returned (.pointer (some ⟨g, 0, none⟩)) ∧ CkIn c col w' b (useC C s) bd bm at_ ∧ St (fun x => x = c) col w col w' := by
  obtain ⟨g', hg', hgb, hgm, a, cc, hr, hcg, hi⟩ := h.fr s hk
  have : g' = g := Option.some.inj (hg'.symm.trans hg)
  subst this
  have hwf := h.mp.wf keyInt s hk
  have c2 := h.c2
  have hrow := h.row
  have H := Lib.hid h
  have HR := Lib.hid hr
  have HI := Lib.hid hi
  have hck1 := hck.1
  have hck2 := hck.2
  clear h hr hi hck
  go_enter Try.func39, Try.ntmps39
  go_upto_region 2 with (refine wpL_storeAt rfl _ _ _ rfl rfl rfl rfl rfl (by kernel_rfl) hrow rfl ?_; intro w2 hg2 hr2; have HG2 := Lib.hid hg2; have HR2 : Hid (Row w2 b 66 [.pointer (some ⟨bd, 0, none⟩), .int .i64 C.most, .int .i64 (C.clock + 1), .map (some bm)]) := Lib.hid hr2; clear hg2 hr2 hrow c2)
  have hm2 : Mods (fun x => x = b) w w2 := (Mods.grown HG2.out).mono (fun x hx => (Option.some.inj hx).symm)
  have H2 := Lib.hid (H.out.tick hm2 (fun _ _ => rfl) HR2.out)
  have R2 := Lib.hid (HR.out.mods hm2 hgb)
  have k2 : St (fun x => x = c) col w col w2 := St.onlyX hm2 (fun _ _ => rfl) H.out.cb
  have K2 := Lib.hid k2
  have q0 := later_cell H2.out.c3
  have q1 := later_look H2.out hwf (ptrV_some hg)
  have q2 : ∀ x : Later Rb w2.drew, x.w.cell? ⟨b, 2, none⟩ = some (.int .i64 (C.clock + 1)) := later_cell H2.out.c2
  have hr2 : Row w2.drew g' 70 (frow a cc (C.F s)) := R2.out.drew
  clear hm2 k2
  go_frame
  refine wp_region_idx Rb Rb_refl Rb_trans [(0,0),(0,1),(0,2),(0,3),(0,4),(0,5),(0,6),(0,7),(0,8),(0,9),(0,10),(0,11),(2,12)] (by kernel_rfl) (by kernel_rfl) (by kernel_rfl) ?_
  simp only [pickO, List.getD_cons_succ, List.getD_cons_zero]
  refine wpCan_seg 12 (by kernel_rfl) ?_
  simp only [List.take_succ_cons, List.take_zero, List.drop_succ_cons, List.drop_zero, List.map_cons, List.map_nil]
  iterate 12 (go_big_quiet_step (fail))
  refine wpQuiet_nil ?_
  clear q0 q1 q2
  refine wpCan_list (k := 1) (fun KK hK => ?_) (fun h => by cases h)
  refine wpL_storeAt rfl _ _ _ rfl rfl rfl rfl rfl (by kernel_rfl) hr2 rfl ?_
  intro w3 hg3 hr3
  have HG3 := Lib.hid hg3
  have HR3 : Hid (Row w3 g' 70 (frow a cc { C.F s with used := C.clock + 1 })) := Lib.hid hr3
  clear hg3 hr3 hr2
  refine hK _ _ (fun h => by cases h) ?_
  clear hK KK
  have hm3 : Mods (fun x => x = g') w2 w3 := (Mods.fresh (Below.refl _ _).drew _).trans ((Mods.grown HG3.out).mono (fun x hx => (Option.some.inj hx).symm))
  have k3 : St (fun x => x = c) col w2 col w3 := St.onlyX hm3 (fun _ _ => rfl) hcg
  have hnz : c ≠ 0 := H.out.nz
  have H3 : Hid (CkIn c col w3 b (useC C s) bd bm at_) := Lib.hid (H2.out.poke (f := { C.F s with used := C.clock + 1 }) hk hg hm3 (fun _ _ => rfl) HR3.out (HI.out.st (K2.out.trans k3) (fun e => hnz e.symm)))
  have K3 := Lib.hid (K2.out.trans k3)
  clear hm3 k3 hnz
  have c3 := H3.out.c3
  have hlk := H3.out.look mapT zeroPfr hwf
  rw [ptrV_some hg] at hlk
  unfold wpCan
  go_wp2_with fail
  go_ret
  exact ⟨rfl, H3.out, K3.out⟩
/-- a frame is put out -/
theorem out_p (c cd : Nat) (col : Nat → Nat) (b bd bm : Nat) (C : Ch) (at_ : Int → Option Nat) (n N : Nat) (k : Int) (w : World) (h : CkIn c col w b C bd bm at_) (hd : DkAt 62 cd col w bd C.D) (HL : LiveC C n N) (hN : N < 1000000000) (hcc : ¬ c = cd) (hk : k ∈ C.ks) :
    Calls Try.prog 40 #[.pointer (some ⟨b, 0, none⟩), .int .i64 k] w fun e w' => e = .returned (.int .i64 0) ∧ Left c cd col w b bd (outC C k) w' := by
  have hwf := h.mp.wf keyInt k hk
  have hnz := h.nz
  have H := Lib.hid h
  have HD := Lib.hid hd
  clear h hd
  go_enter Try.func40, Try.ntmps40
  go_wp2_with fail
  refine (cwrite_p c cd col b bd bm C at_ n N k w H.out HD.out HL hN hk).mono ?_
  rintro e w1 ⟨rfl, col1, k1, h1⟩
  have hnd : ¬ (fun x => x = cd) 0 := fun e => by
    obtain ⟨aS, cS, aP, cP, sv, pv, hh⟩ := h1
    exact hh.nz e.symm
  have H1 := Lib.hid (H.out.st k1 hnd hcc)
  have HD1 := Lib.hid h1
  have K1 : Hid (St (CD c cd) col w col1 w1) := Lib.hid (k1.mono (fun _ h => .inr h))
  have c3 := H1.out.c3
  have hmp := H1.out.mp
  clear k1 h1 hnd H HD
  go_wp2_with (at_delete; refine wpL_del hmp keyInt mapT rfl _ _ rfl rfl rfl hwf ?_; intro w2 hm2 hg2; have HM2 := Lib.hid hm2; have HG2 := Lib.hid hg2; clear hm2 hg2 hmp c3)
  go_ret
  have hm2 : Mods (fun x => x = bm) w1 w2 := (Mods.grown HG2.out).mono (fun x hx => (Option.some.inj hx).symm)
  have k2 : St (fun x => x = c) col1 w1 col1 w2 := St.onlyX hm2 (fun _ _ => rfl) H1.out.cm
  exact ⟨rfl, col1, K1.out.trans (k2.mono (fun _ h => .inl h)), bm, upd at_ k none, (H1.out.del hm2 HM2.out).withD (wrC C k).D, HD1.out.st k2 (fun e => hnz e.symm) (fun e => hcc e.symm)⟩
end Go.Proofs.Ytchjfmgfoifbcaa
