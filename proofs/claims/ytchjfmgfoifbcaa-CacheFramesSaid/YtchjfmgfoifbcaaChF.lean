/-
  A cache's Evict and Flush. Conditions: the cache reads as one, its disk's power stays.
-/
import Derived.Test.YtchjfmgfoifbcaaChE
namespace Go.Proofs.Ytchjfmgfoifbcaa
open Go.RowKit
set_option linter.unusedVariables false
set_option linter.unusedSimpArgs false
set_option maxRecDepth 100000

theorem laterW_cell {w : World} {b o : Nat} {v : Value} (h : w.cell? ⟨b, o, none⟩ = some v) : ∀ x : Later Rb w, x.w.cell? ⟨b, o, none⟩ = some v :=
  fun x => (Below.cell (p := ⟨b, o, none⟩) x.later (lt_of_cell h)).trans h
theorem laterW_len {w : World} {c : Nat} {col : Nat → Nat} {b bd bm : Nat} {C : Ch} {at_ : Int → Option Nat} (h : CkIn c col w b C bd bm at_) (ty : TypeId) :
    ∀ x : Later Rb w, (Builtin.len_ #[64] ty #[.map (some bm)]).run Try.prog x.w = .ok (.int .i64 C.ks.length) x.w := fun x =>
  (h.mp.below x.later).len mapT ty
theorem ints_at {w : World} {base g off cap n : Nat} {l : List Int} (h : Own w base 1 (.slice (some ⟨g, off, none⟩) n cap) n (ints l)) {j : Nat} (hj : j < l.length) : w.cell? ⟨g, off + j, none⟩ = some (.int .i64 (l.getD j 0)) := by
  have := h.get j (by rw [ints_length]; exact hj)
  rw [this, ints_get l j hj]
def EvictP (R : Bool → Ch → Prop) (c cd : Nat) (col : Nat → Nat) (w : World) (b bd : Nat) (e : Ending) (w' : World) : Prop := ∃ is C', e = .returned (.tuple #[.bool is, .int .i64 0]) ∧ Hid (R is C' ∧ Left c cd col w b bd C' w')
set_option maxHeartbeats 4000000 in
theorem evict_p (c cd : Nat) (col : Nat → Nat) (b bd bm : Nat) (C : Ch) (at_ : Int → Option Nat) (n N : Nat) (k : Int) (w : World) (h : CkIn c col w b C bd bm at_) (hd : DkAt 62 cd col w bd C.D) (HL : LiveC C n N) (hN : N < 1000000000 - 10) (hcc : ¬ c = cd) (hk64 : k ≤ 9223372036854775807) :
    Calls Try.prog 21 #[.pointer (some ⟨b, 0, none⟩), .int .i64 k] w (EvictP (EvictR C k) c cd col w b bd) := by
  have H := Lib.hid h
  have HD := Lib.hid hd
  have HLL := Lib.hid HL
  have HCC := Lib.hid hcc
  have c3 := h.c3
  have hlen := h.mp.len mapT 3
  have hfew : C.ks.length ≤ 1024 := by have := HL.few; have := HL.mst; omega
  clear h hd HL hcc
  by_cases hz : C.ks = []
  · have hz2 : C.ks.length = 0 := by rw [hz]; rfl
    rw [hz2] at hlen
    have HZ := Lib.hid hz
    clear hz hz2 hfew
    go_enter Try.func21, Try.ntmps21
    go_wp2_with fail
    refine (onC_p c cd col b bd bm C at_ n N w H.out HD.out HLL.out).mono ?_
    rintro e w1 ⟨rfl, rfl⟩
    go_wp2_with fail
    go_ret2
    exact ⟨false, C, rfl, Lib.hid ⟨.inl ⟨.inl HZ.out, rfl, rfl⟩, Left.refl ⟨bm, at_, H.out, HD.out⟩⟩⟩
  have hn0 : 0 < C.ks.length := List.length_pos_iff.2 hz
  clear hz
  obtain ⟨nk, hnk⟩ : ∃ x, x = C.ks.length := ⟨_, rfl⟩
  rw [← hnk] at hlen hn0 hfew
  have HNK := Lib.hid hnk
  clear hnk
  have e0 : ((nk : Int) == 0) = false := by rw [beq_eq_false_iff_ne]; omega
  by_cases hk0 : k < 0
  · go_enter Try.func21, Try.ntmps21
    go_wp2_with fail
    refine (onC_p c cd col b bd bm C at_ n N w H.out HD.out HLL.out).mono ?_
    rintro e w1 ⟨rfl, rfl⟩
    go_wp2_with fail
    go_ret2
    exact ⟨false, C, rfl, Lib.hid ⟨.inl ⟨.inr hk0, rfl, rfl⟩, Left.refl ⟨bm, at_, H.out, HD.out⟩⟩⟩
  have hk0' : (k < 0) = False := eq_false (by omega)
  have hk1 : 0 ≤ k := by omega
  clear hk0
  go_enter Try.func21, Try.ntmps21
  go_wp2_with fail
  refine (onC_p c cd col b bd bm C at_ n N w H.out HD.out HLL.out).mono ?_
  rintro e w1 ⟨rfl, rfl⟩
  have q0 := later_cell H.out.c3
  go_wp2_with fail
  refine wp_region_idx Rb Rb_refl Rb_trans [(0,0),(0,2),(0,3),(0,4),(0,5),(0,6),(1,1),(0,7),(0,8),(0,9),(0,10),(0,11)] (by kernel_rfl) (by kernel_rfl) (by kernel_rfl) ?_
  simp only [pickO, List.getD_cons_succ, List.getD_cons_zero]
  refine wpCan_seg 6 (by kernel_rfl) ?_
  simp only [List.take_succ_cons, List.take_zero, List.drop_succ_cons, List.drop_zero, List.map_cons, List.map_nil]
  iterate 6 (go_big_quiet_step (fail))
  refine wpQuiet_nil ?_
  clear q0 c3 hlen
  have HC1 := Lib.hid (H.out.st (St.fresh (Below.refl _ _).drew (fun _ => False) col) (fun h => h) (fun h => h))
  refine wpCan_list (k := 0) (fun KK hK => ?_) (fun _ => Rb_refl _)
  go_wp2_with fail
  refine (rising_p c col b bd bm C at_ w.drew HC1.out (by rw [← HNK.out]; omega)).mono ?_
  rintro e w2 ⟨v, l, rfl, hp, ho, hb⟩
  go_wp2_with fail
  refine hK _ _ (fun _ => hb) ?_
  clear hK KK
  have hB2 : Below w.heap.size w w2 := (Below.refl w.heap.size w).drew.trans hb
  have HC2 := Lib.hid (H.out.st (St.fresh hB2 (fun _ => False) col) (fun h => h) (fun h => h))
  have HB2 := Lib.hid hB2
  have hll : l.length = nk := by rw [HNK.out]; exact hp.length_eq
  obtain ⟨j, hj⟩ : ∃ j : Nat, j = (k % (nk : Int)).toNat := ⟨_, rfl⟩
  have hj0 : 0 ≤ k % (nk : Int) := Int.emod_nonneg _ (by omega)
  have hjn : k % (nk : Int) < nk := Int.emod_lt_of_pos _ (by omega)
  have hje : k.tmod (nk : Int) = (j : Int) := by rw [Int.tmod_eq_emod_of_nonneg hk1]; omega
  have hjl : j < nk := by omega
  have HP := Lib.hid hp
  obtain ⟨g, off, cap, he, _⟩ := ho.open (by omega) (by decide)
  subst he
  have hcell := ints_at ho (j := j) (by omega)
  obtain ⟨x, hx⟩ : ∃ x, x = l.getD j 0 := ⟨_, rfl⟩
  rw [← hx] at hcell
  have hxk : x ∈ C.ks := hp.mem_iff.1 (by rw [hx, List.getD_eq_getElem?_getD, List.getElem?_eq_getElem (by omega)]; exact List.getElem_mem _)
  have q1 := laterW_cell hcell
  have q2 := laterW_len HC2.out 3
  rw [← HNK.out] at q2
  rw [hll]
  clear hb hB2 hll hj hj0 hp ho hx hcell
  refine wpCan_seg 5 (by kernel_rfl) ?_
  simp only [List.take_succ_cons, List.take_zero, List.drop_succ_cons, List.drop_zero, List.map_cons, List.map_nil]
  iterate 5 (go_big_quiet_step (fail))
  refine wpQuiet_nil ?_
  clear q1 q2 hjn hje hjl
  have D2 := Lib.hid (HD.out.st (St.fresh HB2.out (fun _ => False) col) (fun h => h) (fun h => h))
  have K2 := Lib.hid (St.fresh HB2.out (CD c cd) col)
  have hwf := H.out.mp.wf keyInt x hxk
  obtain ⟨g3, hg, _, _, a, cc, hr, _, _⟩ := HC2.out.fr x hxk
  have hlk := HC2.out.look mapT zeroPfr hwf
  rw [ptrV_some hg] at hlk
  have c3 := HC2.out.c3
  have d3 := fr3 hr
  have hpin := HLL.out.pin x hxk
  obtain ⟨p, hpp⟩ : ∃ p, p = (C.F x).pins := ⟨_, rfl⟩
  rw [← hpp] at d3 hpin
  have hp0 := hpin.1
  have HPP := Lib.hid hpp
  have HXK := Lib.hid hxk
  have HK1 := Lib.hid hk1
  clear hpp hpin hg hr
  unfold wpCan
  by_cases hp : 0 < p
  · go_wp2_with fail
    go_ret2
    exact ⟨false, C, rfl, Lib.hid ⟨.inr ⟨HK1.out, x, HXK.out, .inl ⟨by rw [← HPP.out]; omega, rfl, rfl⟩⟩, col, K2.out, bm, at_, HC2.out, D2.out⟩⟩
  · have HPZ : Hid ((C.F x).pins = 0) := Lib.hid (by rw [← HPP.out]; omega)
    go_wp2_with fail
    refine (out_p c cd col b bd bm C at_ n N x w2 HC2.out D2.out HLL.out (by omega) HCC.out HXK.out).mono ?_
    rintro e w3 ⟨rfl, hL3⟩
    have HL3 := Lib.hid hL3
    clear hL3
    go_wp2_with fail
    go_ret2
    exact ⟨true, outC C x, rfl, Lib.hid ⟨.inr ⟨HK1.out, x, HXK.out, .inr ⟨HPZ.out, rfl, rfl⟩⟩, Left.trans K2.out HL3.out⟩⟩
theorem flushL_app : ∀ (l : List Int) (C : Ch) (k : Int), flushL C (l ++ [k]) = cleanC (wrC (flushL C l) k) k
  | [], C, k => rfl
  | x :: l, C, k => flushL_app l (cleanC (wrC C x) x) k
def FlushP (c cd : Nat) (col : Nat → Nat) (w : World) (b bd : Nat) (C : Ch) (e : Ending) (w' : World) : Prop := e = .returned (.int .i64 0) ∧ ∃ C', Hid (FlushR C C' ∧ Left c cd col w b bd C' w')
set_option maxHeartbeats 4000000 in
theorem flush_p (c cd : Nat) (col : Nat → Nat) (b bd bm : Nat) (C : Ch) (at_ : Int → Option Nat) (n N : Nat) (w : World) (h : CkIn c col w b C bd bm at_) (hd : DkAt 62 cd col w bd C.D) (HL : LiveC C n N) (hN : N < 1000000000 - 10000) (hcc : ¬ c = cd) :
    Calls Try.prog 14 #[.pointer (some ⟨b, 0, none⟩)] w (FlushP c cd col w b bd C) := by
  have H := Lib.hid h
  have HD := Lib.hid hd
  have HLL := Lib.hid HL
  have HCC := Lib.hid hcc
  have hfew : C.ks.length ≤ 1024 := by have := HL.few; have := HL.mst; omega
  clear h hd HL hcc
  go_enter Try.func14, Try.ntmps14
  go_wp2_with fail
  refine (onC_p c cd col b bd bm C at_ n N w H.out HD.out HLL.out).mono ?_
  rintro e w1 ⟨rfl, rfl⟩
  go_wp2_with fail
  refine (rising_p c col b bd bm C at_ w H.out (by omega)).mono ?_
  rintro e w1 ⟨v, l, rfl, hp, ho, hb⟩
  obtain ⟨nl, hnl⟩ : ∃ x, x = l.length := ⟨_, rfl⟩
  rw [← hnl] at ho
  have HNL := Lib.hid hnl
  have hnl2 : nl ≤ 1024 := by rw [hnl, hp.length_eq]; exact hfew
  obtain ⟨al, cl, rfl⟩ := ho.form
  have HSL := Lib.hid ho.sl
  have H1 := Lib.hid (H.out.st (St.new hb (fun _ => False) col 0) (fun h => h) (fun h => h))
  have D1 := Lib.hid (HD.out.st (St.new hb (fun _ => False) col 0) (fun h => h) (fun h => h))
  have K1 := Lib.hid (St.new hb (CD c cd) col 0)
  have HCL : Hid (∀ g, (Value.slice al nl cl).ownBlock = some g → recol col w.heap.size 0 g = 0) := Lib.hid (fun g hg => recol_ge (ho.lt g hg))
  have HP := Lib.hid hp
  have HNZ : Hid (c ≠ 0 ∧ cd ≠ 0) := Lib.hid ⟨H.out.nz, HD.out.nz2⟩
  clear ho hb hnl hp
  generalize recol col w.heap.size 0 = col1 at H1 D1 K1 HCL
  go_wp2_with fail
  go_loopw [15] (fun v15 wr => ∃ i colr, i ≤ nl ∧ v15 = .int .i64 (i : Nat) ∧ Hid (St (CD c cd) col1 w1 colr wr) ∧ Hid (CkIn c colr wr b (flushL C (l.take i)) bd bm at_) ∧ Hid (DkAt 62 cd colr wr bd (flushL C (l.take i)).D)) (fun v15 _ => nl - (intOf v15).toNat)
  case atStart => exact ⟨0, col1, Nat.zero_le _, rfl, Lib.hid (St.refl _ _ _), by rw [List.take_zero]; exact H1, by rw [List.take_zero]; exact D1⟩
  case round =>
    obtain ⟨i, colr, hi, rfl, KR, HR, DR⟩ := hrel
    have HLV : Hid (LiveC (flushL C (l.take i)) n (N + 2 * 1024)) := Lib.hid ((flush_live (l.take i) HLL.out (fun k hk => HP.out.mem_iff.1 (List.mem_of_mem_take hk))).1.le (by rw [List.length_take]; have := HNL.out; omega))
    have HKS : Hid ((flushL C (l.take i)).ks = C.ks) := Lib.hid (flush_live (l.take i) HLL.out (fun k hk => HP.out.mem_iff.1 (List.mem_of_mem_take hk))).2.1
    by_cases hin : i = nl
    · subst hin
      have HTL : Hid (l.take i = l) := Lib.hid (by rw [HNL.out]; exact List.take_length)
      have c0 := HR.out.c0
      have HBAR := Lib.hid HLV.out.D.bar.1
      go_wp2_with fail
      refine (barrier_p cd colr bd (flushL C (l.take i)).D (N + 2 * 1024) wr DR.out HLV.out.D.fits (by omega) 0 (Lib.hid HBAR.out) (barrierD (flushL C (l.take i)).D) (Lib.hid rfl)).mono ?_
      rintro e w5 ⟨rfl, col5, k5, h5⟩
      have HF : Hid (FlushP c cd col w b bd C (.returned (.int .i64 0)) w5) := Lib.hid ⟨rfl, flushC C l, Lib.hid ⟨⟨l, HP.out, rfl⟩, col5, (K1.out.trans KR.out).trans (k5.mono (fun _ h => .inr h)), bm, at_, by
        have := (HR.out.st k5 (fun e => HNZ.out.2 e.symm) HCC.out).withD (barrierD (flushL C (l.take i)).D)
        rw [HTL.out] at this
        exact this, by rw [HTL.out] at h5; exact h5⟩⟩
      clear k5 h5
      go_wp2_with fail
      go_ret
      exact HF.out
    · have hlt : i < nl := by omega
      have hlt' : (i : Int) < nl := by omega
      have hli : i < l.length := by rw [← HNL.out]; exact hlt
      obtain ⟨x, hx⟩ : ∃ x, x = l.getD i 0 := ⟨_, rfl⟩
      have HTS : Hid (l.take (i + 1) = l.take i ++ [x]) := Lib.hid (by rw [List.take_succ_eq_append_getElem hli, hx, List.getD_eq_getElem?_getD, List.getElem?_eq_getElem hli]; rfl)
      have hxk : x ∈ C.ks := HP.out.mem_iff.1 (by rw [hx, List.getD_eq_getElem?_getD, List.getElem?_eq_getElem hli]; exact List.getElem_mem _)
      have hsl := HSL.out.mods0 KR.out.mods (fun _ g hg => by rw [HCL.out g hg]; rintro (e | e); exact HNZ.out.1 e.symm; exact HNZ.out.2 e.symm)
      obtain ⟨ga, oa, hae, hcell⟩ : ∃ ga oa, al = some ⟨ga, oa, none⟩ ∧ wr.cell? ⟨ga, oa + i, none⟩ = some (.int .i64 x) := by
        obtain ⟨_, a', c', he, _, _, _, hall⟩ := hsl
        cases he
        obtain ⟨ga, oa, e1, e2⟩ := hall i (.int .i64 x) (by rw [ints_get l i hli, hx])
        exact ⟨ga, oa, e1, e2⟩
      subst hae
      have HXK := Lib.hid hxk
      have hxk2 : x ∈ (flushL C (l.take i)).ks := by rw [HKS.out]; exact hxk
      clear hsl hx hli hxk
      go_wp2_with fail
      refine (cwrite_p c cd colr b bd bm (flushL C (l.take i)) at_ n (N + 2 * 1024) x wr HR.out DR.out HLV.out (by omega) hxk2).mono ?_
      rintro e w5 ⟨rfl, col5, k5, h5⟩
      have H5 := Lib.hid ((HR.out.st k5 (fun e => HNZ.out.2 e.symm) HCC.out).withD (wrC (flushL C (l.take i)) x).D)
      have K5 : Hid (St (CD c cd) col1 w1 col5 w5) := Lib.hid (KR.out.trans (k5.mono (fun _ h => .inr h)))
      have D5 := Lib.hid h5
      have hwf := H5.out.mp.wf keyInt x hxk2
      obtain ⟨g3, hg, _, _, a, cc, hr, hcg, hi5⟩ := H5.out.fr x hxk2
      have hlk := H5.out.look mapT zeroPfr hwf
      rw [ptrV_some hg] at hlk
      have c3 := H5.out.c3
      have HG3 := Lib.hid hg
      have HX2 := Lib.hid hxk2
      have HI5 := Lib.hid hi5
      have HCG := Lib.hid hcg
      clear k5 h5 hg hi5 hcell hcg hxk2
      go_wp2_with (refine wpL_storeAt rfl _ _ _ rfl rfl rfl rfl rfl (by kernel_rfl) hr rfl ?_; intro w6 hg6 hr6; have HG6 := Lib.hid hg6; have HR6 : Hid (Row w6 g3 70 (frow a cc { (flushL C (l.take i)).F x with dirty := false })) := Lib.hid hr6; clear hg6 hr6 hr hlk c3)
      have hm6 : Mods (fun y => y = g3) w5 w6 := (Mods.grown HG6.out).mono (fun y hy => (Option.some.inj hy).symm)
      have k6 : St (fun y => y = c) col5 w5 col5 w6 := St.onlyX hm6 (fun _ _ => rfl) HCG.out
      have H6 : Hid (CkIn c col5 w6 b (flushL C (l.take (i + 1))) bd bm at_) := Lib.hid (by
        rw [HTS.out, flushL_app]
        exact H5.out.poke (f := { (flushL C (l.take i)).F x with dirty := false }) HX2.out HG3.out hm6 (fun _ _ => rfl) HR6.out (HI5.out.st k6 (fun e => HNZ.out.1 e.symm)))
      have D6 : Hid (DkAt 62 cd col5 w6 bd (flushL C (l.take (i + 1))).D) := Lib.hid (by
        rw [HTS.out, flushL_app]
        exact D5.out.st k6 (fun e => HNZ.out.1 e.symm) (fun e => HCC.out e.symm))
      exact ⟨⟨i + 1, col5, by omega, by go_num, Lib.hid (K5.out.trans (k6.mono (fun _ h => .inl h))), H6, D6⟩, by simp [intOf]; omega⟩
end Go.Proofs.Ytchjfmgfoifbcaa
