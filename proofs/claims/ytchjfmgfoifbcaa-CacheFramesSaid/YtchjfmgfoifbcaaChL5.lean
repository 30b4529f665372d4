/-
  CacheFrames, walked. Conditions: the things done read.
-/
import Derived.Test.YtchjfmgfoifbcaaChU
namespace Go.Proofs.Ytchjfmgfoifbcaa
open Go.RowKit
set_option linter.unusedVariables false
set_option linter.unusedSimpArgs false
set_option maxRecDepth 100000

theorem two12 : ¬ (6 : Nat) = 2 := by decide
/-- the two arrays, of colour 8 -/
structure Two (col : Nat → Nat) (w : World) (gD gC : Nat) (x y : List Value) : Prop where
  rd : Row w gD 26 x
  rc : Row w gC 28 y
  cd : col gD = 8
  cc : col gC = 8
  ne : gD ≠ gC
theorem Two.st {Q : Nat → Prop} {col col' : Nat → Nat} {w w' : World} {gD gC : Nat} {x y : List Value} (h : Two col w gD gC x y) (k : St Q col w col' w') (h8 : ¬ Q 8) : Two col' w' gD gC x y :=
  ⟨h.rd.mods k.mods (by rw [h.cd]; exact h8), h.rc.mods k.mods (by rw [h.cc]; exact h8), (k.ext _ h.rd.lt).trans h.cd, (k.ext _ h.rc.lt).trans h.cc, h.ne⟩
set_option maxHeartbeats 16000000 in
theorem cacheFrames_walk (F G : Nat) (hF : F < 256) (hG : G < 256) (a : Option Addr) (nO c : Nat) (L : List Opr) (w : World) (hl : SlOf VOp 5 w (.slice a nO c) L) :
    Calls Try.prog 3 #[.int .u8 (F : Int), .int .u8 (G : Int), .slice a nO c] w fun e w' => e = .returned (.bool true) ∧ Below w.heap.size w w' := by
  obtain ⟨r, hr⟩ : ∃ r, r = F % 30 := ⟨_, rfl⟩
  obtain ⟨q, hq⟩ : ∃ q, q = G % 30 := ⟨_, rfl⟩
  have hFt : ((F : Int).tmod 30) = (r : Int) := by rw [hr, Int.tmod_eq_emod_of_nonneg (by omega)]; rfl
  have hGt : ((G : Int).tmod 30) = (q : Int) := by rw [hq, Int.tmod_eq_emod_of_nonneg (by omega)]; rfl
  have hFe : ((F : Int) % 30) = (r : Int) := by omega
  have hGe : ((G : Int) % 30) = (q : Int) := by omega
  obtain ⟨m1, hm1⟩ : ∃ m, m = r + 1 := ⟨_, rfl⟩
  obtain ⟨m2, hm2⟩ : ∃ m, m = q + 1 := ⟨_, rfl⟩
  have e1 : 1 + (r : Int) = (m1 : Int) := by omega
  have e2 : 1 + (q : Int) = (m2 : Int) := by omega
  have HM1 : Hid (1 ≤ m1 ∧ m1 ≤ 30) := Lib.hid (by omega)
  have HM2 : Hid (1 ≤ m2 ∧ m2 ≤ 30) := Lib.hid (by omega)
  clear hr hq hm1 hm2
  have HN := Lib.hid hl.len.1
  go_enter Try.func3, Try.ntmps3
  go_wp2_with fail
  refine (vast_any a nO c L w hl).mono ?_
  rintro e w1 ⟨Bv, rfl, HV, hb1⟩
  cases Bv with
  | true =>
    go_wp2_with fail
    refine (works_any w1).mono ?_
    rintro e wz ⟨rfl, hbz⟩
    go_wp2_with fail
    go_ret
    exact ⟨rfl, (hb1).trans (hbz.mono (hb1).size)⟩
  | false =>
  have HF : Hid (FewO L) := Lib.hid (HV.out rfl)
  have hn120 : nO ≤ 120 := by rw [HN.out]; exact HF.out.1
  clear HV
  go_upto_region 5 with fail
  obtain ⟨w2, hw2⟩ : ∃ x, x = (w1.alloc (.cells #[.pointer none, .pointer none] 26)).alloc (.cells #[.pointer none, .pointer none] 28) := ⟨_, rfl⟩
  rw [← hw2]
  have hb2 : Below w1.heap.size w1 w2 := by rw [hw2]; exact ((Below.refl _ _).alloc (Nat.le_refl _) _).alloc (by simp) _
  have hrd : Row w2 w1.heap.size 26 [.pointer none, .pointer none] := by rw [hw2]; exact (Row.new w1 [.pointer none, .pointer none] 26).alloc _
  have hrc : Row w2 (w1.heap.size + 1) 28 [.pointer none, .pointer none] := by
    rw [hw2]
    have := Row.new (w1.alloc (.cells #[.pointer none, .pointer none] 26)) [.pointer none, .pointer none] 28
    rw [World.size_alloc] at this
    exact this
  obtain ⟨col2, hcol2⟩ : ∃ x, x = recol col0 w1.heap.size 8 := ⟨_, rfl⟩
  have K2 : Hid (St NZ col0 w col2 w2) := Lib.hid (by rw [hcol2]; exact (St.fresh hb1 NZ col0).trans (St.new hb2 NZ col0 8))
  have T2 : Hid (Two col2 w2 w1.heap.size (w1.heap.size + 1) [.pointer none, .pointer none] [.pointer none, .pointer none]) := Lib.hid (by
    rw [hcol2]
    exact ⟨hrd, hrc, recol_ge (Nat.le_refl _), recol_ge (Nat.le_succ _), by omega⟩)
  clear hw2 hcol2 hrd hrc hb2 hb1
  try go_frame
  go_wp2_with fail
  go_loopw [9] (fun v9 wr => (v9 = .int .i64 0 ∧ wr = w2) ∨ (v9 = .int .i64 1 ∧ ∃ col d1 b1, Hid (St NZ col0 w col wr) ∧ Hid (CkAt 5 1 col wr b1 d1 (newC (newD 20) m1)) ∧ Hid (Two col wr w1.heap.size (w1.heap.size + 1) [.pointer (some ⟨d1, 0, none⟩), .pointer none] [.pointer (some ⟨b1, 0, none⟩), .pointer none])) ∨
    (v9 = .int .i64 2 ∧ ∃ col d1 b1 d2 b2, Hid (St NZ col0 w col wr) ∧ Hid (CkAt 5 1 col wr b1 d1 (newC (newD 20) m1)) ∧ Hid (CkAt 6 2 col wr b2 d2 (newC (newD 20) m2)) ∧ Hid (Two col wr w1.heap.size (w1.heap.size + 1) [.pointer (some ⟨d1, 0, none⟩), .pointer (some ⟨d2, 0, none⟩)] [.pointer (some ⟨b1, 0, none⟩), .pointer (some ⟨b2, 0, none⟩)]))) (fun v9 _ => 2 - (intOf v9).toNat)
  case atStart => exact .inl ⟨rfl, rfl⟩
  case round =>
    rcases hrel with ⟨rfl, rfl⟩ | ⟨rfl, col, d1, b1, K, H1, T⟩ | ⟨rfl, col, d1, b1, d2, b2, K, H1, H2, T⟩
    · go_wp2_with fail
      refine (dnew_p 20 (by decide) 1 (by decide) wr col2).mono ?_
      rintro e w3 ⟨d1, rfl, col3, k3, h3⟩
      have K3 := Lib.hid (K2.out.trans (k3.mono (fun _ h => h.elim)))
      have T3 := Lib.hid (T2.out.st k3 (fun h => h))
      have H3 := Lib.hid h3
      clear k3 h3 K2 T2
      go_wp2_with fail
      refine (cnew_p 5 1 (by decide) col3 d1 (newD 20) m1 w3 H3.out (by have := HM1.out; omega)).mono ?_
      rintro e w4 ⟨b1, rfl, col4, k4, h4⟩
      have K4 := Lib.hid (K3.out.trans (k4.mono (fun _ h => h.elim)))
      have T4 := Lib.hid (T3.out.st k4 (fun h => h))
      have H4 : Hid (CkAt 5 1 col4 w4 b1 d1 (newC (newD 20) m1)) := Lib.hid h4
      clear k4 h4 K3 T3 H3
      go_wp2_with (first | (refine wpL_storeAt rfl _ _ _ rfl (v := .pointer (some ⟨d1, 0, none⟩)) rfl rfl rfl rfl (by kernel_rfl) T4.out.rd rfl ?_; intro w5 hg5 hr5) | (refine wpL_storeAt rfl _ _ _ rfl (v := .pointer (some ⟨b1, 0, none⟩)) rfl rfl rfl rfl (by kernel_rfl) (T4.out.rc.grown hg5 (fun e => T4.out.ne (Option.some.inj e).symm)) rfl ?_; intro w6 hg6 hr6))
      have k5 : St (fun x => x = 8) col4 w4 col4 w5 := St.one hg5 _ _ T4.out.cd
      have k6 : St (fun x => x = 8) col4 w5 col4 w6 := St.one hg6 _ _ T4.out.cc
      have k56 := k5.trans k6
      have T6 : Hid (Two col4 w6 w1.heap.size (w1.heap.size + 1) [.pointer (some ⟨d1, 0, none⟩), .pointer none] [.pointer (some ⟨b1, 0, none⟩), .pointer none]) := Lib.hid ⟨hr5.grown hg6 (fun e => T4.out.ne (Option.some.inj e)), hr6, T4.out.cd, T4.out.cc, T4.out.ne⟩
      have K6 := Lib.hid (K4.out.trans (k56.mono (fun _ h => by rw [h]; exact Nat.succ_ne_zero _)))
      have H6 := Lib.hid (H4.out.st k56 (by decide) (by decide) (by decide))
      clear k5 k6 k56 hg5 hg6 hr5 hr6 K4 T4 H4
      exact ⟨.inr (.inl ⟨rfl, col4, d1, b1, K6, H6, T6⟩), by decide⟩
    · go_wp2_with fail
      refine (dnew_p 20 (by decide) 2 (by decide) wr col).mono ?_
      rintro e w3 ⟨d2, rfl, col3, k3, h3⟩
      have K3 := Lib.hid (K.out.trans (k3.mono (fun _ h => h.elim)))
      have T3 := Lib.hid (T.out.st k3 (fun h => h))
      have G3 := Lib.hid (H1.out.st k3 (fun h => h) (fun h => h) (fun h => h))
      have H3 := Lib.hid h3
      clear k3 h3 K T H1
      go_wp2_with fail
      refine (cnew_p 6 2 (by decide) col3 d2 (newD 20) m2 w3 H3.out (by have := HM2.out; omega)).mono ?_
      rintro e w4 ⟨b2, rfl, col4, k4, h4⟩
      have K4 := Lib.hid (K3.out.trans (k4.mono (fun _ h => h.elim)))
      have T4 := Lib.hid (T3.out.st k4 (fun h => h))
      have G4 := Lib.hid (G3.out.st k4 (fun h => h) (fun h => h) (fun h => h))
      have H4 : Hid (CkAt 6 2 col4 w4 b2 d2 (newC (newD 20) m2)) := Lib.hid h4
      clear k4 h4 K3 T3 H3 G3
      go_wp2_with (first | (refine wpL_storeAt rfl _ _ _ rfl (v := .pointer (some ⟨d2, 0, none⟩)) rfl rfl rfl rfl (by kernel_rfl) T4.out.rd rfl ?_; intro w5 hg5 hr5) | (refine wpL_storeAt rfl _ _ _ rfl (v := .pointer (some ⟨b2, 0, none⟩)) rfl rfl rfl rfl (by kernel_rfl) (T4.out.rc.grown hg5 (fun e => T4.out.ne (Option.some.inj e).symm)) rfl ?_; intro w6 hg6 hr6))
      have k5 : St (fun x => x = 8) col4 w4 col4 w5 := St.one hg5 _ _ T4.out.cd
      have k6 : St (fun x => x = 8) col4 w5 col4 w6 := St.one hg6 _ _ T4.out.cc
      have k56 := k5.trans k6
      have T6 : Hid (Two col4 w6 w1.heap.size (w1.heap.size + 1) [.pointer (some ⟨d1, 0, none⟩), .pointer (some ⟨d2, 0, none⟩)] [.pointer (some ⟨b1, 0, none⟩), .pointer (some ⟨b2, 0, none⟩)]) := Lib.hid ⟨hr5.grown hg6 (fun e => T4.out.ne (Option.some.inj e)), hr6, T4.out.cd, T4.out.cc, T4.out.ne⟩
      have K6 := Lib.hid (K4.out.trans (k56.mono (fun _ h => by rw [h]; exact Nat.succ_ne_zero _)))
      have G6 := Lib.hid (G4.out.st k56 (by decide) (by decide) (by decide))
      have H6 := Lib.hid (H4.out.st k56 (by decide) (by decide) (by decide))
      clear k5 k6 k56 hg5 hg6 hr5 hr6 K4 T4 H4 G4
      exact ⟨.inr (.inr ⟨rfl, col4, d1, b1, d2, b2, K6, G6, H6, T6⟩), by decide⟩
    · clear K2 T2
      have P1 := Lib.hid (kp_start (n := 20) (by decide) (m := m1) (by have := HM1.out; omega))
      have P2 := Lib.hid (kp_start (n := 20) (by decide) (m := m2) (by have := HM2.out; omega))
      have N1 : Hid (NoPins (newC (newD 20) m1)) := Lib.hid (fun k hk => by simp [newC] at hk)
      have N2 : Hid (NoPins (newC (newD 20) m2)) := Lib.hid (fun k hk => by simp [newC] at hk)
      generalize newC (newD 20) (m1 : Int) = C1 at H1 P1 N1
      generalize newC (newD 20) (m2 : Int) = C2 at H2 P2 N2
      go_upto_region 20 with fail
      go_loopw [14] (fun v14 wr => ∃ x col C1 C2 Lw N, x ≤ nO ∧ v14 = .int .i64 (x : Nat) ∧ Hid (St NZ col0 w col wr) ∧ Hid (CkAt 5 1 col wr b1 d1 C1) ∧ Hid (CkAt 6 2 col wr b2 d2 C2) ∧ Hid (Two col wr w1.heap.size (w1.heap.size + 1) [.pointer (some ⟨d1, 0, none⟩), .pointer (some ⟨d2, 0, none⟩)] [.pointer (some ⟨b1, 0, none⟩), .pointer (some ⟨b2, 0, none⟩)]) ∧ Hid (KpI C1 Lw 20 m1 N ∧ KpI C2 Lw 20 m2 N ∧ NoPins C1 ∧ NoPins C2 ∧ N ≤ 70 * x)) (fun v14 _ => nO - (intOf v14).toNat)
      case atStart => exact ⟨0, col, C1, C2, _, 0, Nat.zero_le _, rfl, K, H1, H2, T, Lib.hid ⟨P1.out, P2.out, N1.out, N2.out, Nat.zero_le _⟩⟩
      case round =>
        clear K H1 H2 T P1 P2 N1 N2
        obtain ⟨i, col, C1, C2, Lw, N, hi, rfl, K, H1, H2, T, P⟩ := hrel
        by_cases hin : i = nO
        · subst hin
          have p0 : wr.cell? ⟨w1.heap.size + 1, 0, none⟩ = some (.pointer (some ⟨b1, 0, none⟩)) := T.out.rc.cell 0
          go_wp2_with fail
          refine (flush_q 5 1 col b1 d1 C1 20 N wr H1.out P.out.1.live (by have := P.out.2.2.2.2; omega) n15 (by decide)).mono ?_
          rintro e w3 ⟨rfl, C3, HH⟩
          obtain ⟨hF3, col3, k3, h3⟩ := HH.out
          have K3 := Lib.hid (K.out.trans (k3.mono (fun c h => by rcases h with rfl | rfl <;> exact Nat.succ_ne_zero _)))
          have G3 := Lib.hid h3
          have H3 := Lib.hid (H2.out.st k3 (ncd (by decide) (by decide)) (ncd (by decide) (by decide)) (ncd (by decide) (by decide)))
          have T3 := Lib.hid (T.out.st k3 (ncd (by decide) (by decide)))
          have F3 := Lib.hid hF3
          clear HH hF3 k3 h3 K H1 H2 T p0
          have p1 : w3.cell? ⟨w1.heap.size + 1, 1, none⟩ = some (.pointer (some ⟨b2, 0, none⟩)) := T3.out.rc.cell 1
          go_wp2_with fail
          refine (flush_q 6 2 col3 b2 d2 C2 20 N w3 H3.out P.out.2.1.live (by have := P.out.2.2.2.2; omega) two12 (by decide)).mono ?_
          rintro e w4 ⟨rfl, C4, HH⟩
          obtain ⟨hF4, col4, k4, h4⟩ := HH.out
          have K4 := Lib.hid (K3.out.trans (k4.mono (fun c h => by rcases h with rfl | rfl <;> exact Nat.succ_ne_zero _)))
          have G4 := Lib.hid (G3.out.st k4 (ncd (by decide) (by decide)) (ncd (by decide) (by decide)) (ncd (by decide) (by decide)))
          have H4 := Lib.hid h4
          have T4 := Lib.hid (T3.out.st k4 (ncd (by decide) (by decide)))
          obtain ⟨hS3, hS4, hS⟩ := fr_end P.out.1 P.out.2.1 (by have := HM1.out.2; omega) (by have := HM2.out.2; omega) F3.out hF4
          have HS := Lib.hid hS
          have HS3 := Lib.hid hS3
          have HS4 := Lib.hid hS4
          clear HH hF4 k4 h4 K3 G3 H3 T3 F3 P p1 hS3 hS4 hS
          have p1 : w4.cell? ⟨w1.heap.size, 0, none⟩ = some (.pointer (some ⟨d1, 0, none⟩)) := T4.out.rd.cell 0
          have p2 : w4.cell? ⟨w1.heap.size, 1, none⟩ = some (.pointer (some ⟨d2, 0, none⟩)) := T4.out.rd.cell 1
          have hB := K4.out.below
          have HD3 : Hid (DkAt 62 1 col4 w4 d1 C3.D) := Lib.hid (by obtain ⟨_, _, _, h⟩ := G4.out; exact h)
          have HD4 : Hid (DkAt 62 2 col4 w4 d2 C4.D) := Lib.hid (by obtain ⟨_, _, _, h⟩ := H4.out; exact h)
          clear K4 G4 H4 T4
          go_upto_region 30 with fail
          have q0 := later_cell p1
          have q1 := later_cell p2
          clear p1 p2
          try go_frame
          refine wp_region_idx Rb Rb_refl Rb_trans [(0,0),(0,1),(0,3),(0,4),(1,2),(1,5),(1,6),(0,7),(1,8),(0,9),(0,10)] (by kernel_rfl) (by kernel_rfl) (by kernel_rfl) ?_
          simp only [pickO, List.getD_cons_succ, List.getD_cons_zero]
          refine wpCan_seg 4 (by kernel_rfl) ?_
          simp only [List.take_succ_cons, List.take_zero, List.drop_succ_cons, List.drop_zero, List.map_cons, List.map_nil]
          iterate 4 (go_big_quiet_step (fail))
          refine wpQuiet_nil ?_
          clear q0 q1
          refine wpCan_list (k := 0) (fun KK hK => ?_) (fun _ => Rb_refl _)
          go_wp2_with fail
          refine (image_p 1 col4 d1 C3.D w4.drew (HD3.out.st (St.fresh (Below.refl _ _).drew (fun _ => False) col4) (fun h => h) (fun h => h)) (by rw [HS3.out.1]; decide) HS3.out.2).mono ?_
          rintro e w5 ⟨v5, us5, rfl, hi5, hb5⟩
          rw [HS3.out.1] at hi5
          obtain ⟨a5, c5, rfl⟩ := hi5.own.form
          go_wp2_with fail
          refine hK _ _ (fun _ => hb5) ?_
          clear hK KK
          have hb5' : Below w4.heap.size w4 w5 := (Below.refl w4.heap.size w4).drew.trans hb5
          have HI5 := Lib.hid hi5.imr
          clear hi5 hb5
          refine wpCan_list (k := 0) (fun KK hK => ?_) (fun _ => Rb_refl _)
          go_wp2_with fail
          refine (image_p 2 col4 d2 C4.D w5 (HD4.out.st (St.fresh hb5' (fun _ => False) col4) (fun h => h) (fun h => h)) (by rw [HS4.out.1]; decide) HS4.out.2).mono ?_
          rintro e w6 ⟨v6, us6, rfl, hi6, hb6⟩
          rw [HS4.out.1] at hi6
          obtain ⟨a6, c6, rfl⟩ := hi6.own.form
          go_wp2_with fail
          refine hK _ _ (fun _ => hb6) ?_
          clear hK KK
          have HI6 := Lib.hid hi6.imr
          have HJ5 := Lib.hid (HI5.out.below hb6)
          have hB6 := (hB.trans (hb5'.mono hB.size)).trans (hb6.mono (Nat.le_trans hB.size hb5'.size))
          clear hi6 hb6 hb5' HI5
          refine wpCan_list (k := 0) (fun KK hK => ?_) (fun _ => Rb_refl _)
          go_wp2_with fail
          refine (sameImage_any a5 20 c5 C3.D.S a6 20 c6 C4.D.S w6 HJ5.out HI6.out (by decide) HS3.out.2 HS4.out.2 true (Lib.hid (by rw [HS.out]; simp))).mono ?_
          rintro e w7 ⟨rfl, hb7⟩
          go_wp2_with fail
          refine hK _ _ (fun _ => hb7) ?_
          clear hK KK
          refine wpCan_seg 1 (by kernel_rfl) ?_
          simp only [List.take_succ_cons, List.take_zero, List.drop_succ_cons, List.drop_zero, List.map_cons, List.map_nil]
          iterate 1 (go_big_quiet_step (fail))
          refine wpQuiet_nil ?_
          refine wpCan_list (k := 0) (fun KK hK => ?_) (fun _ => Rb_refl _)
          go_wp2_with fail
          refine (works_any w7).mono ?_
          rintro e wz ⟨rfl, hbz⟩
          go_wp2_with fail
          refine hK _ _ (fun _ => hbz) ?_
          clear hK KK
          refine wpCan_seg 2 (by kernel_rfl) ?_
          simp only [List.take_succ_cons, List.take_zero, List.drop_succ_cons, List.drop_zero, List.map_cons, List.map_nil]
          iterate 2 (go_big_quiet_step (fail))
          refine wpQuiet_nil ?_
          unfold wpCan
          go_wp2_with fail
          go_ret
          have hB7 := hB6.trans (hb7.mono hB6.size)
          exact ⟨rfl, hB7.trans (hbz.mono hB7.size)⟩
        have hlt : i < nO := by omega
        have hlt' : (i : Int) < nO := by omega
        obtain ⟨b7, o7, aB, nB, cB, l, aK, nK, cK, keep, Kd, s, t, rfl, hri, hrm, hrk, hop0, hd0, hd1, hd2, hd3, hd4⟩ := op_at hl i hlt
        have hfew := HF.out.2 i Kd s l keep t hri
        have hb7 : b7 < w.heap.size := lt_of_cell hd0
        have hc0 := (K.out.below.cell (p := ⟨b7, o7 + i * 5, none⟩) hb7).trans hd0
        have hc1 := (K.out.below.cell (p := ⟨b7, o7 + i * 5 + 1, none⟩) hb7).trans hd1
        have hc2 := (K.out.below.cell (p := ⟨b7, o7 + i * 5 + 2, none⟩) hb7).trans hd2
        have hc3 := (K.out.below.cell (p := ⟨b7, o7 + i * 5 + 3, none⟩) hb7).trans hd3
        have hc4 := (K.out.below.cell (p := ⟨b7, o7 + i * 5 + 4, none⟩) hb7).trans hd4
        have hnB : nB ≤ 1024 := by omega
        have HOP := Lib.hid hop0
        have HRM := Lib.hid hrm
        clear hri hrm hrk hop0 hfew hd0 hd1 hd2 hd3 hd4
        rcases okinds Kd with hK | hK | hK | hK | hK | hK | hK | hK | hK | ⟨k0, k1, k2, k3, k4, k5, k6, k7, k8, n0, n1, n2, n3, n4, n5, n6, n7, n8⟩
        · subst hK
          go_upto_region 23 with (refine wpL_storeRow rfl _ _ _ rfl (cs := [.int .i64 _, .int .i64 s, .slice aB nB cB, .slice aK nK cK, .int .i64 t]) rfl rfl (Row.new _ _ _) (by kernel_rfl) rfl rfl ?_; intro w4 hg4 hr4)
          have e0 : w4.cell? ⟨wr.heap.size, 0, none⟩ = some (.int .i64 _) := hr4.cell 0
          have hb4 : Below wr.heap.size wr w4 := below_grown ((Below.refl _ _).alloc (Nat.le_refl _) _) hg4 (Nat.le_refl _) (by simp)
          have HR4 := Lib.hid hr4
          clear hg4 hr4 hc0 hc1 hc2 hc3 hc4
          try go_frame
          obtain ⟨col4, hcol4⟩ : ∃ x, x = recol col wr.heap.size 7 := ⟨_, rfl⟩
          have K4 : Hid (St NZ col0 w col4 w4) := Lib.hid (by rw [hcol4]; exact K.out.trans (St.new hb4 NZ col 7))
          have G4 : Hid (CkAt 5 1 col4 w4 b1 d1 C1) := Lib.hid (by rw [hcol4]; exact H1.out.st (St.new hb4 (fun _ => False) col 7) (fun h => h) (fun h => h) (fun h => h))
          have H4 : Hid (CkAt 6 2 col4 w4 b2 d2 C2) := Lib.hid (by rw [hcol4]; exact H2.out.st (St.new hb4 (fun _ => False) col 7) (fun h => h) (fun h => h) (fun h => h))
          have T4 : Hid (Two col4 w4 w1.heap.size (w1.heap.size + 1) _ _) := Lib.hid (by rw [hcol4]; exact T.out.st (St.new hb4 (fun _ => False) col 7) (fun h => h))
          have C4 : Hid (col4 wr.heap.size = 7) := Lib.hid (by rw [hcol4]; exact recol_ge (Nat.le_refl _))
          clear hcol4 hb4 K H1 H2 T
          have e1 : w4.cell? ⟨wr.heap.size, 1, none⟩ = some (.int .i64 s) := HR4.out.cell 1
          have e2 : w4.cell? ⟨wr.heap.size, 2, none⟩ = some (.slice aB nB cB) := HR4.out.cell 2
          have e3 : w4.cell? ⟨wr.heap.size, 3, none⟩ = some (.slice aK nK cK) := HR4.out.cell 3
          have e4 : w4.cell? ⟨wr.heap.size, 4, none⟩ = some (.int .i64 t) := HR4.out.cell 4
          have p0 : w4.cell? ⟨w1.heap.size + 1, 0, none⟩ = some (.pointer (some ⟨b1, 0, none⟩)) := T4.out.rc.cell 0
          have p1 : w4.cell? ⟨w1.heap.size, 0, none⟩ = some (.pointer (some ⟨d1, 0, none⟩)) := T4.out.rd.cell 0
          go_wp2_with fail
          refine (does_p 5 1 col4 b1 d1 C1 20 N w4 _ s aB nB cB l aK nK cK t G4.out P.out.1.live (by have := P.out.2.2.2.2; omega) n15 (by decide) (ncd (by decide) (by decide)) (ncd (by decide) (by decide)) (ncd (by decide) (by decide)) (HOP.out.sb.below K4.out.below) hnB HOP.out.wf HOP.out.hi (by decide)).mono ?_
          rintro e w5 ⟨v5, N5, c5, is, E, rfl, C5, B, col5, HH⟩
          have K5 := Lib.hid (K4.out.trans (HH.out.2.2.1.mono (fun c h => by rcases h with rfl | rfl | rfl <;> exact Nat.succ_ne_zero _)))
          have G5 := Lib.hid HH.out.2.2.2.1
          have H5 := Lib.hid (H4.out.st HH.out.2.2.1 (nd9 (by decide) (by decide) (by decide)) (nd9 (by decide) (by decide) (by decide)) (nd9 (by decide) (by decide) (by decide)))
          have T5 := Lib.hid (T4.out.st HH.out.2.2.1 (nd9 (by decide) (by decide) (by decide)))
          have R5 := Lib.hid (HR4.out.mods HH.out.2.2.1.mods (by rw [C4.out]; exact nd9 (by decide) (by decide) (by decide)))
          have C5' := Lib.hid ((HH.out.2.2.1.ext _ HR4.out.lt).trans C4.out)
          have B5 := Lib.hid HH.out.2.2.2.2
          have O5 := Lib.hid HH.out.2.1
          have HN5 := Lib.hid HH.out.1
          clear HH K4 G4 H4 T4 HR4 C4 e0 e1 e2 e3 e4 p0 p1
          go_upto_region 25 with (refine wpL_storeRow rfl _ _ _ rfl (cs := [.slice v5 N5 c5, .bool is, .int .i64 _]) rfl rfl (Row.new _ _ _) (by kernel_rfl) rfl rfl ?_; intro w6 hg6 hr6)
          have hb6 : Below w5.heap.size w5 w6 := below_grown ((Below.refl _ _).alloc (Nat.le_refl _) _) hg6 (Nat.le_refl _) (by simp)
          obtain ⟨col6, hcol6⟩ : ∃ x, x = recol col5 w5.heap.size 7 := ⟨_, rfl⟩
          have K6 : Hid (St NZ col0 w col6 w6) := Lib.hid (by rw [hcol6]; exact K5.out.trans (St.new hb6 NZ col5 7))
          have G6 : Hid (CkAt 5 1 col6 w6 b1 d1 C5) := Lib.hid (by rw [hcol6]; exact G5.out.st (St.new hb6 (fun _ => False) col5 7) (fun h => h) (fun h => h) (fun h => h))
          have H6 : Hid (CkAt 6 2 col6 w6 b2 d2 C2) := Lib.hid (by rw [hcol6]; exact H5.out.st (St.new hb6 (fun _ => False) col5 7) (fun h => h) (fun h => h) (fun h => h))
          have T6 : Hid (Two col6 w6 w1.heap.size (w1.heap.size + 1) _ _) := Lib.hid (by rw [hcol6]; exact T5.out.st (St.new hb6 (fun _ => False) col5 7) (fun h => h))
          have B6 : Hid (Imm col6 w6 (.slice v5 N5 c5) B) := Lib.hid (by rw [hcol6]; exact B5.out.st (St.new hb6 (fun _ => False) col5 7) (fun h => h))
          have C6 : Hid (col6 wr.heap.size = 7 ∧ col6 w5.heap.size = 7) := Lib.hid (by rw [hcol6]; exact ⟨(recol_lt R5.out.lt).trans C5'.out, recol_ge (Nat.le_refl _)⟩)
          have R6 := Lib.hid (R5.out.after hb6)
          have X6 := Lib.hid hr6
          clear hcol6 hb6 hg6 hr6 K5 G5 H5 T5 B5 R5 C5'
          have e1 : w6.cell? ⟨wr.heap.size, 1, none⟩ = some (.int .i64 s) := R6.out.cell 1
          have e2 : w6.cell? ⟨wr.heap.size, 2, none⟩ = some (.slice aB nB cB) := R6.out.cell 2
          have e3 : w6.cell? ⟨wr.heap.size, 3, none⟩ = some (.slice aK nK cK) := R6.out.cell 3
          have e4 : w6.cell? ⟨wr.heap.size, 4, none⟩ = some (.int .i64 t) := R6.out.cell 4
          have e0 : w6.cell? ⟨wr.heap.size, 0, none⟩ = some (.int .i64 _) := R6.out.cell 0
          have p0 : w6.cell? ⟨w1.heap.size + 1, 1, none⟩ = some (.pointer (some ⟨b2, 0, none⟩)) := T6.out.rc.cell 1
          have p1 : w6.cell? ⟨w1.heap.size, 1, none⟩ = some (.pointer (some ⟨d2, 0, none⟩)) := T6.out.rd.cell 1
          try go_frame
          go_wp2_with fail
          refine (does_p 6 2 col6 b2 d2 C2 20 N w6 _ s aB nB cB l aK nK cK t H6.out P.out.2.1.live (by have := P.out.2.2.2.2; omega) two12 (by decide) (ncd (by decide) (by decide)) (ncd (by decide) (by decide)) (ncd (by decide) (by decide)) (HOP.out.sb.below K6.out.below) hnB HOP.out.wf HOP.out.hi (by decide)).mono ?_
          rintro e w7 ⟨v7, N7, c7, is7, E7, rfl, C7, B7, col7, HH⟩
          have K7 := Lib.hid (K6.out.trans (HH.out.2.2.1.mono (fun c h => by rcases h with rfl | rfl | rfl <;> exact Nat.succ_ne_zero _)))
          have G7 := Lib.hid (G6.out.st HH.out.2.2.1 (nd9 (by decide) (by decide) (by decide)) (nd9 (by decide) (by decide) (by decide)) (nd9 (by decide) (by decide) (by decide)))
          have H7 := Lib.hid HH.out.2.2.2.1
          have T7 := Lib.hid (T6.out.st HH.out.2.2.1 (nd9 (by decide) (by decide) (by decide)))
          have B7' := Lib.hid (B6.out.st HH.out.2.2.1 (nd9 (by decide) (by decide) (by decide)))
          have R7 := Lib.hid (R6.out.mods HH.out.2.2.1.mods (by rw [C6.out.1]; exact nd9 (by decide) (by decide) (by decide)))
          have X7 := Lib.hid (X6.out.mods HH.out.2.2.1.mods (by rw [C6.out.2]; exact nd9 (by decide) (by decide) (by decide)))
          have S7 := Lib.hid HH.out.2.2.2.2
          have HN7 := Lib.hid HH.out.1
          obtain ⟨hEE, hBB, Lw', PN1, PN2, PN3, PN4⟩ := fr_both P.out.1 P.out.2.1 (by have := HM1.out.2; omega) (by have := HM2.out.2; omega) P.out.2.2.1 P.out.2.2.2.1 (.inl rfl) O5.out HH.out.2.1
          have PN : Hid (KpI C5 Lw' 20 m1 (N + 70) ∧ KpI C7 Lw' 20 m2 (N + 70) ∧ NoPins C5 ∧ NoPins C7 ∧ N + 70 ≤ 70 * (i + 1)) := Lib.hid ⟨PN1, PN2, PN3, PN4, by have := P.out.2.2.2.2; omega⟩
          have HBB := Lib.hid hBB
          subst hEE
          clear HH hBB PN1 PN2 PN3 PN4 P K6 G6 H6 T6 B6 R6 X6 C6 O5 e0 e1 e2 e3 e4 p0 p1
          have hEE : (E != E) = false := by simp
          go_upto_region 26 with (refine wpL_storeRow rfl _ _ _ rfl (cs := [.slice v7 N7 c7, .bool is7, .int .i64 _]) rfl rfl (Row.new _ _ _) (by kernel_rfl) rfl rfl ?_; intro w8 hg8 hr8)
          have hb8 : Below w7.heap.size w7 w8 := below_grown ((Below.refl _ _).alloc (Nat.le_refl _) _) hg8 (Nat.le_refl _) (by simp)
          have k8 := St.fresh hb8 (fun _ => False) col7
          have K8 := Lib.hid (K7.out.down hb8)
          have G8 := Lib.hid (G7.out.st k8 (fun h => h) (fun h => h) (fun h => h))
          have H8 := Lib.hid (H7.out.st k8 (fun h => h) (fun h => h) (fun h => h))
          have T8 := Lib.hid (T7.out.st k8 (fun h => h))
          have B8 := Lib.hid (B7'.out.st k8 (fun h => h))
          have S8 := Lib.hid (S7.out.st k8 (fun h => h))
          have e0 : w8.cell? ⟨wr.heap.size, 0, none⟩ = some (.int .i64 _) := (R7.out.after hb8).cell 0
          have f0 : w8.cell? ⟨w5.heap.size, 0, none⟩ = some (.slice v5 N5 c5) := (X7.out.after hb8).cell 0
          have f2 : w8.cell? ⟨w5.heap.size, 2, none⟩ = some (.int .i64 E) := (X7.out.after hb8).cell 2
          have g0 : w8.cell? ⟨w7.heap.size, 0, none⟩ = some (.slice v7 N7 c7) := hr8.cell 0
          have g2 : w8.cell? ⟨w7.heap.size, 2, none⟩ = some (.int .i64 E) := hr8.cell 2
          clear hb8 k8 hg8 hr8 K7 G7 H7 T7 B7' S7 R7 X7
          try go_frame
          have hN57 : N5 = N7 := by rw [HN5.out, HN7.out, HBB.out trivial]
          subst hN57
          have SB5 : Hid (Sl w8 1 (.slice v5 N5 c5) N5 (bvs B)) := Lib.hid (by have := B8.out.1; rw [← HN5.out] at this; exact this)
          have SB7 : Hid (Sl w8 1 (.slice v7 N5 c7) N5 (bvs B7)) := Lib.hid (by have := S8.out.1; rw [← HN7.out] at this; exact this)
          go_wp2_with fail
          refine (same_any v5 N5 c5 v7 N5 c7 _ _ w8 SB5.out SB7.out true (Lib.hid (by rw [HBB.out trivial]; simp))).mono ?_
          rintro e wx ⟨rfl, rfl⟩
          go_wp2_with fail
          exact ⟨⟨i + 1, col7, C5, C7, Lw', N + 70, hlt, by go_num, K8, G8, H8, T8, PN⟩, by simp [intOf]; omega⟩
        · subst hK
          go_upto_region 23 with (refine wpL_storeRow rfl _ _ _ rfl (cs := [.int .i64 _, .int .i64 s, .slice aB nB cB, .slice aK nK cK, .int .i64 t]) rfl rfl (Row.new _ _ _) (by kernel_rfl) rfl rfl ?_; intro w4 hg4 hr4)
          have e0 : w4.cell? ⟨wr.heap.size, 0, none⟩ = some (.int .i64 _) := hr4.cell 0
          have hb4 : Below wr.heap.size wr w4 := below_grown ((Below.refl _ _).alloc (Nat.le_refl _) _) hg4 (Nat.le_refl _) (by simp)
          have HR4 := Lib.hid hr4
          clear hg4 hr4 hc0 hc1 hc2 hc3 hc4
          try go_frame
          obtain ⟨col4, hcol4⟩ : ∃ x, x = recol col wr.heap.size 7 := ⟨_, rfl⟩
          have K4 : Hid (St NZ col0 w col4 w4) := Lib.hid (by rw [hcol4]; exact K.out.trans (St.new hb4 NZ col 7))
          have G4 : Hid (CkAt 5 1 col4 w4 b1 d1 C1) := Lib.hid (by rw [hcol4]; exact H1.out.st (St.new hb4 (fun _ => False) col 7) (fun h => h) (fun h => h) (fun h => h))
          have H4 : Hid (CkAt 6 2 col4 w4 b2 d2 C2) := Lib.hid (by rw [hcol4]; exact H2.out.st (St.new hb4 (fun _ => False) col 7) (fun h => h) (fun h => h) (fun h => h))
          have T4 : Hid (Two col4 w4 w1.heap.size (w1.heap.size + 1) _ _) := Lib.hid (by rw [hcol4]; exact T.out.st (St.new hb4 (fun _ => False) col 7) (fun h => h))
          have C4 : Hid (col4 wr.heap.size = 7) := Lib.hid (by rw [hcol4]; exact recol_ge (Nat.le_refl _))
          clear hcol4 hb4 K H1 H2 T
          have e1 : w4.cell? ⟨wr.heap.size, 1, none⟩ = some (.int .i64 s) := HR4.out.cell 1
          have e2 : w4.cell? ⟨wr.heap.size, 2, none⟩ = some (.slice aB nB cB) := HR4.out.cell 2
          have e3 : w4.cell? ⟨wr.heap.size, 3, none⟩ = some (.slice aK nK cK) := HR4.out.cell 3
          have e4 : w4.cell? ⟨wr.heap.size, 4, none⟩ = some (.int .i64 t) := HR4.out.cell 4
          have p0 : w4.cell? ⟨w1.heap.size + 1, 0, none⟩ = some (.pointer (some ⟨b1, 0, none⟩)) := T4.out.rc.cell 0
          have p1 : w4.cell? ⟨w1.heap.size, 0, none⟩ = some (.pointer (some ⟨d1, 0, none⟩)) := T4.out.rd.cell 0
          go_wp2_with fail
          refine (does_p 5 1 col4 b1 d1 C1 20 N w4 _ s aB nB cB l aK nK cK t G4.out P.out.1.live (by have := P.out.2.2.2.2; omega) n15 (by decide) (ncd (by decide) (by decide)) (ncd (by decide) (by decide)) (ncd (by decide) (by decide)) (HOP.out.sb.below K4.out.below) hnB HOP.out.wf HOP.out.hi (by decide)).mono ?_
          rintro e w5 ⟨v5, N5, c5, is, E, rfl, C5, B, col5, HH⟩
          have K5 := Lib.hid (K4.out.trans (HH.out.2.2.1.mono (fun c h => by rcases h with rfl | rfl | rfl <;> exact Nat.succ_ne_zero _)))
          have G5 := Lib.hid HH.out.2.2.2.1
          have H5 := Lib.hid (H4.out.st HH.out.2.2.1 (nd9 (by decide) (by decide) (by decide)) (nd9 (by decide) (by decide) (by decide)) (nd9 (by decide) (by decide) (by decide)))
          have T5 := Lib.hid (T4.out.st HH.out.2.2.1 (nd9 (by decide) (by decide) (by decide)))
          have R5 := Lib.hid (HR4.out.mods HH.out.2.2.1.mods (by rw [C4.out]; exact nd9 (by decide) (by decide) (by decide)))
          have C5' := Lib.hid ((HH.out.2.2.1.ext _ HR4.out.lt).trans C4.out)
          have B5 := Lib.hid HH.out.2.2.2.2
          have O5 := Lib.hid HH.out.2.1
          have HN5 := Lib.hid HH.out.1
          clear HH K4 G4 H4 T4 HR4 C4 e0 e1 e2 e3 e4 p0 p1
          go_upto_region 25 with (refine wpL_storeRow rfl _ _ _ rfl (cs := [.slice v5 N5 c5, .bool is, .int .i64 _]) rfl rfl (Row.new _ _ _) (by kernel_rfl) rfl rfl ?_; intro w6 hg6 hr6)
          have hb6 : Below w5.heap.size w5 w6 := below_grown ((Below.refl _ _).alloc (Nat.le_refl _) _) hg6 (Nat.le_refl _) (by simp)
          obtain ⟨col6, hcol6⟩ : ∃ x, x = recol col5 w5.heap.size 7 := ⟨_, rfl⟩
          have K6 : Hid (St NZ col0 w col6 w6) := Lib.hid (by rw [hcol6]; exact K5.out.trans (St.new hb6 NZ col5 7))
          have G6 : Hid (CkAt 5 1 col6 w6 b1 d1 C5) := Lib.hid (by rw [hcol6]; exact G5.out.st (St.new hb6 (fun _ => False) col5 7) (fun h => h) (fun h => h) (fun h => h))
          have H6 : Hid (CkAt 6 2 col6 w6 b2 d2 C2) := Lib.hid (by rw [hcol6]; exact H5.out.st (St.new hb6 (fun _ => False) col5 7) (fun h => h) (fun h => h) (fun h => h))
          have T6 : Hid (Two col6 w6 w1.heap.size (w1.heap.size + 1) _ _) := Lib.hid (by rw [hcol6]; exact T5.out.st (St.new hb6 (fun _ => False) col5 7) (fun h => h))
          have B6 : Hid (Imm col6 w6 (.slice v5 N5 c5) B) := Lib.hid (by rw [hcol6]; exact B5.out.st (St.new hb6 (fun _ => False) col5 7) (fun h => h))
          have C6 : Hid (col6 wr.heap.size = 7 ∧ col6 w5.heap.size = 7) := Lib.hid (by rw [hcol6]; exact ⟨(recol_lt R5.out.lt).trans C5'.out, recol_ge (Nat.le_refl _)⟩)
          have R6 := Lib.hid (R5.out.after hb6)
          have X6 := Lib.hid hr6
          clear hcol6 hb6 hg6 hr6 K5 G5 H5 T5 B5 R5 C5'
          have e1 : w6.cell? ⟨wr.heap.size, 1, none⟩ = some (.int .i64 s) := R6.out.cell 1
          have e2 : w6.cell? ⟨wr.heap.size, 2, none⟩ = some (.slice aB nB cB) := R6.out.cell 2
          have e3 : w6.cell? ⟨wr.heap.size, 3, none⟩ = some (.slice aK nK cK) := R6.out.cell 3
          have e4 : w6.cell? ⟨wr.heap.size, 4, none⟩ = some (.int .i64 t) := R6.out.cell 4
          have e0 : w6.cell? ⟨wr.heap.size, 0, none⟩ = some (.int .i64 _) := R6.out.cell 0
          have p0 : w6.cell? ⟨w1.heap.size + 1, 1, none⟩ = some (.pointer (some ⟨b2, 0, none⟩)) := T6.out.rc.cell 1
          have p1 : w6.cell? ⟨w1.heap.size, 1, none⟩ = some (.pointer (some ⟨d2, 0, none⟩)) := T6.out.rd.cell 1
          try go_frame
          go_wp2_with fail
          refine (does_p 6 2 col6 b2 d2 C2 20 N w6 _ s aB nB cB l aK nK cK t H6.out P.out.2.1.live (by have := P.out.2.2.2.2; omega) two12 (by decide) (ncd (by decide) (by decide)) (ncd (by decide) (by decide)) (ncd (by decide) (by decide)) (HOP.out.sb.below K6.out.below) hnB HOP.out.wf HOP.out.hi (by decide)).mono ?_
          rintro e w7 ⟨v7, N7, c7, is7, E7, rfl, C7, B7, col7, HH⟩
          have K7 := Lib.hid (K6.out.trans (HH.out.2.2.1.mono (fun c h => by rcases h with rfl | rfl | rfl <;> exact Nat.succ_ne_zero _)))
          have G7 := Lib.hid (G6.out.st HH.out.2.2.1 (nd9 (by decide) (by decide) (by decide)) (nd9 (by decide) (by decide) (by decide)) (nd9 (by decide) (by decide) (by decide)))
          have H7 := Lib.hid HH.out.2.2.2.1
          have T7 := Lib.hid (T6.out.st HH.out.2.2.1 (nd9 (by decide) (by decide) (by decide)))
          have B7' := Lib.hid (B6.out.st HH.out.2.2.1 (nd9 (by decide) (by decide) (by decide)))
          have R7 := Lib.hid (R6.out.mods HH.out.2.2.1.mods (by rw [C6.out.1]; exact nd9 (by decide) (by decide) (by decide)))
          have X7 := Lib.hid (X6.out.mods HH.out.2.2.1.mods (by rw [C6.out.2]; exact nd9 (by decide) (by decide) (by decide)))
          have S7 := Lib.hid HH.out.2.2.2.2
          have HN7 := Lib.hid HH.out.1
          obtain ⟨hEE, hBB, Lw', PN1, PN2, PN3, PN4⟩ := fr_both P.out.1 P.out.2.1 (by have := HM1.out.2; omega) (by have := HM2.out.2; omega) P.out.2.2.1 P.out.2.2.2.1 (.inr (.inl rfl)) O5.out HH.out.2.1
          have PN : Hid (KpI C5 Lw' 20 m1 (N + 70) ∧ KpI C7 Lw' 20 m2 (N + 70) ∧ NoPins C5 ∧ NoPins C7 ∧ N + 70 ≤ 70 * (i + 1)) := Lib.hid ⟨PN1, PN2, PN3, PN4, by have := P.out.2.2.2.2; omega⟩
          have HBB := Lib.hid hBB
          subst hEE
          clear HH hBB PN1 PN2 PN3 PN4 P K6 G6 H6 T6 B6 R6 X6 C6 O5 e0 e1 e2 e3 e4 p0 p1
          have hEE : (E != E) = false := by simp
          go_upto_region 26 with (refine wpL_storeRow rfl _ _ _ rfl (cs := [.slice v7 N7 c7, .bool is7, .int .i64 _]) rfl rfl (Row.new _ _ _) (by kernel_rfl) rfl rfl ?_; intro w8 hg8 hr8)
          have hb8 : Below w7.heap.size w7 w8 := below_grown ((Below.refl _ _).alloc (Nat.le_refl _) _) hg8 (Nat.le_refl _) (by simp)
          have k8 := St.fresh hb8 (fun _ => False) col7
          have K8 := Lib.hid (K7.out.down hb8)
          have G8 := Lib.hid (G7.out.st k8 (fun h => h) (fun h => h) (fun h => h))
          have H8 := Lib.hid (H7.out.st k8 (fun h => h) (fun h => h) (fun h => h))
          have T8 := Lib.hid (T7.out.st k8 (fun h => h))
          have B8 := Lib.hid (B7'.out.st k8 (fun h => h))
          have S8 := Lib.hid (S7.out.st k8 (fun h => h))
          have e0 : w8.cell? ⟨wr.heap.size, 0, none⟩ = some (.int .i64 _) := (R7.out.after hb8).cell 0
          have f0 : w8.cell? ⟨w5.heap.size, 0, none⟩ = some (.slice v5 N5 c5) := (X7.out.after hb8).cell 0
          have f2 : w8.cell? ⟨w5.heap.size, 2, none⟩ = some (.int .i64 E) := (X7.out.after hb8).cell 2
          have g0 : w8.cell? ⟨w7.heap.size, 0, none⟩ = some (.slice v7 N7 c7) := hr8.cell 0
          have g2 : w8.cell? ⟨w7.heap.size, 2, none⟩ = some (.int .i64 E) := hr8.cell 2
          clear hb8 k8 hg8 hr8 K7 G7 H7 T7 B7' S7 R7 X7
          try go_frame
          go_wp2_with fail
          exact ⟨⟨i + 1, col7, C5, C7, Lw', N + 70, hlt, by go_num, K8, G8, H8, T8, PN⟩, by simp [intOf]; omega⟩
        · subst hK
          go_upto_region 23 with (refine wpL_storeRow rfl _ _ _ rfl (cs := [.int .i64 _, .int .i64 s, .slice aB nB cB, .slice aK nK cK, .int .i64 t]) rfl rfl (Row.new _ _ _) (by kernel_rfl) rfl rfl ?_; intro w4 hg4 hr4)
          have e0 : w4.cell? ⟨wr.heap.size, 0, none⟩ = some (.int .i64 _) := hr4.cell 0
          have hb4 : Below wr.heap.size wr w4 := below_grown ((Below.refl _ _).alloc (Nat.le_refl _) _) hg4 (Nat.le_refl _) (by simp)
          have HR4 := Lib.hid hr4
          clear hg4 hr4 hc0 hc1 hc2 hc3 hc4
          try go_frame
          go_wp2_with fail
          exact ⟨⟨i + 1, col, C1, C2, Lw, N, hlt, by go_num, Lib.hid (K.out.down hb4), Lib.hid (H1.out.st (St.fresh hb4 (fun _ => False) col) (fun h => h) (fun h => h) (fun h => h)), Lib.hid (H2.out.st (St.fresh hb4 (fun _ => False) col) (fun h => h) (fun h => h) (fun h => h)), Lib.hid (T.out.st (St.fresh hb4 (fun _ => False) col) (fun h => h)), Lib.hid ⟨P.out.1, P.out.2.1, P.out.2.2.1, P.out.2.2.2.1, by have := P.out.2.2.2.2; omega⟩⟩, by simp [intOf]; omega⟩
        · subst hK
          go_upto_region 23 with (refine wpL_storeRow rfl _ _ _ rfl (cs := [.int .i64 _, .int .i64 s, .slice aB nB cB, .slice aK nK cK, .int .i64 t]) rfl rfl (Row.new _ _ _) (by kernel_rfl) rfl rfl ?_; intro w4 hg4 hr4)
          have e0 : w4.cell? ⟨wr.heap.size, 0, none⟩ = some (.int .i64 _) := hr4.cell 0
          have hb4 : Below wr.heap.size wr w4 := below_grown ((Below.refl _ _).alloc (Nat.le_refl _) _) hg4 (Nat.le_refl _) (by simp)
          have HR4 := Lib.hid hr4
          clear hg4 hr4 hc0 hc1 hc2 hc3 hc4
          try go_frame
          go_wp2_with fail
          exact ⟨⟨i + 1, col, C1, C2, Lw, N, hlt, by go_num, Lib.hid (K.out.down hb4), Lib.hid (H1.out.st (St.fresh hb4 (fun _ => False) col) (fun h => h) (fun h => h) (fun h => h)), Lib.hid (H2.out.st (St.fresh hb4 (fun _ => False) col) (fun h => h) (fun h => h) (fun h => h)), Lib.hid (T.out.st (St.fresh hb4 (fun _ => False) col) (fun h => h)), Lib.hid ⟨P.out.1, P.out.2.1, P.out.2.2.1, P.out.2.2.2.1, by have := P.out.2.2.2.2; omega⟩⟩, by simp [intOf]; omega⟩
        · subst hK
          go_upto_region 23 with (refine wpL_storeRow rfl _ _ _ rfl (cs := [.int .i64 _, .int .i64 s, .slice aB nB cB, .slice aK nK cK, .int .i64 t]) rfl rfl (Row.new _ _ _) (by kernel_rfl) rfl rfl ?_; intro w4 hg4 hr4)
          have e0 : w4.cell? ⟨wr.heap.size, 0, none⟩ = some (.int .i64 _) := hr4.cell 0
          have hb4 : Below wr.heap.size wr w4 := below_grown ((Below.refl _ _).alloc (Nat.le_refl _) _) hg4 (Nat.le_refl _) (by simp)
          have HR4 := Lib.hid hr4
          clear hg4 hr4 hc0 hc1 hc2 hc3 hc4
          try go_frame
          obtain ⟨col4, hcol4⟩ : ∃ x, x = recol col wr.heap.size 7 := ⟨_, rfl⟩
          have K4 : Hid (St NZ col0 w col4 w4) := Lib.hid (by rw [hcol4]; exact K.out.trans (St.new hb4 NZ col 7))
          have G4 : Hid (CkAt 5 1 col4 w4 b1 d1 C1) := Lib.hid (by rw [hcol4]; exact H1.out.st (St.new hb4 (fun _ => False) col 7) (fun h => h) (fun h => h) (fun h => h))
          have H4 : Hid (CkAt 6 2 col4 w4 b2 d2 C2) := Lib.hid (by rw [hcol4]; exact H2.out.st (St.new hb4 (fun _ => False) col 7) (fun h => h) (fun h => h) (fun h => h))
          have T4 : Hid (Two col4 w4 w1.heap.size (w1.heap.size + 1) _ _) := Lib.hid (by rw [hcol4]; exact T.out.st (St.new hb4 (fun _ => False) col 7) (fun h => h))
          have C4 : Hid (col4 wr.heap.size = 7) := Lib.hid (by rw [hcol4]; exact recol_ge (Nat.le_refl _))
          clear hcol4 hb4 K H1 H2 T
          have e1 : w4.cell? ⟨wr.heap.size, 1, none⟩ = some (.int .i64 s) := HR4.out.cell 1
          have e2 : w4.cell? ⟨wr.heap.size, 2, none⟩ = some (.slice aB nB cB) := HR4.out.cell 2
          have e3 : w4.cell? ⟨wr.heap.size, 3, none⟩ = some (.slice aK nK cK) := HR4.out.cell 3
          have e4 : w4.cell? ⟨wr.heap.size, 4, none⟩ = some (.int .i64 t) := HR4.out.cell 4
          have p0 : w4.cell? ⟨w1.heap.size + 1, 0, none⟩ = some (.pointer (some ⟨b1, 0, none⟩)) := T4.out.rc.cell 0
          have p1 : w4.cell? ⟨w1.heap.size, 0, none⟩ = some (.pointer (some ⟨d1, 0, none⟩)) := T4.out.rd.cell 0
          go_wp2_with fail
          refine (does_p 5 1 col4 b1 d1 C1 20 N w4 _ s aB nB cB l aK nK cK t G4.out P.out.1.live (by have := P.out.2.2.2.2; omega) n15 (by decide) (ncd (by decide) (by decide)) (ncd (by decide) (by decide)) (ncd (by decide) (by decide)) (HOP.out.sb.below K4.out.below) hnB HOP.out.wf HOP.out.hi (by decide)).mono ?_
          rintro e w5 ⟨v5, N5, c5, is, E, rfl, C5, B, col5, HH⟩
          have K5 := Lib.hid (K4.out.trans (HH.out.2.2.1.mono (fun c h => by rcases h with rfl | rfl | rfl <;> exact Nat.succ_ne_zero _)))
          have G5 := Lib.hid HH.out.2.2.2.1
          have H5 := Lib.hid (H4.out.st HH.out.2.2.1 (nd9 (by decide) (by decide) (by decide)) (nd9 (by decide) (by decide) (by decide)) (nd9 (by decide) (by decide) (by decide)))
          have T5 := Lib.hid (T4.out.st HH.out.2.2.1 (nd9 (by decide) (by decide) (by decide)))
          have R5 := Lib.hid (HR4.out.mods HH.out.2.2.1.mods (by rw [C4.out]; exact nd9 (by decide) (by decide) (by decide)))
          have C5' := Lib.hid ((HH.out.2.2.1.ext _ HR4.out.lt).trans C4.out)
          have B5 := Lib.hid HH.out.2.2.2.2
          have O5 := Lib.hid HH.out.2.1
          have HN5 := Lib.hid HH.out.1
          clear HH K4 G4 H4 T4 HR4 C4 e0 e1 e2 e3 e4 p0 p1
          go_upto_region 25 with (refine wpL_storeRow rfl _ _ _ rfl (cs := [.slice v5 N5 c5, .bool is, .int .i64 _]) rfl rfl (Row.new _ _ _) (by kernel_rfl) rfl rfl ?_; intro w6 hg6 hr6)
          have hb6 : Below w5.heap.size w5 w6 := below_grown ((Below.refl _ _).alloc (Nat.le_refl _) _) hg6 (Nat.le_refl _) (by simp)
          obtain ⟨col6, hcol6⟩ : ∃ x, x = recol col5 w5.heap.size 7 := ⟨_, rfl⟩
          have K6 : Hid (St NZ col0 w col6 w6) := Lib.hid (by rw [hcol6]; exact K5.out.trans (St.new hb6 NZ col5 7))
          have G6 : Hid (CkAt 5 1 col6 w6 b1 d1 C5) := Lib.hid (by rw [hcol6]; exact G5.out.st (St.new hb6 (fun _ => False) col5 7) (fun h => h) (fun h => h) (fun h => h))
          have H6 : Hid (CkAt 6 2 col6 w6 b2 d2 C2) := Lib.hid (by rw [hcol6]; exact H5.out.st (St.new hb6 (fun _ => False) col5 7) (fun h => h) (fun h => h) (fun h => h))
          have T6 : Hid (Two col6 w6 w1.heap.size (w1.heap.size + 1) _ _) := Lib.hid (by rw [hcol6]; exact T5.out.st (St.new hb6 (fun _ => False) col5 7) (fun h => h))
          have B6 : Hid (Imm col6 w6 (.slice v5 N5 c5) B) := Lib.hid (by rw [hcol6]; exact B5.out.st (St.new hb6 (fun _ => False) col5 7) (fun h => h))
          have C6 : Hid (col6 wr.heap.size = 7 ∧ col6 w5.heap.size = 7) := Lib.hid (by rw [hcol6]; exact ⟨(recol_lt R5.out.lt).trans C5'.out, recol_ge (Nat.le_refl _)⟩)
          have R6 := Lib.hid (R5.out.after hb6)
          have X6 := Lib.hid hr6
          clear hcol6 hb6 hg6 hr6 K5 G5 H5 T5 B5 R5 C5'
          have e1 : w6.cell? ⟨wr.heap.size, 1, none⟩ = some (.int .i64 s) := R6.out.cell 1
          have e2 : w6.cell? ⟨wr.heap.size, 2, none⟩ = some (.slice aB nB cB) := R6.out.cell 2
          have e3 : w6.cell? ⟨wr.heap.size, 3, none⟩ = some (.slice aK nK cK) := R6.out.cell 3
          have e4 : w6.cell? ⟨wr.heap.size, 4, none⟩ = some (.int .i64 t) := R6.out.cell 4
          have e0 : w6.cell? ⟨wr.heap.size, 0, none⟩ = some (.int .i64 _) := R6.out.cell 0
          have p0 : w6.cell? ⟨w1.heap.size + 1, 1, none⟩ = some (.pointer (some ⟨b2, 0, none⟩)) := T6.out.rc.cell 1
          have p1 : w6.cell? ⟨w1.heap.size, 1, none⟩ = some (.pointer (some ⟨d2, 0, none⟩)) := T6.out.rd.cell 1
          try go_frame
          go_wp2_with fail
          refine (does_p 6 2 col6 b2 d2 C2 20 N w6 _ s aB nB cB l aK nK cK t H6.out P.out.2.1.live (by have := P.out.2.2.2.2; omega) two12 (by decide) (ncd (by decide) (by decide)) (ncd (by decide) (by decide)) (ncd (by decide) (by decide)) (HOP.out.sb.below K6.out.below) hnB HOP.out.wf HOP.out.hi (by decide)).mono ?_
          rintro e w7 ⟨v7, N7, c7, is7, E7, rfl, C7, B7, col7, HH⟩
          have K7 := Lib.hid (K6.out.trans (HH.out.2.2.1.mono (fun c h => by rcases h with rfl | rfl | rfl <;> exact Nat.succ_ne_zero _)))
          have G7 := Lib.hid (G6.out.st HH.out.2.2.1 (nd9 (by decide) (by decide) (by decide)) (nd9 (by decide) (by decide) (by decide)) (nd9 (by decide) (by decide) (by decide)))
          have H7 := Lib.hid HH.out.2.2.2.1
          have T7 := Lib.hid (T6.out.st HH.out.2.2.1 (nd9 (by decide) (by decide) (by decide)))
          have B7' := Lib.hid (B6.out.st HH.out.2.2.1 (nd9 (by decide) (by decide) (by decide)))
          have R7 := Lib.hid (R6.out.mods HH.out.2.2.1.mods (by rw [C6.out.1]; exact nd9 (by decide) (by decide) (by decide)))
          have X7 := Lib.hid (X6.out.mods HH.out.2.2.1.mods (by rw [C6.out.2]; exact nd9 (by decide) (by decide) (by decide)))
          have S7 := Lib.hid HH.out.2.2.2.2
          have HN7 := Lib.hid HH.out.1
          obtain ⟨hEE, hBB, Lw', PN1, PN2, PN3, PN4⟩ := fr_both P.out.1 P.out.2.1 (by have := HM1.out.2; omega) (by have := HM2.out.2; omega) P.out.2.2.1 P.out.2.2.2.1 (.inr (.inr (.inl rfl))) O5.out HH.out.2.1
          have PN : Hid (KpI C5 Lw' 20 m1 (N + 70) ∧ KpI C7 Lw' 20 m2 (N + 70) ∧ NoPins C5 ∧ NoPins C7 ∧ N + 70 ≤ 70 * (i + 1)) := Lib.hid ⟨PN1, PN2, PN3, PN4, by have := P.out.2.2.2.2; omega⟩
          have HBB := Lib.hid hBB
          subst hEE
          clear HH hBB PN1 PN2 PN3 PN4 P K6 G6 H6 T6 B6 R6 X6 C6 O5 e0 e1 e2 e3 e4 p0 p1
          have hEE : (E != E) = false := by simp
          go_upto_region 26 with (refine wpL_storeRow rfl _ _ _ rfl (cs := [.slice v7 N7 c7, .bool is7, .int .i64 _]) rfl rfl (Row.new _ _ _) (by kernel_rfl) rfl rfl ?_; intro w8 hg8 hr8)
          have hb8 : Below w7.heap.size w7 w8 := below_grown ((Below.refl _ _).alloc (Nat.le_refl _) _) hg8 (Nat.le_refl _) (by simp)
          have k8 := St.fresh hb8 (fun _ => False) col7
          have K8 := Lib.hid (K7.out.down hb8)
          have G8 := Lib.hid (G7.out.st k8 (fun h => h) (fun h => h) (fun h => h))
          have H8 := Lib.hid (H7.out.st k8 (fun h => h) (fun h => h) (fun h => h))
          have T8 := Lib.hid (T7.out.st k8 (fun h => h))
          have B8 := Lib.hid (B7'.out.st k8 (fun h => h))
          have S8 := Lib.hid (S7.out.st k8 (fun h => h))
          have e0 : w8.cell? ⟨wr.heap.size, 0, none⟩ = some (.int .i64 _) := (R7.out.after hb8).cell 0
          have f0 : w8.cell? ⟨w5.heap.size, 0, none⟩ = some (.slice v5 N5 c5) := (X7.out.after hb8).cell 0
          have f2 : w8.cell? ⟨w5.heap.size, 2, none⟩ = some (.int .i64 E) := (X7.out.after hb8).cell 2
          have g0 : w8.cell? ⟨w7.heap.size, 0, none⟩ = some (.slice v7 N7 c7) := hr8.cell 0
          have g2 : w8.cell? ⟨w7.heap.size, 2, none⟩ = some (.int .i64 E) := hr8.cell 2
          clear hb8 k8 hg8 hr8 K7 G7 H7 T7 B7' S7 R7 X7
          try go_frame
          go_wp2_with fail
          exact ⟨⟨i + 1, col7, C5, C7, Lw', N + 70, hlt, by go_num, K8, G8, H8, T8, PN⟩, by simp [intOf]; omega⟩
        · subst hK
          go_upto_region 23 with (refine wpL_storeRow rfl _ _ _ rfl (cs := [.int .i64 _, .int .i64 s, .slice aB nB cB, .slice aK nK cK, .int .i64 t]) rfl rfl (Row.new _ _ _) (by kernel_rfl) rfl rfl ?_; intro w4 hg4 hr4)
          have e0 : w4.cell? ⟨wr.heap.size, 0, none⟩ = some (.int .i64 _) := hr4.cell 0
          have hb4 : Below wr.heap.size wr w4 := below_grown ((Below.refl _ _).alloc (Nat.le_refl _) _) hg4 (Nat.le_refl _) (by simp)
          have HR4 := Lib.hid hr4
          clear hg4 hr4 hc0 hc1 hc2 hc3 hc4
          try go_frame
          go_wp2_with fail
          exact ⟨⟨i + 1, col, C1, C2, Lw, N, hlt, by go_num, Lib.hid (K.out.down hb4), Lib.hid (H1.out.st (St.fresh hb4 (fun _ => False) col) (fun h => h) (fun h => h) (fun h => h)), Lib.hid (H2.out.st (St.fresh hb4 (fun _ => False) col) (fun h => h) (fun h => h) (fun h => h)), Lib.hid (T.out.st (St.fresh hb4 (fun _ => False) col) (fun h => h)), Lib.hid ⟨P.out.1, P.out.2.1, P.out.2.2.1, P.out.2.2.2.1, by have := P.out.2.2.2.2; omega⟩⟩, by simp [intOf]; omega⟩
        · subst hK
          go_upto_region 23 with (refine wpL_storeRow rfl _ _ _ rfl (cs := [.int .i64 _, .int .i64 s, .slice aB nB cB, .slice aK nK cK, .int .i64 t]) rfl rfl (Row.new _ _ _) (by kernel_rfl) rfl rfl ?_; intro w4 hg4 hr4)
          have e0 : w4.cell? ⟨wr.heap.size, 0, none⟩ = some (.int .i64 _) := hr4.cell 0
          have hb4 : Below wr.heap.size wr w4 := below_grown ((Below.refl _ _).alloc (Nat.le_refl _) _) hg4 (Nat.le_refl _) (by simp)
          have HR4 := Lib.hid hr4
          clear hg4 hr4 hc0 hc1 hc2 hc3 hc4
          try go_frame
          obtain ⟨col4, hcol4⟩ : ∃ x, x = recol col wr.heap.size 7 := ⟨_, rfl⟩
          have K4 : Hid (St NZ col0 w col4 w4) := Lib.hid (by rw [hcol4]; exact K.out.trans (St.new hb4 NZ col 7))
          have G4 : Hid (CkAt 5 1 col4 w4 b1 d1 C1) := Lib.hid (by rw [hcol4]; exact H1.out.st (St.new hb4 (fun _ => False) col 7) (fun h => h) (fun h => h) (fun h => h))
          have H4 : Hid (CkAt 6 2 col4 w4 b2 d2 C2) := Lib.hid (by rw [hcol4]; exact H2.out.st (St.new hb4 (fun _ => False) col 7) (fun h => h) (fun h => h) (fun h => h))
          have T4 : Hid (Two col4 w4 w1.heap.size (w1.heap.size + 1) _ _) := Lib.hid (by rw [hcol4]; exact T.out.st (St.new hb4 (fun _ => False) col 7) (fun h => h))
          have C4 : Hid (col4 wr.heap.size = 7) := Lib.hid (by rw [hcol4]; exact recol_ge (Nat.le_refl _))
          clear hcol4 hb4 K H1 H2 T
          have e1 : w4.cell? ⟨wr.heap.size, 1, none⟩ = some (.int .i64 s) := HR4.out.cell 1
          have e2 : w4.cell? ⟨wr.heap.size, 2, none⟩ = some (.slice aB nB cB) := HR4.out.cell 2
          have e3 : w4.cell? ⟨wr.heap.size, 3, none⟩ = some (.slice aK nK cK) := HR4.out.cell 3
          have e4 : w4.cell? ⟨wr.heap.size, 4, none⟩ = some (.int .i64 t) := HR4.out.cell 4
          have p0 : w4.cell? ⟨w1.heap.size + 1, 0, none⟩ = some (.pointer (some ⟨b1, 0, none⟩)) := T4.out.rc.cell 0
          have p1 : w4.cell? ⟨w1.heap.size, 0, none⟩ = some (.pointer (some ⟨d1, 0, none⟩)) := T4.out.rd.cell 0
          go_wp2_with fail
          refine (does_p 5 1 col4 b1 d1 C1 20 N w4 _ s aB nB cB l aK nK cK t G4.out P.out.1.live (by have := P.out.2.2.2.2; omega) n15 (by decide) (ncd (by decide) (by decide)) (ncd (by decide) (by decide)) (ncd (by decide) (by decide)) (HOP.out.sb.below K4.out.below) hnB HOP.out.wf HOP.out.hi (by decide)).mono ?_
          rintro e w5 ⟨v5, N5, c5, is, E, rfl, C5, B, col5, HH⟩
          have K5 := Lib.hid (K4.out.trans (HH.out.2.2.1.mono (fun c h => by rcases h with rfl | rfl | rfl <;> exact Nat.succ_ne_zero _)))
          have G5 := Lib.hid HH.out.2.2.2.1
          have H5 := Lib.hid (H4.out.st HH.out.2.2.1 (nd9 (by decide) (by decide) (by decide)) (nd9 (by decide) (by decide) (by decide)) (nd9 (by decide) (by decide) (by decide)))
          have T5 := Lib.hid (T4.out.st HH.out.2.2.1 (nd9 (by decide) (by decide) (by decide)))
          have R5 := Lib.hid (HR4.out.mods HH.out.2.2.1.mods (by rw [C4.out]; exact nd9 (by decide) (by decide) (by decide)))
          have C5' := Lib.hid ((HH.out.2.2.1.ext _ HR4.out.lt).trans C4.out)
          have B5 := Lib.hid HH.out.2.2.2.2
          have O5 := Lib.hid HH.out.2.1
          have HN5 := Lib.hid HH.out.1
          clear HH K4 G4 H4 T4 HR4 C4 e0 e1 e2 e3 e4 p0 p1
          go_upto_region 25 with (refine wpL_storeRow rfl _ _ _ rfl (cs := [.slice v5 N5 c5, .bool is, .int .i64 _]) rfl rfl (Row.new _ _ _) (by kernel_rfl) rfl rfl ?_; intro w6 hg6 hr6)
          have hb6 : Below w5.heap.size w5 w6 := below_grown ((Below.refl _ _).alloc (Nat.le_refl _) _) hg6 (Nat.le_refl _) (by simp)
          obtain ⟨col6, hcol6⟩ : ∃ x, x = recol col5 w5.heap.size 7 := ⟨_, rfl⟩
          have K6 : Hid (St NZ col0 w col6 w6) := Lib.hid (by rw [hcol6]; exact K5.out.trans (St.new hb6 NZ col5 7))
          have G6 : Hid (CkAt 5 1 col6 w6 b1 d1 C5) := Lib.hid (by rw [hcol6]; exact G5.out.st (St.new hb6 (fun _ => False) col5 7) (fun h => h) (fun h => h) (fun h => h))
          have H6 : Hid (CkAt 6 2 col6 w6 b2 d2 C2) := Lib.hid (by rw [hcol6]; exact H5.out.st (St.new hb6 (fun _ => False) col5 7) (fun h => h) (fun h => h) (fun h => h))
          have T6 : Hid (Two col6 w6 w1.heap.size (w1.heap.size + 1) _ _) := Lib.hid (by rw [hcol6]; exact T5.out.st (St.new hb6 (fun _ => False) col5 7) (fun h => h))
          have B6 : Hid (Imm col6 w6 (.slice v5 N5 c5) B) := Lib.hid (by rw [hcol6]; exact B5.out.st (St.new hb6 (fun _ => False) col5 7) (fun h => h))
          have C6 : Hid (col6 wr.heap.size = 7 ∧ col6 w5.heap.size = 7) := Lib.hid (by rw [hcol6]; exact ⟨(recol_lt R5.out.lt).trans C5'.out, recol_ge (Nat.le_refl _)⟩)
          have R6 := Lib.hid (R5.out.after hb6)
          have X6 := Lib.hid hr6
          clear hcol6 hb6 hg6 hr6 K5 G5 H5 T5 B5 R5 C5'
          have e1 : w6.cell? ⟨wr.heap.size, 1, none⟩ = some (.int .i64 s) := R6.out.cell 1
          have e2 : w6.cell? ⟨wr.heap.size, 2, none⟩ = some (.slice aB nB cB) := R6.out.cell 2
          have e3 : w6.cell? ⟨wr.heap.size, 3, none⟩ = some (.slice aK nK cK) := R6.out.cell 3
          have e4 : w6.cell? ⟨wr.heap.size, 4, none⟩ = some (.int .i64 t) := R6.out.cell 4
          have e0 : w6.cell? ⟨wr.heap.size, 0, none⟩ = some (.int .i64 _) := R6.out.cell 0
          have p0 : w6.cell? ⟨w1.heap.size + 1, 1, none⟩ = some (.pointer (some ⟨b2, 0, none⟩)) := T6.out.rc.cell 1
          have p1 : w6.cell? ⟨w1.heap.size, 1, none⟩ = some (.pointer (some ⟨d2, 0, none⟩)) := T6.out.rd.cell 1
          try go_frame
          go_wp2_with fail
          refine (does_p 6 2 col6 b2 d2 C2 20 N w6 _ s aB nB cB l aK nK cK t H6.out P.out.2.1.live (by have := P.out.2.2.2.2; omega) two12 (by decide) (ncd (by decide) (by decide)) (ncd (by decide) (by decide)) (ncd (by decide) (by decide)) (HOP.out.sb.below K6.out.below) hnB HOP.out.wf HOP.out.hi (by decide)).mono ?_
          rintro e w7 ⟨v7, N7, c7, is7, E7, rfl, C7, B7, col7, HH⟩
          have K7 := Lib.hid (K6.out.trans (HH.out.2.2.1.mono (fun c h => by rcases h with rfl | rfl | rfl <;> exact Nat.succ_ne_zero _)))
          have G7 := Lib.hid (G6.out.st HH.out.2.2.1 (nd9 (by decide) (by decide) (by decide)) (nd9 (by decide) (by decide) (by decide)) (nd9 (by decide) (by decide) (by decide)))
          have H7 := Lib.hid HH.out.2.2.2.1
          have T7 := Lib.hid (T6.out.st HH.out.2.2.1 (nd9 (by decide) (by decide) (by decide)))
          have B7' := Lib.hid (B6.out.st HH.out.2.2.1 (nd9 (by decide) (by decide) (by decide)))
          have R7 := Lib.hid (R6.out.mods HH.out.2.2.1.mods (by rw [C6.out.1]; exact nd9 (by decide) (by decide) (by decide)))
          have X7 := Lib.hid (X6.out.mods HH.out.2.2.1.mods (by rw [C6.out.2]; exact nd9 (by decide) (by decide) (by decide)))
          have S7 := Lib.hid HH.out.2.2.2.2
          have HN7 := Lib.hid HH.out.1
          obtain ⟨hEE, hBB, Lw', PN1, PN2, PN3, PN4⟩ := fr_both P.out.1 P.out.2.1 (by have := HM1.out.2; omega) (by have := HM2.out.2; omega) P.out.2.2.1 P.out.2.2.2.1 (.inr (.inr (.inr rfl))) O5.out HH.out.2.1
          have PN : Hid (KpI C5 Lw' 20 m1 (N + 70) ∧ KpI C7 Lw' 20 m2 (N + 70) ∧ NoPins C5 ∧ NoPins C7 ∧ N + 70 ≤ 70 * (i + 1)) := Lib.hid ⟨PN1, PN2, PN3, PN4, by have := P.out.2.2.2.2; omega⟩
          have HBB := Lib.hid hBB
          subst hEE
          clear HH hBB PN1 PN2 PN3 PN4 P K6 G6 H6 T6 B6 R6 X6 C6 O5 e0 e1 e2 e3 e4 p0 p1
          have hEE : (E != E) = false := by simp
          go_upto_region 26 with (refine wpL_storeRow rfl _ _ _ rfl (cs := [.slice v7 N7 c7, .bool is7, .int .i64 _]) rfl rfl (Row.new _ _ _) (by kernel_rfl) rfl rfl ?_; intro w8 hg8 hr8)
          have hb8 : Below w7.heap.size w7 w8 := below_grown ((Below.refl _ _).alloc (Nat.le_refl _) _) hg8 (Nat.le_refl _) (by simp)
          have k8 := St.fresh hb8 (fun _ => False) col7
          have K8 := Lib.hid (K7.out.down hb8)
          have G8 := Lib.hid (G7.out.st k8 (fun h => h) (fun h => h) (fun h => h))
          have H8 := Lib.hid (H7.out.st k8 (fun h => h) (fun h => h) (fun h => h))
          have T8 := Lib.hid (T7.out.st k8 (fun h => h))
          have B8 := Lib.hid (B7'.out.st k8 (fun h => h))
          have S8 := Lib.hid (S7.out.st k8 (fun h => h))
          have e0 : w8.cell? ⟨wr.heap.size, 0, none⟩ = some (.int .i64 _) := (R7.out.after hb8).cell 0
          have f0 : w8.cell? ⟨w5.heap.size, 0, none⟩ = some (.slice v5 N5 c5) := (X7.out.after hb8).cell 0
          have f2 : w8.cell? ⟨w5.heap.size, 2, none⟩ = some (.int .i64 E) := (X7.out.after hb8).cell 2
          have g0 : w8.cell? ⟨w7.heap.size, 0, none⟩ = some (.slice v7 N7 c7) := hr8.cell 0
          have g2 : w8.cell? ⟨w7.heap.size, 2, none⟩ = some (.int .i64 E) := hr8.cell 2
          clear hb8 k8 hg8 hr8 K7 G7 H7 T7 B7' S7 R7 X7
          try go_frame
          go_wp2_with fail
          exact ⟨⟨i + 1, col7, C5, C7, Lw', N + 70, hlt, by go_num, K8, G8, H8, T8, PN⟩, by simp [intOf]; omega⟩
        · subst hK
          go_upto_region 23 with (refine wpL_storeRow rfl _ _ _ rfl (cs := [.int .i64 _, .int .i64 s, .slice aB nB cB, .slice aK nK cK, .int .i64 t]) rfl rfl (Row.new _ _ _) (by kernel_rfl) rfl rfl ?_; intro w4 hg4 hr4)
          have e0 : w4.cell? ⟨wr.heap.size, 0, none⟩ = some (.int .i64 _) := hr4.cell 0
          have hb4 : Below wr.heap.size wr w4 := below_grown ((Below.refl _ _).alloc (Nat.le_refl _) _) hg4 (Nat.le_refl _) (by simp)
          have HR4 := Lib.hid hr4
          clear hg4 hr4 hc0 hc1 hc2 hc3 hc4
          try go_frame
          go_wp2_with fail
          exact ⟨⟨i + 1, col, C1, C2, Lw, N, hlt, by go_num, Lib.hid (K.out.down hb4), Lib.hid (H1.out.st (St.fresh hb4 (fun _ => False) col) (fun h => h) (fun h => h) (fun h => h)), Lib.hid (H2.out.st (St.fresh hb4 (fun _ => False) col) (fun h => h) (fun h => h) (fun h => h)), Lib.hid (T.out.st (St.fresh hb4 (fun _ => False) col) (fun h => h)), Lib.hid ⟨P.out.1, P.out.2.1, P.out.2.2.1, P.out.2.2.2.1, by have := P.out.2.2.2.2; omega⟩⟩, by simp [intOf]; omega⟩
        · subst hK
          go_upto_region 23 with (refine wpL_storeRow rfl _ _ _ rfl (cs := [.int .i64 _, .int .i64 s, .slice aB nB cB, .slice aK nK cK, .int .i64 t]) rfl rfl (Row.new _ _ _) (by kernel_rfl) rfl rfl ?_; intro w4 hg4 hr4)
          have e0 : w4.cell? ⟨wr.heap.size, 0, none⟩ = some (.int .i64 _) := hr4.cell 0
          have hb4 : Below wr.heap.size wr w4 := below_grown ((Below.refl _ _).alloc (Nat.le_refl _) _) hg4 (Nat.le_refl _) (by simp)
          have HR4 := Lib.hid hr4
          clear hg4 hr4 hc0 hc1 hc2 hc3 hc4
          try go_frame
          go_wp2_with fail
          exact ⟨⟨i + 1, col, C1, C2, Lw, N, hlt, by go_num, Lib.hid (K.out.down hb4), Lib.hid (H1.out.st (St.fresh hb4 (fun _ => False) col) (fun h => h) (fun h => h) (fun h => h)), Lib.hid (H2.out.st (St.fresh hb4 (fun _ => False) col) (fun h => h) (fun h => h) (fun h => h)), Lib.hid (T.out.st (St.fresh hb4 (fun _ => False) col) (fun h => h)), Lib.hid ⟨P.out.1, P.out.2.1, P.out.2.2.1, P.out.2.2.2.1, by have := P.out.2.2.2.2; omega⟩⟩, by simp [intOf]; omega⟩
        · have m0 : (Kd != 0) = true := by simp [n0]
          have m1 : (Kd != 1) = true := by simp [n1]
          have m4 : (Kd != 4) = true := by simp [n4]
          have m6 : (Kd != 6) = true := by simp [n6]
          go_upto_region 23 with (refine wpL_storeRow rfl _ _ _ rfl (cs := [.int .i64 _, .int .i64 s, .slice aB nB cB, .slice aK nK cK, .int .i64 t]) rfl rfl (Row.new _ _ _) (by kernel_rfl) rfl rfl ?_; intro w4 hg4 hr4)
          have e0 : w4.cell? ⟨wr.heap.size, 0, none⟩ = some (.int .i64 _) := hr4.cell 0
          have hb4 : Below wr.heap.size wr w4 := below_grown ((Below.refl _ _).alloc (Nat.le_refl _) _) hg4 (Nat.le_refl _) (by simp)
          have HR4 := Lib.hid hr4
          clear hg4 hr4 hc0 hc1 hc2 hc3 hc4
          try go_frame
          go_wp2_with fail
          exact ⟨⟨i + 1, col, C1, C2, Lw, N, hlt, by go_num, Lib.hid (K.out.down hb4), Lib.hid (H1.out.st (St.fresh hb4 (fun _ => False) col) (fun h => h) (fun h => h) (fun h => h)), Lib.hid (H2.out.st (St.fresh hb4 (fun _ => False) col) (fun h => h) (fun h => h) (fun h => h)), Lib.hid (T.out.st (St.fresh hb4 (fun _ => False) col) (fun h => h)), Lib.hid ⟨P.out.1, P.out.2.1, P.out.2.2.1, P.out.2.2.2.1, by have := P.out.2.2.2.2; omega⟩⟩, by simp [intOf]; omega⟩
theorem cacheFrames_any (x y : Int) (hx : (Lit.int .u8 x).wf = true) (hy : (Lit.int .u8 y).wf = true) (a : Option Addr) (nO c : Nat) (L : List Opr) (w : World) (hl : SlOf VOp 5 w (.slice a nO c) L) :
    Calls Try.prog 3 #[.int .u8 x, .int .u8 y, .slice a nO c] w fun e w' => e = .returned (.bool true) ∧ Below w.heap.size w w' := by
  obtain ⟨F, hF, rfl⟩ := nat_u8 hx
  obtain ⟨G, hG, rfl⟩ := nat_u8 hy
  exact cacheFrames_walk F G hF hG a nO c L w hl
end Go.Proofs.Ytchjfmgfoifbcaa
