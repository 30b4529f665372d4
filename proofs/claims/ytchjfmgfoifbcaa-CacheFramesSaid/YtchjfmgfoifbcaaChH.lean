/-
  Law 05's works. No condition.
-/
import Derived.Test.YtchjfmgfoifbcaaChQ
import Derived.Test.YtchjfmgfoifbcaaDskJ
import Derived.Test.YtchjfmgfoifbcaaTree
namespace Go.Proofs.Ytchjfmgfoifbcaa
open Go.RowKit
set_option linter.unusedVariables false
set_option linter.unusedSimpArgs false
set_option maxRecDepth 100000

theorem dnew_p (n : Nat) (hn : 16 ≤ n ∧ n ≤ 4096) (c : Nat) (hc : c ≠ 0) (w : World) (col : Nat → Nat) : Calls Try.prog 10 #[.int .i64 (n : Int)] w fun e w' => ∃ b, e = .returned (.tuple #[.pointer (some ⟨b, 0, none⟩), .int .i64 0]) ∧ MadeNew 62 c col w b (newD n) w' := by
  refine (new_yes n c hc col w (Lib.hid (by simp [newIs]; omega))).mono ?_
  rintro e w' ⟨b, rfl, _, h⟩
  exact ⟨b, rfl, h⟩
theorem n15 : ¬ (5 : Nat) = 1 := by decide
theorem nz1 : ∀ c : Nat, CD 5 1 c → NZ c := fun c h => by rcases h with rfl | rfl <;> exact Nat.succ_ne_zero _
theorem one_sl (w : World) (x : UInt8) : Sl (w.alloc (.cells #[.int .u8 (x.toNat : Int)] 5 (1, 2))) 1 (.slice (some ⟨w.heap.size, 0, none⟩) 1 1) 1 (bvs [x]) := Sl.litF w (bvs [x]) 5 _ 1 rfl (by decide)
theorem not_cd {c cd : Nat} (hc : c ≠ 0) (hd : cd ≠ 0) : ¬ CD c cd 0 := fun h => by
  rcases h with h | h
  · exact hc h.symm
  · exact hd h.symm
theorem Sl.markR {w w' : World} {size m : Nat} {v : Value} {xs : List Value} (h : Sl w size v m xs) (hr : RbF w w') : Sl w' size v m xs := by
  obtain ⟨h0, a, c, e, h1, h2, h3, h4⟩ := h
  exact ⟨h0, a, c, e, h1, h2, h3, fun j u hu => by
    obtain ⟨b, off, e1, e2⟩ := h4 j u hu
    exact ⟨b, off, e1, hr.cell e2⟩⟩
set_option maxHeartbeats 8000000 in
theorem works_any (w : World) : Calls Try.prog 9 #[] w fun e w' => e = .returned (.bool true) ∧ Below w.heap.size w w' := by
  have kc := fun (w : World) (C : Array Value) (n c : Nat) => Lib.run_convert_bytes_const (P := Try.prog) w 34 5 C n c Try.underlying34 Try.underlying5
  go_enter Try.func9, Try.ntmps9
  go_wp2_with fail
  refine (dnew_p 16 (by decide) 1 (by decide) w col0).mono ?_
  rintro e w1 ⟨bd, rfl, col1, k1, h1⟩
  have K1 : Hid (St NZ col0 w col1 w1) := Lib.hid (k1.mono (fun _ h => h.elim))
  have H1 := Lib.hid h1
  clear k1 h1
  go_wp2_with fail
  refine (cnew_p 5 1 (by decide) col1 bd (newD 16) 2 w1 H1.out (by decide)).mono ?_
  rintro e w2 ⟨b, rfl, col2, k2, bm2, at2, h2, d2⟩
  have hb3 : Below w2.heap.size w2 (w2.alloc (.cells #[.int .u8 97] 5 (1, 2))) := (Below.refl _ _).alloc (Nat.le_refl _) _
  have K3 := Lib.hid ((K1.out.trans (k2.mono (fun _ h => h.elim))).trans (St.new hb3 NZ col2 0))
  have H3 : Hid (CkIn 5 (recol col2 w2.heap.size 0) (w2.alloc (.cells #[.int .u8 97] 5 (1, 2))) b wkC0 bd bm2 at2) := Lib.hid (h2.st (St.new hb3 (fun _ => False) col2 0) (fun h => h) (fun h => h))
  have D3 : Hid (DkAt 62 1 (recol col2 w2.heap.size 0) (w2.alloc (.cells #[.int .u8 97] 5 (1, 2))) bd wkC0.D) := Lib.hid (d2.st (St.new hb3 (fun _ => False) col2 0) (fun h => h) (fun h => h))
  have HCOL : Hid (∀ x, w2.heap.size ≤ x → recol col2 w2.heap.size 0 x = 0) := Lib.hid (fun x hx => recol_ge hx)
  clear k2 h2 d2 H1 K1 hb3
  generalize recol col2 w2.heap.size 0 = col3 at K3 H3 D3 HCOL
  go_wp2_with fail
  refine (cwr_p 5 1 col3 b bd bm2 wkC0 at2 16 0 3 (some ⟨w2.heap.size, 0, none⟩) 1 1 [97] _ H3.out D3.out wk_0.1 (by decide) n15 (by decide) (one_sl w2 97) (fun _ x hx => by
    rw [HCOL.out x (by simp [Value.ownBlock] at hx; omega)]
    exact not_cd (by decide) (by decide))).mono ?_
  rintro e w4 ⟨E, C1, rfl, HH⟩
  obtain ⟨rfl, _⟩ := wk_1 HH.out.1
  have HW1 := Lib.hid HH.out.1
  obtain ⟨col4, k4, bm4, at4, h4, d4⟩ := HH.out.2
  have hb5 : Below w4.heap.size w4 (w4.alloc (.cells #[.int .u8 98] 5 (1, 2))) := (Below.refl _ _).alloc (Nat.le_refl _) _
  have K5 := Lib.hid ((K3.out.trans (k4.mono nz1)).trans (St.new hb5 NZ col4 0))
  have H5 := Lib.hid (h4.st (St.new hb5 (fun _ => False) col4 0) (fun h => h) (fun h => h))
  have D5 := Lib.hid (d4.st (St.new hb5 (fun _ => False) col4 0) (fun h => h) (fun h => h))
  have HCOL5 : Hid (∀ x, w4.heap.size ≤ x → recol col4 w4.heap.size 0 x = 0) := Lib.hid (fun x hx => recol_ge hx)
  clear k4 h4 d4 H3 D3 K3 HH HCOL hb5
  generalize recol col4 w4.heap.size 0 = col5 at K5 H5 D5 HCOL5
  go_wp2_with fail
  refine (cwr_p 5 1 col5 b bd bm4 C1 at4 16 3 4 (some ⟨w4.heap.size, 0, none⟩) 1 1 [98] _ H5.out D5.out (wk_1 HW1.out).2.1 (by decide) n15 (by decide) (one_sl w4 98) (fun _ x hx => by
    rw [HCOL5.out x (by simp [Value.ownBlock] at hx; omega)]
    exact not_cd (by decide) (by decide))).mono ?_
  rintro e w6 ⟨E, C2, rfl, HH⟩
  obtain ⟨rfl, hwk2, hks2, hp2⟩ := wk_2 HW1.out HH.out.1
  have HK2 := Lib.hid (And.intro hwk2 (And.intro hks2 hp2))
  obtain ⟨col6, k6, bm6, at6, h6, d6⟩ := HH.out.2
  have K6 := Lib.hid (K5.out.trans (k6.mono nz1))
  have H6 := Lib.hid h6
  have D6 := Lib.hid d6
  clear k6 h6 d6 H5 D5 K5 HH HCOL5 hwk2 hks2 hp2 HW1
  go_wp2_with fail
  refine (cread_p 5 1 col6 b bd bm6 C2 at6 16 6 5 w6 H6.out D6.out HK2.out.1.live (by decide) n15 (by decide)).mono ?_
  rintro e w7 hrd
  obtain ⟨C3, a7, c7, col7, rfl, HH⟩ : ∃ C' a cc col', e = .returned (.tuple #[.slice a 256 cc, .int .i64 0]) ∧ Hid (BringR 16 C2 5 0 C' ∧ St (CD 5 1) col6 w6 col' w7 ∧ CkAt 5 1 col' w7 b bd C' ∧ OwnC col' w7 9 1 (.slice a 256 cc) 256 (bvs (C'.F 5).b)) := by
    rcases hrd with h | ⟨E, C', hE, _, HH⟩
    · exact h
    · have := (wk_3 HK2.out.1 HK2.out.2.1 HK2.out.2.2 HH.out.1).1
      omega
  have HK3 := Lib.hid (wk_3 HK2.out.1 HK2.out.2.1 HK2.out.2.2 HH.out.1).2
  obtain ⟨bm7, at7, h7, d7⟩ := HH.out.2.2.1
  have K7 := Lib.hid (K6.out.trans (HH.out.2.1.mono nz1))
  have H7 := Lib.hid h7
  have D7 := Lib.hid d7
  clear h7 d7 H6 D6 K6 HH HK2 hrd
  go_wp2_with fail
  refine (held_p 5 col7 b bd bm7 C3 at7 w7 H7.out (by rw [HK3.out.2.1]; decide)).mono ?_
  rintro e w8 ⟨rfl, hb8⟩
  rw [HK3.out.2.1, HK3.out.2.2.2]
  have K8 := Lib.hid (K7.out.trans (St.fresh hb8 NZ col7))
  have H8 := Lib.hid (H7.out.st (St.fresh hb8 (fun _ => False) col7) (fun h => h) (fun h => h))
  have D8 := Lib.hid (D7.out.st (St.fresh hb8 (fun _ => False) col7) (fun h => h) (fun h => h))
  clear hb8 H7 D7 K7
  go_wp2_with fail
  refine (cread_p 5 1 col7 b bd bm7 C3 at7 16 9 3 w8 H8.out D8.out HK3.out.1.live (by decide) n15 (by decide)).mono ?_
  rintro e w9 hrd
  obtain ⟨C4, a9, c9, col9, rfl, HH⟩ : ∃ C' a cc col', e = .returned (.tuple #[.slice a 256 cc, .int .i64 0]) ∧ Hid (BringR 16 C3 3 0 C' ∧ St (CD 5 1) col7 w8 col' w9 ∧ CkAt 5 1 col' w9 b bd C' ∧ OwnC col' w9 9 1 (.slice a 256 cc) 256 (bvs (C'.F 3).b)) := by
    rcases hrd with h | ⟨E, C', hE, _, HH⟩
    · exact h
    · have := (wk_4 HK3.out.1 HK3.out.2.1 HK3.out.2.2.1 HH.out.1).1
      omega
  have HK4 := Lib.hid (wk_4 HK3.out.1 HK3.out.2.1 HK3.out.2.2.1 HH.out.1).2
  obtain ⟨bm9, at9, h9, d9⟩ := HH.out.2.2.1
  have K9 := Lib.hid (K8.out.trans (HH.out.2.1.mono nz1))
  have H9 := Lib.hid h9
  have D9 := Lib.hid d9
  have O9 : Hid (OwnC col9 w9 9 1 (.slice a9 256 c9) 256 (bvs (fullB [97]))) := Lib.hid (by rw [← HK4.out.2.2.2.1]; exact HH.out.2.2.2)
  clear h9 d9 H8 D8 K8 HH HK3 hrd
  go_wp2_with fail
  refine (pin_p 5 1 col9 b bd bm9 C4 at9 16 12 3 w9 H9.out D9.out HK4.out.1.live (by decide) n15 (by decide)).mono ?_
  rintro e wa ⟨E, C5, rfl, HH⟩
  obtain ⟨rfl, hwk⟩ := wk_5 HK4.out.1 HK4.out.2.1 HK4.out.2.2.1 HK4.out.2.2.2.2 HH.out.1
  have HK5 := Lib.hid hwk
  obtain ⟨cola, ka, bma, ata, ha, da⟩ := HH.out.2
  have Ka := Lib.hid (K9.out.trans (ka.mono nz1))
  have Ha := Lib.hid ha
  have Da := Lib.hid da
  have Oa := Lib.hid (O9.out.st ka (fun h => by rcases h with h | h <;> cases h))
  clear ka ha da H9 D9 K9 O9 HH HK4 hwk
  go_wp2_with fail
  refine (pin_p 5 1 cola b bd bma C5 ata 16 16 5 wa Ha.out Da.out HK5.out.1.live (by decide) n15 (by decide)).mono ?_
  rintro e wb ⟨E, C6, rfl, HH⟩
  obtain ⟨rfl, hwk⟩ := wk_6 HK5.out.1 HK5.out.2.1 HK5.out.2.2.1 HK5.out.2.2.2 HH.out.1
  have HK6 := Lib.hid hwk
  obtain ⟨colb, kb, bmb, atb, hb, db⟩ := HH.out.2
  have Kb := Lib.hid (Ka.out.trans (kb.mono nz1))
  have Hb := Lib.hid hb
  have Db := Lib.hid db
  have Ob := Lib.hid (Oa.out.st kb (fun h => by rcases h with h | h <;> cases h))
  clear kb hb db Ha Da Ka Oa HH HK5 hwk
  go_wp2_with fail
  refine (cread_p 5 1 colb b bd bmb C6 atb 16 20 6 wb Hb.out Db.out HK6.out.1.live (by decide) n15 (by decide)).mono ?_
  rintro e wc hrd
  obtain ⟨C7, rfl, HH⟩ : ∃ C', e = .returned (.tuple #[.slice none 0 0, .int .i64 3]) ∧ Hid (C' = C6 ∧ Left 5 1 colb wb b bd C' wc) := by
    rcases hrd with ⟨C', a, cc, col', _, HH⟩ | ⟨E, C', hE, he, HH⟩
    · have := (wk_7 HK6.out.1 HK6.out.2.1 HK6.out.2.2.1 HK6.out.2.2.2 HH.out.1).1
      omega
    · obtain ⟨h3, h4⟩ := wk_7 HK6.out.1 HK6.out.2.1 HK6.out.2.2.1 HK6.out.2.2.2 HH.out.1
      subst h3
      exact ⟨C', he, Lib.hid ⟨h4, HH.out.2⟩⟩
  obtain rfl : C7 = C6 := HH.out.1
  obtain ⟨colc, kc2, bmc, atc, hc, dc⟩ := HH.out.2
  have Kc := Lib.hid (Kb.out.trans (kc2.mono nz1))
  have Hc := Lib.hid hc
  have Dc := Lib.hid dc
  have Oc := Lib.hid (Ob.out.st kc2 (fun h => by rcases h with h | h <;> cases h))
  clear kc2 hc dc Hb Db Kb Ob HH hrd
  go_wp2_with fail
  refine (flush_p 5 1 colc b bd bmc C7 atc 16 20 wc Hc.out Dc.out HK6.out.1.live (by decide) n15).mono ?_
  rintro e wd ⟨rfl, C8, HH⟩
  have HK8 := Lib.hid (wk_8 HK6.out.1 HH.out.1)
  obtain ⟨cold, kd, bmd, atd, hd, dd⟩ := HH.out.2
  have Kd := Lib.hid (Kc.out.trans (kd.mono nz1))
  have Dd := Lib.hid dd
  have Od := Lib.hid (Oc.out.st kd (fun h => by rcases h with h | h <;> cases h))
  clear kd hd dd Hc Dc Kc Oc HH HK6
  obtain ⟨N8, hN8, hlv8⟩ := HK8.out.2
  have HS1 : Hid (C8.D.S.length = 16 ∧ C8.D.S.length ≤ 1048576) := Lib.hid ⟨hlv8.D.len, by rw [hlv8.D.len]; decide⟩
  have HLe : Hid (∀ l ∈ C8.D.S, l.length ≤ 1048576) := Lib.hid (fun l hl => by have := hlv8.D.fits.fit.sl l hl; omega)
  have H4 := Lib.hid HK8.out.1
  clear hlv8 hN8
  go_wp2_with fail
  refine wp_region_tree RbF RbF_refl RbF_trans (.node [(0,0),(0,1),(0,2),(0,3),(0,4),(0,5),(0,6),(0,7),(0,8),(0,9),(0,10),(0,11),(0,12),(0,13),(0,14),(0,15),(1,16),(1,17),(1,18),(1,19),(0,20),(0,21),(0,22),(0,23),(0,24),(0,25),(0,26),(0,27),(0,28),(0,29),(0,30),(0,31),(0,32),(0,33),(0,34),(0,35),(0,36),(0,37),(0,38)] 39 (.leaf [(0,40),(0,41),(1,42),(1,43),(1,44),(1,45),(0,46),(0,47)]) 42 (.node [] 39 (.leaf [(0,40),(0,41),(1,43),(1,44),(1,45),(0,46),(0,47)]) 43 (.leaf [(1,39),(0,40),(0,41),(1,44),(1,45),(0,46),(0,47)]))) (by kernel_rfl) (by kernel_rfl) ?_
  simp only [wpTree, pickO, List.getD_cons_succ, List.getD_cons_zero]
  obtain ⟨wz, hwz⟩ : ∃ x, x = wd.drew := ⟨_, rfl⟩
  have HBZ : Hid (Below wd.heap.size wd wz) := Lib.hid (by rw [hwz]; exact (Below.refl _ _).drew)
  rw [← hwz]
  clear hwz
  refine wpCan_seg 16 (by kernel_rfl) ?_
  simp only [List.take_succ_cons, List.take_zero, List.drop_succ_cons, List.drop_zero, List.map_cons, List.map_nil]
  iterate 16 (go_big_quiet_step (fail))
  refine wpQuiet_nil ?_
  refine wpCan_list (k := 0) (fun KK hK => ?_) (fun _ => RbF_refl _)
  go_wp2_with fail
  refine hK _ _ (fun _ => RbF.of ((Below.refl _ _).alloc (Nat.le_refl _) _)) ?_
  clear hK KK
  obtain ⟨gA, hgA⟩ : ∃ g, g = (wz).heap.size := ⟨_, rfl⟩
  have HBA0 : ((wz).alloc (.cells #[.int .u8 97] 5)).heap[gA]? = some (.cells #[.int .u8 97] 5) := by rw [hgA]; exact heap_alloc_new wz _
  have HAB0 : Below (wz).heap.size wz ((wz).alloc (.cells #[.int .u8 97] 5)) := (Below.refl _ _).alloc (Nat.le_refl _) _
  have HGL0 : gA < ((wz).alloc (.cells #[.int .u8 97] 5)).heap.size := lt_of_block HBA0
  have HGA : Hid ((wz).heap.size ≤ gA) := Lib.hid (by rw [hgA]; exact Nat.le_refl _)
  rw [← hgA]
  generalize (wz).alloc (.cells #[.int .u8 97] 5) = wA at HBA0 HAB0 HGL0 ⊢
  have HBA := Lib.hid HBA0
  have HAB := Lib.hid HAB0
  have HGL := Lib.hid HGL0
  clear hgA HBA0 HAB0 HGL0
  have hq16 : wA.heap[gA]? = some (.cells #[.int .u8 97] 5) := HBA.out
  obtain ⟨wB, hrun, hlb, hmb, hmr⟩ := run_markB (P := Try.prog) (t := 34) (n := 1) (c := 1) (show (wA).heap[gA]? = some (.cells #[.int .u8 97] 5) by assumption) Try.underlying34 Try.underlying5
  refine wpCan_list (k := 0) (fun KK hK => ?_) (fun _ => RbF_refl _)
  go_wp2_with fail
  refine hK _ _ (fun _ => hmr) ?_
  clear hK KK hrun
  have HLB := Lib.hid hlb
  have HMB := Lib.hid hmb
  have HMR := Lib.hid hmr
  clear hlb hmb hmr
  have HB1 : Hid (Below wd.heap.size wd wB) := Lib.hid (HBZ.out.trans ((HAB.out.trans (HMB.out _ HGA.out)).mono HBZ.out.size))
  have HS97 := Lib.hid (Sl.marked (l := [97]) HLB.out rfl (by decide))
  clear HBA HAB HMB HGA HLB hq16
  refine wpCan_list (k := 0) (fun KK hK => ?_) (fun _ => RbF_refl _)
  go_wp2_with fail
  refine (full_any (some ⟨gA, 0, none⟩) 1 1 [97] wB HS97.out (by decide)).mono ?_
  rintro e wC ⟨g18, o18, rfl, ho18, hb18⟩
  go_wp2_with fail
  refine hK _ _ (fun _ => RbF.of hb18) ?_
  clear hK KK
  have HB2 := Lib.hid (HB1.out.trans (hb18.mono HB1.out.size))
  have HO18 := Lib.hid ho18
  have HSd := Lib.hid (Od.out.1.sl.below HB2.out)
  clear ho18 hb18
  refine wpCan_list (k := 0) (fun KK hK => ?_) (fun _ => RbF_refl _)
  go_wp2_with fail
  refine (same_any a9 256 c9 (some ⟨g18, o18, none⟩) 256 256 (fullB [97]) (fullB [97]) wC HSd.out HO18.out.sl true (Lib.hid (by simp))).mono ?_
  rintro e wD ⟨rfl, rfl⟩
  go_wp2_with fail
  refine hK _ _ (fun _ => RbF_refl _) ?_
  clear hK KK HO18 HSd HS97
  refine wpCan_seg 19 (by kernel_rfl) ?_
  simp only [List.take_succ_cons, List.take_zero, List.drop_succ_cons, List.drop_zero, List.map_cons, List.map_nil]
  iterate 19 (go_big_quiet_step (fail))
  refine wpQuiet_nil ?_
  have DC := Lib.hid (Dd.out.st (St.fresh HB2.out (fun _ => False) cold) (fun h => h) (fun h => h))
  unfold wpCan
  refine ⟨?_, ?_⟩
  · refine wpCan_list (k := 0) (fun KK hK => ?_) (fun _ => RbF_refl _)
    go_wp2_with fail
    refine (image_p 1 cold bd C8.D wC (DC).out HS1.out.2 HLe.out).mono ?_
    rintro e wE ⟨v39, us39, rfl, hi39, hb39⟩
    rw [HS1.out.1] at hi39
    obtain ⟨a39, c39, rfl⟩ := hi39.own.form
    go_wp2_with fail
    refine hK _ _ (fun _ => RbF.of hb39) ?_
    clear hK KK
    obtain ⟨gE, oE, avE, cvE, rfl, hcE, hsE⟩ := hi39.imr.at 4 (by decide)
    rw [H4.out] at hcE hsE
    have hfl : (fullB [98]).length = 256 := fullB_len (by decide)
    rw [hfl] at hcE hsE
    have q41 := laterF_cell hcE
    have HSE := Lib.hid hsE
    have HBI := Lib.hid hb39
    have HBE := Lib.hid ((HB2).out.trans (hb39.mono (HB2).out.size))
    clear hi39 hb39 hcE hsE hfl
    unfold wpCan
    refine wpCan_seg 2 (by kernel_rfl) ?_
    simp only [List.take_succ_cons, List.take_zero, List.drop_succ_cons, List.drop_zero, List.map_cons, List.map_nil]
    iterate 2 (go_big_quiet_step (fail))
    refine wpQuiet_nil ?_
    clear q41
    refine wpCan_list (k := 0) (fun KK hK => ?_) (fun _ => RbF_refl _)
    go_wp2_with fail
    refine hK _ _ (fun _ => RbF.of ((Below.refl _ _).alloc (Nat.le_refl _) _)) ?_
    clear hK KK
    obtain ⟨gA, hgA⟩ : ∃ g, g = (wE).heap.size := ⟨_, rfl⟩
    have HBA0 : ((wE).alloc (.cells #[.int .u8 98] 5)).heap[gA]? = some (.cells #[.int .u8 98] 5) := by rw [hgA]; exact heap_alloc_new wE _
    have HAB0 : Below (wE).heap.size wE ((wE).alloc (.cells #[.int .u8 98] 5)) := (Below.refl _ _).alloc (Nat.le_refl _) _
    have HGL0 : gA < ((wE).alloc (.cells #[.int .u8 98] 5)).heap.size := lt_of_block HBA0
    have HGA : Hid ((wE).heap.size ≤ gA) := Lib.hid (by rw [hgA]; exact Nat.le_refl _)
    rw [← hgA]
    generalize (wE).alloc (.cells #[.int .u8 98] 5) = wA at HBA0 HAB0 HGL0 ⊢
    have HBA := Lib.hid HBA0
    have HAB := Lib.hid HAB0
    have HGL := Lib.hid HGL0
    clear hgA HBA0 HAB0 HGL0
    have hq42 : wA.heap[gA]? = some (.cells #[.int .u8 98] 5) := HBA.out
    obtain ⟨wB, hrun, hlb, hmb, hmr⟩ := run_markB (P := Try.prog) (t := 34) (n := 1) (c := 1) (show (wA).heap[gA]? = some (.cells #[.int .u8 98] 5) by assumption) Try.underlying34 Try.underlying5
    refine wpCan_list (k := 0) (fun KK hK => ?_) (fun _ => RbF_refl _)
    go_wp2_with fail
    refine hK _ _ (fun _ => hmr) ?_
    clear hK KK hrun
    have HLB := Lib.hid hlb
    have HMB := Lib.hid hmb
    have HMR := Lib.hid hmr
    clear hlb hmb hmr
    have HB5 : Hid (Below wE.heap.size wE wB) := Lib.hid (HAB.out.trans (HMB.out _ HGA.out))
    have HS98 := Lib.hid (Sl.marked (l := [98]) HLB.out rfl (by decide))
    have HSE5 := Lib.hid (HSE.out.below HB5.out)
    have HBB := Lib.hid (HBE.out.trans (HB5.out.mono HBE.out.size))
    refine wpCan_list (k := 0) (fun KK hK => ?_) (fun _ => RbF_refl _)
    go_wp2_with fail
    refine (full_any (some ⟨gA, 0, none⟩) 1 1 [98] wB (HS98).out (by decide)).mono ?_
    rintro e wF ⟨g44, o44, rfl, ho44, hb44⟩
    go_wp2_with fail
    refine hK _ _ (fun _ => RbF.of hb44) ?_
    clear hK KK
    refine wpCan_list (k := 0) (fun KK hK => ?_) (fun _ => RbF_refl _)
    go_wp2_with fail
    refine (same_any avE 256 cvE (some ⟨g44, o44, none⟩) 256 256 (fullB [98]) (fullB [98]) wF ((HSE5).out.below hb44) ho44.sl true (Lib.hid (by simp))).mono ?_
    rintro e wG ⟨rfl, rfl⟩
    go_wp2_with fail
    refine hK _ _ (fun _ => RbF_refl _) ?_
    clear hK KK
    refine wpCan_seg 2 (by kernel_rfl) ?_
    simp only [List.take_succ_cons, List.take_zero, List.drop_succ_cons, List.drop_zero, List.map_cons, List.map_nil]
    iterate 2 (go_big_quiet_step (fail))
    refine wpQuiet_nil ?_
    unfold wpCan
    go_wp2_with fail
    go_ret
    exact ⟨rfl, (Kd.out.below.trans ((HBB).out.mono Kd.out.below.size)).trans (hb44.mono (Nat.le_trans Kd.out.below.size (HBB).out.size))⟩
  · refine wpCan_list (k := 0) (fun KK hK => ?_) (fun _ => RbF_refl _)
    go_wp2_with fail
    refine hK _ _ (fun _ => RbF.of ((Below.refl _ _).alloc (Nat.le_refl _) _)) ?_
    clear hK KK
    obtain ⟨gA, hgA⟩ : ∃ g, g = (wC).heap.size := ⟨_, rfl⟩
    have HBA0 : ((wC).alloc (.cells #[.int .u8 98] 5)).heap[gA]? = some (.cells #[.int .u8 98] 5) := by rw [hgA]; exact heap_alloc_new wC _
    have HAB0 : Below (wC).heap.size wC ((wC).alloc (.cells #[.int .u8 98] 5)) := (Below.refl _ _).alloc (Nat.le_refl _) _
    have HGL0 : gA < ((wC).alloc (.cells #[.int .u8 98] 5)).heap.size := lt_of_block HBA0
    have HGA : Hid ((wC).heap.size ≤ gA) := Lib.hid (by rw [hgA]; exact Nat.le_refl _)
    rw [← hgA]
    generalize (wC).alloc (.cells #[.int .u8 98] 5) = wA at HBA0 HAB0 HGL0 ⊢
    have HBA := Lib.hid HBA0
    have HAB := Lib.hid HAB0
    have HGL := Lib.hid HGL0
    clear hgA HBA0 HAB0 HGL0
    have hq42 : wA.heap[gA]? = some (.cells #[.int .u8 98] 5) := HBA.out
    have HB3 := Lib.hid (HB2.out.trans (HAB.out.mono HB2.out.size))
    have DA := Lib.hid (DC.out.st (St.fresh HAB.out (fun _ => False) cold) (fun h => h) (fun h => h))
    unfold wpCan
    unfold wpCan
    refine ⟨?_, ?_⟩
    · refine wpCan_list (k := 0) (fun KK hK => ?_) (fun _ => RbF_refl _)
      go_wp2_with fail
      refine (image_p 1 cold bd C8.D wA (DA).out HS1.out.2 HLe.out).mono ?_
      rintro e wE ⟨v39, us39, rfl, hi39, hb39⟩
      rw [HS1.out.1] at hi39
      obtain ⟨a39, c39, rfl⟩ := hi39.own.form
      go_wp2_with fail
      refine hK _ _ (fun _ => RbF.of hb39) ?_
      clear hK KK
      obtain ⟨gE, oE, avE, cvE, rfl, hcE, hsE⟩ := hi39.imr.at 4 (by decide)
      rw [H4.out] at hcE hsE
      have hfl : (fullB [98]).length = 256 := fullB_len (by decide)
      rw [hfl] at hcE hsE
      have q41 := laterF_cell hcE
      have HSE := Lib.hid hsE
      have HBI := Lib.hid hb39
      have HBE := Lib.hid ((HB3).out.trans (hb39.mono (HB3).out.size))
      clear hi39 hb39 hcE hsE hfl
      unfold wpCan
      have hq43 : wE.heap[gA]? = some (.cells #[.int .u8 98] 5) := (HBI.out.block gA HGL.out).trans hq42
      refine wpCan_seg 2 (by kernel_rfl) ?_
      simp only [List.take_succ_cons, List.take_zero, List.drop_succ_cons, List.drop_zero, List.map_cons, List.map_nil]
      iterate 2 (go_big_quiet_step (fail))
      refine wpQuiet_nil ?_
      clear q41
      obtain ⟨wB, hrun, hlb, hmb, hmr⟩ := run_markB (P := Try.prog) (t := 34) (n := 1) (c := 1) (show (wE).heap[gA]? = some (.cells #[.int .u8 98] 5) by assumption) Try.underlying34 Try.underlying5
      refine wpCan_list (k := 0) (fun KK hK => ?_) (fun _ => RbF_refl _)
      go_wp2_with fail
      refine hK _ _ (fun _ => hmr) ?_
      clear hK KK hrun
      have HLB := Lib.hid hlb
      have HMB := Lib.hid hmb
      have HMR := Lib.hid hmr
      clear hlb hmb hmr
      have HS98 := Lib.hid (Sl.marked (l := [98]) HLB.out rfl (by decide))
      have HB5 : Hid (Below wC.heap.size wE wB) := Lib.hid (HMB.out _ HGA.out)
      have HSE5 := Lib.hid (HSE.out.markR HMR.out)
      have HBB := Lib.hid (HBE.out.trans (HMB.out _ (Nat.le_trans HB2.out.size HGA.out)))
      refine wpCan_list (k := 0) (fun KK hK => ?_) (fun _ => RbF_refl _)
      go_wp2_with fail
      refine (full_any (some ⟨gA, 0, none⟩) 1 1 [98] wB (HS98).out (by decide)).mono ?_
      rintro e wF ⟨g44, o44, rfl, ho44, hb44⟩
      go_wp2_with fail
      refine hK _ _ (fun _ => RbF.of hb44) ?_
      clear hK KK
      refine wpCan_list (k := 0) (fun KK hK => ?_) (fun _ => RbF_refl _)
      go_wp2_with fail
      refine (same_any avE 256 cvE (some ⟨g44, o44, none⟩) 256 256 (fullB [98]) (fullB [98]) wF ((HSE5).out.below hb44) ho44.sl true (Lib.hid (by simp))).mono ?_
      rintro e wG ⟨rfl, rfl⟩
      go_wp2_with fail
      refine hK _ _ (fun _ => RbF_refl _) ?_
      clear hK KK
      refine wpCan_seg 2 (by kernel_rfl) ?_
      simp only [List.take_succ_cons, List.take_zero, List.drop_succ_cons, List.drop_zero, List.map_cons, List.map_nil]
      iterate 2 (go_big_quiet_step (fail))
      refine wpQuiet_nil ?_
      unfold wpCan
      go_wp2_with fail
      go_ret
      exact ⟨rfl, (Kd.out.below.trans ((HBB).out.mono Kd.out.below.size)).trans (hb44.mono (Nat.le_trans Kd.out.below.size (HBB).out.size))⟩
    · obtain ⟨wB, hrun, hlb, hmb, hmr⟩ := run_markB (P := Try.prog) (t := 34) (n := 1) (c := 1) (show (wA).heap[gA]? = some (.cells #[.int .u8 98] 5) by assumption) Try.underlying34 Try.underlying5
      refine wpCan_list (k := 0) (fun KK hK => ?_) (fun _ => RbF_refl _)
      go_wp2_with fail
      refine hK _ _ (fun _ => hmr) ?_
      clear hK KK hrun
      have HLB := Lib.hid hlb
      have HMB := Lib.hid hmb
      have HMR := Lib.hid hmr
      clear hlb hmb hmr
      unfold wpCan
      have HB4 := Lib.hid (HB3.out.trans (HMB.out _ (Nat.le_trans HB2.out.size HGA.out)))
      have HS98 := Lib.hid (Sl.marked (l := [98]) HLB.out rfl (by decide))
      have DB := Lib.hid (Dd.out.st (St.fresh HB4.out (fun _ => False) cold) (fun h => h) (fun h => h))
      refine wpCan_list (k := 0) (fun KK hK => ?_) (fun _ => RbF_refl _)
      go_wp2_with fail
      refine (image_p 1 cold bd C8.D wB (DB).out HS1.out.2 HLe.out).mono ?_
      rintro e wE ⟨v39, us39, rfl, hi39, hb39⟩
      rw [HS1.out.1] at hi39
      obtain ⟨a39, c39, rfl⟩ := hi39.own.form
      go_wp2_with fail
      refine hK _ _ (fun _ => RbF.of hb39) ?_
      clear hK KK
      obtain ⟨gE, oE, avE, cvE, rfl, hcE, hsE⟩ := hi39.imr.at 4 (by decide)
      rw [H4.out] at hcE hsE
      have hfl : (fullB [98]).length = 256 := fullB_len (by decide)
      rw [hfl] at hcE hsE
      have q41 := laterF_cell hcE
      have HSE := Lib.hid hsE
      have HBI := Lib.hid hb39
      have HBE := Lib.hid ((HB4).out.trans (hb39.mono (HB4).out.size))
      clear hi39 hb39 hcE hsE hfl
      refine wpCan_seg 2 (by kernel_rfl) ?_
      simp only [List.take_succ_cons, List.take_zero, List.drop_succ_cons, List.drop_zero, List.map_cons, List.map_nil]
      iterate 2 (go_big_quiet_step (fail))
      refine wpQuiet_nil ?_
      clear q41
      have HS98e := Lib.hid (HS98.out.below HBI.out)
      refine wpCan_list (k := 0) (fun KK hK => ?_) (fun _ => RbF_refl _)
      go_wp2_with fail
      refine (full_any (some ⟨gA, 0, none⟩) 1 1 [98] wE (HS98e).out (by decide)).mono ?_
      rintro e wF ⟨g44, o44, rfl, ho44, hb44⟩
      go_wp2_with fail
      refine hK _ _ (fun _ => RbF.of hb44) ?_
      clear hK KK
      refine wpCan_list (k := 0) (fun KK hK => ?_) (fun _ => RbF_refl _)
      go_wp2_with fail
      refine (same_any avE 256 cvE (some ⟨g44, o44, none⟩) 256 256 (fullB [98]) (fullB [98]) wF ((HSE).out.below hb44) ho44.sl true (Lib.hid (by simp))).mono ?_
      rintro e wG ⟨rfl, rfl⟩
      go_wp2_with fail
      refine hK _ _ (fun _ => RbF_refl _) ?_
      clear hK KK
      refine wpCan_seg 2 (by kernel_rfl) ?_
      simp only [List.take_succ_cons, List.take_zero, List.drop_succ_cons, List.drop_zero, List.map_cons, List.map_nil]
      iterate 2 (go_big_quiet_step (fail))
      refine wpQuiet_nil ?_
      unfold wpCan
      go_wp2_with fail
      go_ret
      exact ⟨rfl, (Kd.out.below.trans ((HBE).out.mono Kd.out.below.size)).trans (hb44.mono (Nat.le_trans Kd.out.below.size (HBE).out.size))⟩
end Go.Proofs.Ytchjfmgfoifbcaa
