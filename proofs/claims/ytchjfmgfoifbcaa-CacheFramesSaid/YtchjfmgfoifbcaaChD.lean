/-
  A cache's Write, Unpin, Drop. Conditions: the cache reads as one, its disk's power stays.
-/
import Derived.Test.YtchjfmgfoifbcaaChC
namespace Go.Proofs.Ytchjfmgfoifbcaa
open Go.RowKit
set_option linter.unusedVariables false
set_option linter.unusedSimpArgs false
set_option maxRecDepth 100000

theorem full_splice_m {l : List UInt8} {n m : Nat} (hl : l.length = n) (hn : n ≤ m) : splice (List.replicate m (Value.int .u8 0)) 0 ((bvs l).take n) = bvs (l ++ List.replicate (m - n) 0) := by
  rw [List.take_of_length_le (by rw [bvs_length]; omega), bvs_append, bvs_replicate, splice]
  simp [hl, bvs]
theorem full_splice {l : List UInt8} {n : Nat} (hl : l.length = n) (hn : n ≤ 256) : splice (List.replicate 256 (Value.int .u8 0)) 0 ((bvs l).take n) = bvs (fullB l) := by
  rw [full_splice_m hl hn, fullB, hl]
set_option maxHeartbeats 4000000 in
theorem cwr_p (c cd : Nat) (col : Nat → Nat) (b bd bm : Nat) (C : Ch) (at_ : Int → Option Nat) (n N : Nat) (s : Int) (aB : Option Addr) (nB cB : Nat) (l : List UInt8) (w : World) (h : CkIn c col w b C bd bm at_) (hd : DkAt 62 cd col w bd C.D) (HL : LiveC C n N) (hN : N < 1000000000 - 10) (hcc : ¬ c = cd) (hn : n ≤ 4096)
    (hs : Sl w 1 (.slice aB nB cB) nB (bvs l)) (hB : l ≠ [] → ∀ x, (Value.slice aB nB cB).ownBlock = some x → ¬ CD c cd (col x)) :
    Calls Try.prog 18 #[.pointer (some ⟨b, 0, none⟩), .int .i64 s, .slice aB nB cB] w (StepP (WriteR n C s l) c cd col w b bd) := by
  have H := Lib.hid h
  have HD := Lib.hid hd
  have HLL := Lib.hid HL
  have HCC := Lib.hid hcc
  have HS := Lib.hid hs
  have HB := Lib.hid hB
  have HL2 : Hid (nB = l.length) := Lib.hid hs.len.1.symm
  clear h hd HL hcc hs hB
  rcases mayE_one (n := n) (s := s) with hm | hm
  rotate_left
  · have HM := Lib.hid hm.symm
    clear hm
    go_enter Try.func18, Try.ntmps18
    go_wp2_with fail
    refine (mayC_p c cd col b bd bm C at_ n N s w H.out HD.out HLL.out 1 HM).mono ?_
    rintro e w1 ⟨rfl, rfl⟩
    go_wp2_with fail
    go_ret
    exact ⟨1, C, rfl, Lib.hid ⟨.inl ⟨HM.out.symm, rfl, rfl⟩, Left.refl ⟨bm, at_, H.out, HD.out⟩⟩⟩
  obtain ⟨q, rfl, hq⟩ := mayE_yes hm
  have HM := Lib.hid hm.symm
  have hwf := zwf hq hn
  clear hm
  by_cases hbig : 256 < nB
  · have hbig' : (256 : Int) < nB := by omega
    go_enter Try.func18, Try.ntmps18
    go_wp2_with fail
    refine (mayC_p c cd col b bd bm C at_ n N q w H.out HD.out HLL.out 0 HM).mono ?_
    rintro e w1 ⟨rfl, rfl⟩
    go_wp2_with fail
    go_ret
    exact ⟨1, C, rfl, Lib.hid ⟨.inr (.inl ⟨HM.out.symm, by rw [← HL2.out]; exact hbig, rfl, rfl⟩), Left.refl ⟨bm, at_, H.out, HD.out⟩⟩⟩
  have hbig' : ¬ (256 : Int) < nB := by omega
  have hnB : nB ≤ 256 := by omega
  have HLE : Hid (l.length ≤ 256) := Lib.hid (by rw [← HL2.out]; exact hnB)
  clear hbig
  have hlk := H.out.look mapT zeroPfr hwf
  have c3 := H.out.c3
  by_cases hk : (q : Int) ∈ C.ks
  · obtain ⟨g, hg, hgb, hgm, _⟩ := H.out.fr q hk
    rw [ptrV_some hg] at hlk
    go_enter Try.func18, Try.ntmps18
    go_wp2_with fail
    refine (mayC_p c cd col b bd bm C at_ n N q w H.out HD.out HLL.out 0 HM).mono ?_
    rintro e w1 ⟨rfl, rfl⟩
    go_wp2_with fail
    have hck := HLL.out.clk
    refine (use_p c col b bd bm C at_ q g w H.out hk hg (by omega)).mono ?_
    rintro e w6 ⟨rfl, h6, k6⟩
    have H6 := Lib.hid h6
    have K6 : Hid (St (CD c cd) col w col w6) := Lib.hid (k6.mono (fun _ h => .inl h))
    have D6 := Lib.hid (HD.out.st k6 (fun e => H.out.nz e.symm) (fun e => HCC.out e.symm))
    have HMEM := Lib.hid hk
    have HGS := Lib.hid hg
    obtain ⟨C2, hC2⟩ : ∃ C2, C2 = useC C q := ⟨_, rfl⟩
    have HC2 := Lib.hid hC2
    rw [← hC2] at H6
    obtain ⟨col6, hcol6⟩ : ∃ x, x = col := ⟨_, rfl⟩
    obtain ⟨bm6, hbm6⟩ : ∃ x, x = bm := ⟨_, rfl⟩
    obtain ⟨at6, hat6⟩ : ∃ x, x = at_ := ⟨_, rfl⟩
    have HMEM : Hid ((q : Int) ∈ C2.ks) := Lib.hid (by rw [hC2]; exact hk)
    have D6 : Hid (DkAt 62 cd col6 w6 bd C2.D) := Lib.hid (by rw [hC2, hcol6]; exact D6.out)
    rw [← hcol6] at H6
    have K6 : Hid (St (CD c cd) col w col6 w6) := Lib.hid (by rw [hcol6]; exact K6.out)
    rw [← hbm6, ← hat6] at H6
    rw [← hat6] at HGS
    have HRL : Hid (WriteR n C q l 0 (setC C2 q (fullB l))) := Lib.hid (.inr (.inr (.inl ⟨HM.out.symm, HLE.out, hk, rfl, by rw [hC2]⟩)))
    clear h6 k6 hk hg hgb hgm hck hlk c3 hC2 hcol6 hbm6 hat6
    obtain ⟨g', hg', hgb, hgm, af, cf, hr, hcg, hif⟩ := H6.out.fr q HMEM.out
    have hgg : g' = g := Option.some.inj (hg'.symm.trans HGS.out)
    subst hgg
    have HSR : Hid (l ≠ [] → ∀ x, (Value.slice aB nB cB).ownBlock = some x → ¬ x = g') := Lib.hid (fun hne x hx e => by
      have h1 := HS.out.ownLt (bvs_ne hne) hx
      have h2 := K6.out.ext x h1
      refine HB.out hne x hx ?_
      rw [← h2, e, hcg]
      exact .inl rfl)
    have HS6 := Lib.hid (HS.out.mods0 K6.out.mods (fun hne x hx => HB.out (fun e => hne (by rw [e]; rfl)) x hx))
    have HGL := Lib.hid hr.lt
    have HCG := Lib.hid hcg
    have HGP := Lib.hid hg'
    clear hif hgb hgm hcg hg'
    go_wp2_with (first
      | (at_make; refine wpL_make etB rfl rfl _ _ rfl 256 w6.heap.size rfl rfl rfl rfl (by omega) (by simp only [maxLen]; omega) (Nat.le_refl _) ?_; rintro v7 w7 ho7 hb7 ⟨gm, om, rfl, hgm⟩; have hr7 := hr.after hb7; have HO7 := Lib.hid ho7; have HB7 := Lib.hid hb7; have HGM := Lib.hid hgm; clear ho7 hb7 hgm hr)
      | (refine wpL_storeAt rfl _ _ _ rfl rfl rfl rfl rfl (by kernel_rfl) hr7 rfl ?_; intro w8 hg8 hr8; have HG8 := Lib.hid hg8; clear hg8 hr7)
      | (refine wpL_storeAt rfl _ _ _ rfl rfl rfl rfl rfl (by kernel_rfl) hr8 rfl ?_; intro w9 hg9 hr9; have HG9 := Lib.hid hg9; have d9 : w9.cell? ⟨g', 0, none⟩ = some (.slice (some ⟨gm, om, none⟩) 256 256) := hr9.cell 0; have HR9 := Lib.hid hr9; have HGN : Hid (gm ≠ g') := Lib.hid (fun e => by have := HGM.out; have := HGL.out; omega); have HO9 := Lib.hid ((HO7.out.kept HG8.out (.inr (fun e => HGN.out (Option.some.inj e)))).kept HG9.out (.inr (fun e => HGN.out (Option.some.inj e)))); have HM9 := Lib.hid (((Mods.fresh HB7.out (fun x => x = g')).trans ((Mods.grown HG8.out).mono (fun x hx => (Option.some.inj hx).symm))).trans ((Mods.grown HG9.out).mono (fun x hx => (Option.some.inj hx).symm))); have HS9 := Lib.hid (HS6.out.mods0 HM9.out (fun hne x hx => HSR.out (fun e => hne (by rw [e]; rfl)) x hx)); clear hg9 hr8 hr9)
      | (refine wpL_copy etB rfl (.tmp 51) (.tmp 52) rfl HO9.out 0 rfl HS9.out rfl (bvs_one _) nB (Nat.min_eq_left hnB) (fun _ => rfl) (by omega) ?_; intro w10 ho10 hg10; have HO10 := Lib.hid ho10; have HG10 := Lib.hid hg10; clear ho10 hg10 d9))
    go_ret
    have hm : Mods (fun x => x = g') w6 w10 := HM9.out.after (Mods.grown HG10.out) (fun x hx => .inr (by have := HGM.out; have := Option.some.inj hx; omega))
    have hcol : ∀ x, x < w6.heap.size → recol col6 w6.heap.size 0 x = col6 x := fun x hx => recol_lt hx
    have k6 : St (fun x => x = c) col6 w6 (recol col6 w6.heap.size 0) w10 := St.onlyX hm hcol HCG.out
    have ho := HO10.out
    rw [full_splice HL2.out.symm hnB] at ho
    have hfl : (fullB l).length = 256 := fullB_len (by rw [← HL2.out]; exact hnB)
    have himm : Imm (recol col6 w6.heap.size 0) w10 (.slice (some ⟨gm, om, none⟩) (fullB l).length 256) (fullB l) := ⟨by rw [hfl]; exact ho.sl, fun _ x hx => recol_ge (by simp [Value.ownBlock] at hx; have := HGM.out; omega)⟩
    have hrow : Row w10 g' 70 (frow (some ⟨gm, om, none⟩) 256 { C2.F q with b := fullB l, dirty := true }) := by
      show Row w10 g' 70 [.slice _ (fullB l).length 256, _, _, _]
      rw [hfl]
      exact HR9.out.grown HG10.out (fun e => HGN.out (Option.some.inj e).symm)
    exact ⟨0, setC C2 q (fullB l), rfl, Lib.hid ⟨HRL.out, _, K6.out.trans (k6.mono (fun _ h => .inl h)), bm6, at6, H6.out.poke (f := { C2.F q with b := fullB l, dirty := true }) HMEM.out HGP.out hm hcol hrow himm, D6.out.st k6 (fun e => H6.out.nz e.symm) (fun e => HCC.out e.symm)⟩⟩
  · have hg := H.out.mp.at hk
    rw [ptrV_none (by exact hg)] at hlk
    go_enter Try.func18, Try.ntmps18
    go_wp2_with fail
    refine (mayC_p c cd col b bd bm C at_ n N q w H.out HD.out HLL.out 0 HM).mono ?_
    rintro e w1 ⟨rfl, rfl⟩
    go_wp2_with fail
    refine (room_p c cd col b bd bm C at_ n N w H.out HD.out HLL.out (by omega) HCC.out).mono ?_
    rintro e w2 ⟨E, C1, rfl, HR, col2, k2, hL⟩
    have HLV := Lib.hid (HLL.out.room HR.out)
    have K2 := Lib.hid k2
    have HLf := Lib.hid hL
    clear k2 hL hlk c3
    rcases HLV.out.2.2.2.2.2.2.1 with rfl | ⟨rfl, _⟩
    rotate_left
    · go_wp2_with fail
      go_ret
      exact ⟨3, C1, rfl, Lib.hid ⟨.inr (.inr (.inr ⟨HM.out.symm, HLE.out, hk, 3, C1, HR.out, .inl ⟨rfl, rfl, rfl⟩⟩)), col2, K2.out, HLf.out⟩⟩
    · obtain ⟨bm2, at2, h2, d2⟩ := HLf.out
      have HC2 := Lib.hid h2
      have HD2 := Lib.hid d2
      have hkn : (q : Int) ∉ C1.ks := fun e => hk (HLV.out.2.1 _ e)
      have HKN := Lib.hid hkn
      have hb4 : Below w2.heap.size w2 (w2.alloc (.cells #[.slice none 0 0, .int .i64 0, .bool false, .int .i64 0] 70)) := (Below.refl _ _).alloc (Nat.le_refl _) _
      have hr4 : Row (w2.alloc (.cells #[.slice none 0 0, .int .i64 0, .bool false, .int .i64 0] 70)) w2.heap.size 70 [.slice none 0 0, .int .i64 0, .bool false, .int .i64 0] := Row.new _ _ _
      have HR4 := Lib.hid hr4
      have HC4 := Lib.hid (HC2.out.st (St.new hb4 (fun _ => False) col2 c) (fun h => h) (fun h => h))
      have HD4 := Lib.hid (HD2.out.st (St.new hb4 (fun _ => False) col2 c) (fun h => h) (fun h => h))
      have K4 := Lib.hid (K2.out.trans (St.new hb4 (CD c cd) col2 c))
      have HGC : Hid (recol col2 w2.heap.size c w2.heap.size = c) := Lib.hid (recol_ge (Nat.le_refl _))
      have HNE : Hid (w2.heap.size ≠ b ∧ w2.heap.size ≠ bm2 ∧ ∀ j ∈ C1.ks, at2 j ≠ some w2.heap.size) := Lib.hid ⟨fun e => by have := HC2.out.row.lt; omega, fun e => by have := HC2.out.mp.lt; omega, fun j hj e => by
        obtain ⟨g, e1, _, _, hf⟩ := HC2.out.fr j hj
        have := hf.lt
        rw [e1] at e
        have := Option.some.inj e
        omega⟩
      have c3 : w2.cell? ⟨b, 3, none⟩ = some (.map (some bm2)) := HC2.out.c3
      have c3' : (w2.alloc (.cells #[.slice none 0 0, .int .i64 0, .bool false, .int .i64 0] 70)).cell? ⟨b, 3, none⟩ = some (.map (some bm2)) := HC4.out.c3
      clear hb4 hr4 K2 h2 d2 HLf hkn
      generalize recol col2 w2.heap.size c = col4 at HC4 HD4 K4 HGC
      have hfew : C1.ks.length < maxLen := by have := HLV.out.1.few; have := HLV.out.1.mst; simp [maxLen]; omega
      have HFEW := Lib.hid hfew
      clear hfew
      have hmp := HC4.out.mp
      go_wp2_with (at_mapUpdate; refine wpL_put hmp keyInt mapT HFEW.out rfl _ _ _ rfl rfl rfl hwf (some w2.heap.size) rfl ?_; intro w5 hm5 hg5; have HM5 := Lib.hid hm5; have HG5 := Lib.hid hg5; clear hm5 hg5 hmp c3 c3')
      have hm5 := (Mods.grown HG5.out).mono (fun x (hx : some bm2 = some x) => (Option.some.inj hx).symm)
      have hfA : FrAt c col4 _ w2.heap.size ⟨[], 0, false, 0⟩ := ⟨none, 0, HR4.out, HGC.out, Imm.nil _ _⟩
      have HC5 : Hid (CkIn c col4 w5 b (addC C1 q []) bd bm2 (upd at2 q (some w2.heap.size))) := Lib.hid (HC4.out.put HKN.out hfA HNE.out.1 HNE.out.2.1 HNE.out.2.2 hm5 HM5.out)
      have k5 : St (fun x => x = c) col4 _ col4 w5 := St.onlyX hm5 (fun _ _ => rfl) HC4.out.cm
      have K5 := Lib.hid (K4.out.trans (k5.mono (fun _ h => .inl h)))
      have HD5 := Lib.hid (HD4.out.st k5 (fun e => HC4.out.nz e.symm) (fun e => HCC.out e.symm))
      obtain ⟨g, hgq⟩ : ∃ g, g = w2.heap.size := ⟨_, rfl⟩
      rw [← hgq] at HC5
      clear hm5 hfA k5 HC4 HD4 K4 HR4 HNE HGC HM5 HG5 HC2 HD2 hgq
      go_wp2_with fail
      have hck := HLV.out.1.clk
      refine (use_p c col4 b bd bm2 (addC C1 q []) (upd at2 q (some g)) q g w5 HC5.out (mem_putK.2 (.inr rfl)) (upd_same _ _ _) ⟨hck.1, by show C1.clock ≤ _; omega⟩).mono ?_
      rintro e w6 ⟨rfl, h6, k6⟩
      have H6 := Lib.hid h6
      have K6 : Hid (St (CD c cd) col w col4 w6) := Lib.hid (K5.out.trans (k6.mono (fun _ h => .inl h)))
      have D6 := Lib.hid (HD5.out.st k6 (fun e => H.out.nz e.symm) (fun e => HCC.out e.symm))
      obtain ⟨C2, hC2⟩ : ∃ C2, C2 = useC (addC C1 q []) q := ⟨_, rfl⟩
      rw [← hC2] at H6
      have HMEM : Hid ((q : Int) ∈ C2.ks) := Lib.hid (by rw [hC2]; exact mem_putK.2 (.inr rfl))
      have D6 : Hid (DkAt 62 cd col4 w6 bd C2.D) := Lib.hid (by rw [hC2]; exact D6.out)
      obtain ⟨col6, hcol6⟩ : ∃ x, x = col4 := ⟨_, rfl⟩
      obtain ⟨bm6, hbm6⟩ : ∃ x, x = bm2 := ⟨_, rfl⟩
      obtain ⟨at6, hat6⟩ : ∃ x, x = upd at2 q (some g) := ⟨_, rfl⟩
      have HGS : Hid (at6 q = some g) := Lib.hid (by rw [hat6]; exact upd_same _ _ _)
      rw [← hcol6] at H6 K6 D6
      rw [← hbm6, ← hat6] at H6
      have HRL : Hid (WriteR n C q l 0 (setC C2 q (fullB l))) := Lib.hid (.inr (.inr (.inr ⟨HM.out.symm, HLE.out, hk, 0, C1, HR.out, .inr ⟨rfl, rfl, by rw [hC2]⟩⟩)))
      clear h6 k6 hk hg hck hC2 hcol6 hbm6 hat6 HC5 K5 HD5
      obtain ⟨g', hg', hgb, hgm, af, cf, hr, hcg, hif⟩ := H6.out.fr q HMEM.out
      have hgg : g' = g := Option.some.inj (hg'.symm.trans HGS.out)
      subst hgg
      have HSR : Hid (l ≠ [] → ∀ x, (Value.slice aB nB cB).ownBlock = some x → ¬ x = g') := Lib.hid (fun hne x hx e => by
        have h1 := HS.out.ownLt (bvs_ne hne) hx
        have h2 := K6.out.ext x h1
        refine HB.out hne x hx ?_
        rw [← h2, e, hcg]
        exact .inl rfl)
      have HS6 := Lib.hid (HS.out.mods0 K6.out.mods (fun hne x hx => HB.out (fun e => hne (by rw [e]; rfl)) x hx))
      have HGL := Lib.hid hr.lt
      have HCG := Lib.hid hcg
      have HGP := Lib.hid hg'
      clear hif hgb hgm hcg hg'
      go_wp2_with (first
        | (at_make; refine wpL_make etB rfl rfl _ _ rfl 256 w6.heap.size rfl rfl rfl rfl (by omega) (by simp only [maxLen]; omega) (Nat.le_refl _) ?_; rintro v7 w7 ho7 hb7 ⟨gm, om, rfl, hgm⟩; have hr7 := hr.after hb7; have HO7 := Lib.hid ho7; have HB7 := Lib.hid hb7; have HGM := Lib.hid hgm; clear ho7 hb7 hgm hr)
        | (refine wpL_storeAt rfl _ _ _ rfl rfl rfl rfl rfl (by kernel_rfl) hr7 rfl ?_; intro w8 hg8 hr8; have HG8 := Lib.hid hg8; clear hg8 hr7)
        | (refine wpL_storeAt rfl _ _ _ rfl rfl rfl rfl rfl (by kernel_rfl) hr8 rfl ?_; intro w9 hg9 hr9; have HG9 := Lib.hid hg9; have d9 : w9.cell? ⟨g', 0, none⟩ = some (.slice (some ⟨gm, om, none⟩) 256 256) := hr9.cell 0; have HR9 := Lib.hid hr9; have HGN : Hid (gm ≠ g') := Lib.hid (fun e => by have := HGM.out; have := HGL.out; omega); have HO9 := Lib.hid ((HO7.out.kept HG8.out (.inr (fun e => HGN.out (Option.some.inj e)))).kept HG9.out (.inr (fun e => HGN.out (Option.some.inj e)))); have HM9 := Lib.hid (((Mods.fresh HB7.out (fun x => x = g')).trans ((Mods.grown HG8.out).mono (fun x hx => (Option.some.inj hx).symm))).trans ((Mods.grown HG9.out).mono (fun x hx => (Option.some.inj hx).symm))); have HS9 := Lib.hid (HS6.out.mods0 HM9.out (fun hne x hx => HSR.out (fun e => hne (by rw [e]; rfl)) x hx)); clear hg9 hr8 hr9)
        | (refine wpL_copy etB rfl (.tmp 51) (.tmp 52) rfl HO9.out 0 rfl HS9.out rfl (bvs_one _) nB (Nat.min_eq_left hnB) (fun _ => rfl) (by omega) ?_; intro w10 ho10 hg10; have HO10 := Lib.hid ho10; have HG10 := Lib.hid hg10; clear ho10 hg10 d9))
      go_ret
      have hm : Mods (fun x => x = g') w6 w10 := HM9.out.after (Mods.grown HG10.out) (fun x hx => .inr (by have := HGM.out; have := Option.some.inj hx; omega))
      have hcol : ∀ x, x < w6.heap.size → recol col6 w6.heap.size 0 x = col6 x := fun x hx => recol_lt hx
      have k6 : St (fun x => x = c) col6 w6 (recol col6 w6.heap.size 0) w10 := St.onlyX hm hcol HCG.out
      have ho := HO10.out
      rw [full_splice HL2.out.symm hnB] at ho
      have hfl : (fullB l).length = 256 := fullB_len (by rw [← HL2.out]; exact hnB)
      have himm : Imm (recol col6 w6.heap.size 0) w10 (.slice (some ⟨gm, om, none⟩) (fullB l).length 256) (fullB l) := ⟨by rw [hfl]; exact ho.sl, fun _ x hx => recol_ge (by simp [Value.ownBlock] at hx; have := HGM.out; omega)⟩
      have hrow : Row w10 g' 70 (frow (some ⟨gm, om, none⟩) 256 { C2.F q with b := fullB l, dirty := true }) := by
        show Row w10 g' 70 [.slice _ (fullB l).length 256, _, _, _]
        rw [hfl]
        exact HR9.out.grown HG10.out (fun e => HGN.out (Option.some.inj e).symm)
      exact ⟨0, setC C2 q (fullB l), rfl, Lib.hid ⟨HRL.out, _, K6.out.trans (k6.mono (fun _ h => .inl h)), bm6, at6, H6.out.poke (f := { C2.F q with b := fullB l, dirty := true }) HMEM.out HGP.out hm hcol hrow himm, D6.out.st k6 (fun e => H6.out.nz e.symm) (fun e => HCC.out e.symm)⟩⟩
theorem onC_p (c cd : Nat) (col : Nat → Nat) (b bd bm : Nat) (C : Ch) (at_ : Int → Option Nat) (n N : Nat) (w : World) (h : CkIn c col w b C bd bm at_) (hd : DkAt 62 cd col w bd C.D) (HL : LiveC C n N) :
    Calls Try.prog 31 #[.pointer (some ⟨b, 0, none⟩)] w fun e w' => e = .returned (.int .i64 0) ∧ w = w' := by
  have c2 := hd.d2
  rw [HL.D.dead] at c2
  exact con_p b bd w h.c0 c2
set_option maxHeartbeats 1000000 in
theorem unpin_p (c cd : Nat) (col : Nat → Nat) (b bd bm : Nat) (C : Ch) (at_ : Int → Option Nat) (n N : Nat) (s : Int) (w : World) (h : CkIn c col w b C bd bm at_) (hd : DkAt 62 cd col w bd C.D) (HL : LiveC C n N) (hN : N < 1000000000 - 10) (hcc : ¬ c = cd) (hwf : (Lit.int .i64 s).wf = true) :
    Calls Try.prog 25 #[.pointer (some ⟨b, 0, none⟩), .int .i64 s] w (StepP (UnpinR C s) c cd col w b bd) := by
  have H := Lib.hid h
  have HD := Lib.hid hd
  have HLL := Lib.hid HL
  have HCC := Lib.hid hcc
  have hlk := h.look mapT zeroPfr hwf
  have c3 := h.c3
  clear h hd HL hcc
  by_cases hk : s ∈ C.ks
  rotate_left
  · have hg := H.out.mp.at hk
    rw [ptrV_none (by exact hg)] at hlk
    go_enter Try.func25, Try.ntmps25
    go_wp2_with fail
    refine (onC_p c cd col b bd bm C at_ n N w H.out HD.out HLL.out).mono ?_
    rintro e w1 ⟨rfl, rfl⟩
    go_wp2_with fail
    go_ret
    exact ⟨7, C, rfl, Lib.hid ⟨.inl ⟨hk, rfl, rfl⟩, Left.refl ⟨bm, at_, H.out, HD.out⟩⟩⟩
  obtain ⟨g, hg, hgb, hgm, a, cc, hr, hcg, hi⟩ := H.out.fr s hk
  rw [ptrV_some hg] at hlk
  have d3 := fr3 hr
  have hpin := HLL.out.pin s hk
  have HI := Lib.hid hi
  have HK := Lib.hid hk
  have HG := Lib.hid hg
  have HCG := Lib.hid hcg
  clear hi hk hg hgb hgm hcg
  by_cases hp : (C.F s).pins = 0
  · rw [hp] at d3
    go_enter Try.func25, Try.ntmps25
    go_wp2_with fail
    refine (onC_p c cd col b bd bm C at_ n N w H.out HD.out HLL.out).mono ?_
    rintro e w1 ⟨rfl, rfl⟩
    go_wp2_with fail
    go_ret
    exact ⟨7, C, rfl, Lib.hid ⟨.inr (.inl ⟨HK.out, hp, rfl, rfl⟩), Left.refl ⟨bm, at_, H.out, HD.out⟩⟩⟩
  · obtain ⟨p, hpp⟩ : ∃ p, p = (C.F s).pins := ⟨_, rfl⟩
    rw [← hpp] at d3 hp hpin
    have e1 : (p == 0) = false := by simp [hp]
    have hp0 := hpin.1
    have hp1 := hpin.2
    have HP := Lib.hid hpp
    have HPN := Lib.hid hp
    clear hpp hp hpin
    go_enter Try.func25, Try.ntmps25
    go_wp2_with fail
    refine (onC_p c cd col b bd bm C at_ n N w H.out HD.out HLL.out).mono ?_
    rintro e w1 ⟨rfl, rfl⟩
    go_wp2_with (refine wpL_storeAt rfl _ _ _ rfl rfl rfl rfl rfl (by kernel_rfl) hr rfl ?_; intro w3 hg3 hr3; have HG3 := Lib.hid hg3; have HR3 : Hid (Row w3 g 70 (frow a cc { C.F s with pins := p - 1 })) := Lib.hid hr3; clear hg3 hr3 hr d3 hlk c3)
    go_ret
    have hm3 : Mods (fun x => x = g) w w3 := (Mods.grown HG3.out).mono (fun x hx => (Option.some.inj hx).symm)
    have k3 : St (fun x => x = c) col w col w3 := St.onlyX hm3 (fun _ _ => rfl) HCG.out
    have hnz : c ≠ 0 := H.out.nz
    refine ⟨0, pinC C s ((C.F s).pins - 1), rfl, Lib.hid ⟨.inr (.inr ⟨HK.out, by rw [← HP.out]; exact HPN.out, rfl, rfl⟩), col, k3.mono (fun _ h => .inl h), bm, at_, ?_, HD.out.st k3 (fun e => hnz e.symm) (fun e => HCC.out e.symm)⟩⟩
    rw [← HP.out]
    exact H.out.poke (f := { C.F s with pins := p - 1 }) HK.out HG.out hm3 (fun _ _ => rfl) HR3.out (HI.out.st k3 (fun e => hnz e.symm))
set_option maxHeartbeats 1000000 in
theorem drop_p (c cd : Nat) (col : Nat → Nat) (b bd bm : Nat) (C : Ch) (at_ : Int → Option Nat) (n N : Nat) (s : Int) (w : World) (h : CkIn c col w b C bd bm at_) (hd : DkAt 62 cd col w bd C.D) (HL : LiveC C n N) (hcc : ¬ c = cd) (hwf : (Lit.int .i64 s).wf = true) :
    Calls Try.prog 22 #[.pointer (some ⟨b, 0, none⟩), .int .i64 s] w (StepP (DropR C s) c cd col w b bd) := by
  have H := Lib.hid h
  have HD := Lib.hid hd
  have HLL := Lib.hid HL
  have HCC := Lib.hid hcc
  have hlk := h.look mapT zeroPfr hwf
  have c3 := h.c3
  have hmp := h.mp
  clear h hd HL hcc
  by_cases hk : s ∈ C.ks
  rotate_left
  · have hg := H.out.mp.at hk
    rw [ptrV_none (by exact hg)] at hlk
    go_enter Try.func22, Try.ntmps22
    go_wp2_with fail
    refine (onC_p c cd col b bd bm C at_ n N w H.out HD.out HLL.out).mono ?_
    rintro e w1 ⟨rfl, rfl⟩
    go_wp2_with fail
    go_ret
    exact ⟨7, C, rfl, Lib.hid ⟨.inl ⟨hk, rfl, rfl⟩, Left.refl ⟨bm, at_, H.out, HD.out⟩⟩⟩
  obtain ⟨g, hg, hgb, hgm, a, cc, hr, hcg, hi⟩ := H.out.fr s hk
  rw [ptrV_some hg] at hlk
  have d3 := fr3 hr
  have hpin := HLL.out.pin s hk
  have HK := Lib.hid hk
  clear hi hk hg hgb hgm hcg hr
  obtain ⟨p, hpp⟩ : ∃ p, p = (C.F s).pins := ⟨_, rfl⟩
  rw [← hpp] at d3 hpin
  have hp0 := hpin.1
  have HP := Lib.hid hpp
  clear hpp hpin
  by_cases hp : 0 < p
  · go_enter Try.func22, Try.ntmps22
    go_wp2_with fail
    refine (onC_p c cd col b bd bm C at_ n N w H.out HD.out HLL.out).mono ?_
    rintro e w1 ⟨rfl, rfl⟩
    go_wp2_with fail
    go_ret
    exact ⟨3, C, rfl, Lib.hid ⟨.inr (.inl ⟨HK.out, by rw [← HP.out]; omega, rfl, rfl⟩), Left.refl ⟨bm, at_, H.out, HD.out⟩⟩⟩
  · have HPZ : Hid ((C.F s).pins = 0) := Lib.hid (by rw [← HP.out]; omega)
    go_enter Try.func22, Try.ntmps22
    go_wp2_with fail
    refine (onC_p c cd col b bd bm C at_ n N w H.out HD.out HLL.out).mono ?_
    rintro e w1 ⟨rfl, rfl⟩
    go_wp2_with (at_delete; refine wpL_del hmp keyInt mapT rfl _ _ rfl rfl rfl hwf ?_; intro w2 hm2 hg2; have HM2 := Lib.hid hm2; have HG2 := Lib.hid hg2; clear hm2 hg2 hmp c3 hlk d3)
    go_ret
    have hm2 : Mods (fun x => x = bm) w w2 := (Mods.grown HG2.out).mono (fun x hx => (Option.some.inj hx).symm)
    have k2 : St (fun x => x = c) col w col w2 := St.onlyX hm2 (fun _ _ => rfl) H.out.cm
    exact ⟨0, dropC C s, rfl, Lib.hid ⟨.inr (.inr ⟨HK.out, HPZ.out, rfl, rfl⟩), col, k2.mono (fun _ h => .inl h), bm, upd at_ s none, H.out.del hm2 HM2.out, HD.out.st k2 (fun e => H.out.nz e.symm) (fun e => HCC.out e.symm)⟩⟩
end Go.Proofs.Ytchjfmgfoifbcaa
