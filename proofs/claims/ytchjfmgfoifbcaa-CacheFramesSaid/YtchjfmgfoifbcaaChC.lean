/-
  A cache's bring, Read, Pin. Conditions: the cache reads as one, its disk's power stays.
-/
import Derived.Test.YtchjfmgfoifbcaaChB
namespace Go.Proofs.Ytchjfmgfoifbcaa
open Go.RowKit
set_option linter.unusedVariables false
set_option linter.unusedSimpArgs false
set_option maxRecDepth 100000

theorem zwf {n : Nat} {q : Nat} (hq : q < n) (hn : n ≤ 4096) : (Lit.int .i64 (q : Int)).wf = true := wf_lit (by omega) (by omega)
theorem DkAt.d0 {e : TypeId} {c : Nat} {col : Nat → Nat} {w : World} {b : Nat} {D : Dk} (h : DkAt e c col w b D) : ∃ a cc, w.cell? ⟨b, 0, none⟩ = some (.slice a D.S.length cc) := by
  obtain ⟨aS, cS, aP, cP, sv, pv, h⟩ := h
  exact ⟨aS, cS, h.row.cell 0⟩
theorem DkAt.d2 {e : TypeId} {c : Nat} {col : Nat → Nat} {w : World} {b : Nat} {D : Dk} (h : DkAt e c col w b D) : w.cell? ⟨b, 2, none⟩ = some (.bool D.dead) := by
  obtain ⟨aS, cS, aP, cP, sv, pv, h⟩ := h
  exact h.row.cell 2
theorem DkAt.nz2 {e : TypeId} {c : Nat} {col : Nat → Nat} {w : World} {b : Nat} {D : Dk} (h : DkAt e c col w b D) : c ≠ 0 := by
  obtain ⟨aS, cS, aP, cP, sv, pv, h⟩ := h
  exact h.nz
theorem mayC_p (c cd : Nat) (col : Nat → Nat) (b bd bm : Nat) (C : Ch) (at_ : Int → Option Nat) (n N : Nat) (s : Int) (w : World) (h : CkIn c col w b C bd bm at_) (hd : DkAt 62 cd col w bd C.D) (HL : LiveC C n N) (E : Int) (HE : Hid (E = mayE n s)) :
    Calls Try.prog 37 #[.pointer (some ⟨b, 0, none⟩), .int .i64 s] w fun e w' => e = .returned (.int .i64 E) ∧ w = w' := by
  obtain ⟨aS, cS, c1⟩ := hd.d0
  have c2 := hd.d2
  rw [HL.D.dead] at c2
  rw [HL.D.len] at c1
  exact cmay_p b bd aS n cS s w h.c0 c2 c1 E HE
def BringP (c cd : Nat) (col : Nat → Nat) (w : World) (b bd : Nat) (C : Ch) (n : Nat) (s : Int) (e : Ending) (w' : World) : Prop :=
  (∃ C' g col' bm' at', e = .returned (.tuple #[.pointer (some ⟨g, 0, none⟩), .int .i64 0]) ∧ BringR n C s 0 C' ∧ at' s = some g ∧ St (CD c cd) col w col' w' ∧ CkIn c col' w' b C' bd bm' at' ∧ DkAt 62 cd col' w' bd C'.D) ∨
  (∃ E C', (E = 1 ∨ E = 3) ∧ e = .returned (.tuple #[.pointer none, .int .i64 E]) ∧ BringR n C s E C' ∧ Left c cd col w b bd C' w')
set_option maxHeartbeats 4000000 in
theorem bring_p (c cd : Nat) (col : Nat → Nat) (b bd bm : Nat) (C : Ch) (at_ : Int → Option Nat) (n N : Nat) (s : Int) (w : World) (h : CkIn c col w b C bd bm at_) (hd : DkAt 62 cd col w bd C.D) (HL : LiveC C n N) (hN : N < 1000000000 - 10) (hcc : ¬ c = cd) (hn : n ≤ 4096) :
    Calls Try.prog 41 #[.pointer (some ⟨b, 0, none⟩), .int .i64 s] w (BringP c cd col w b bd C n s) := by
  have H := Lib.hid h
  have HD := Lib.hid hd
  have HLL := Lib.hid HL
  have HCC := Lib.hid hcc
  clear h hd HL hcc
  rcases mayE_one (n := n) (s := s) with hm | hm
  rotate_left
  · have HM := Lib.hid hm.symm
    clear hm
    go_enter Try.func41, Try.ntmps41
    go_wp2_with fail
    refine (mayC_p c cd col b bd bm C at_ n N s w H.out HD.out HLL.out 1 HM).mono ?_
    rintro e w1 ⟨rfl, rfl⟩
    go_wp2_with fail
    go_ret2
    exact .inr ⟨1, C, .inl rfl, rfl, .inl ⟨HM.out.symm, rfl, rfl⟩, Left.refl ⟨bm, at_, H.out, HD.out⟩⟩
  obtain ⟨q, rfl, hq⟩ := mayE_yes hm
  have HM := Lib.hid hm.symm
  have hwf := zwf hq hn
  clear hm
  have hlk := H.out.look mapT zeroPfr hwf
  have c3 := H.out.c3
  by_cases hk : (q : Int) ∈ C.ks
  · obtain ⟨g, hg, hgb, hgm, _⟩ := H.out.fr q hk
    rw [ptrV_some hg] at hlk
    go_enter Try.func41, Try.ntmps41
    go_wp2_with fail
    refine (mayC_p c cd col b bd bm C at_ n N q w H.out HD.out HLL.out 0 HM).mono ?_
    rintro e w1 ⟨rfl, rfl⟩
    go_wp2_with fail
    have hck := HLL.out.clk
    refine (use_p c col b bd bm C at_ q g w H.out hk hg (by omega)).mono ?_
    rintro e w2 ⟨rfl, h2, k2⟩
    have HB : Hid (BringP c cd col w b bd C n (q : Int) (.returned (.tuple #[.pointer (some ⟨g, 0, none⟩), .int .i64 0])) w2) := Lib.hid (.inl ⟨useC C q, g, col, bm, at_, rfl, .inr (.inl ⟨HM.out.symm, hk, rfl, rfl⟩), hg, k2.mono (fun _ h => .inl h), h2, HD.out.st k2 (fun e => H.out.nz e.symm) (fun e => HCC.out e.symm)⟩)
    clear h2 k2
    go_wp2_with fail
    go_ret2
    exact HB.out
  · have hg := H.out.mp.at hk
    rw [ptrV_none (by exact hg)] at hlk
    go_enter Try.func41, Try.ntmps41
    go_wp2_with fail
    refine (mayC_p c cd col b bd bm C at_ n N q w H.out HD.out HLL.out 0 HM).mono ?_
    rintro e w1 ⟨rfl, rfl⟩
    go_wp2_with fail
    refine (room_p c cd col b bd bm C at_ n N w H.out HD.out HLL.out (by omega) HCC.out).mono ?_
    rintro e w2 ⟨E, C1, rfl, HR, col2, k2, hL⟩
    have HLV := Lib.hid (HLL.out.room HR.out)
    have K2 := Lib.hid k2
    have HL2 := Lib.hid hL
    clear k2 hL hlk c3
    rcases HLV.out.2.2.2.2.2.2.1 with rfl | ⟨rfl, _⟩
    rotate_left
    · go_wp2_with fail
      go_ret2
      exact .inr ⟨3, C1, .inr rfl, rfl, .inr (.inr ⟨HM.out.symm, hk, 3, C1, HR.out, .inl ⟨rfl, rfl, rfl⟩⟩), col2, K2.out, HL2.out⟩
    · obtain ⟨bm2, at2, h2, d2⟩ := HL2.out
      have HC2 := Lib.hid h2
      have HD2 := Lib.hid d2
      have c0 := HC2.out.c0
      have hkn : (q : Int) ∉ C1.ks := fun e => hk (HLV.out.2.1 _ e)
      have HRD := Lib.hid (HLV.out.1.D.read hq)
      have HPK := Lib.hid (HLV.out.1.D.pick hq)
      clear h2 d2 HL2
      go_wp2_with fail
      refine (read_p cd col2 bd C1.D q w2 (pickD C1.D q) HD2.out (by have := HLV.out.1.D.fits.pen; omega) (by rw [HPK.out]; exact Nat.le_refl _) 0 (Lib.hid HRD.out.1) (Lib.hid HRD.out.2.symm)).mono ?_
      rintro e w3 ⟨v3, rfl, ho3, hb3⟩
      obtain ⟨B, hB⟩ : ∃ B, B = pickD C1.D q := ⟨_, rfl⟩
      rw [← hB] at ho3
      have hBl : B.length = 256 := by rw [hB]; exact HPK.out
      obtain ⟨a3, cc3, rfl⟩ := ho3.form
      have I3 := Lib.hid (Imm.own (col := col2) ho3)
      have K3 := Lib.hid (K2.out.trans (St.new hb3 (CD c cd) col2 0))
      have HC3 := Lib.hid (HC2.out.st (St.new hb3 (fun _ => False) col2 0) (fun h => h) (fun h => h))
      have HD3 := Lib.hid (HD2.out.st (St.new hb3 (fun _ => False) col2 0) (fun h => h) (fun h => h))
      have HBQ := Lib.hid hB
      have HBL := Lib.hid hBl
      clear ho3 hb3 K2 HC2 HD2 c0
      generalize recol col2 w2.heap.size 0 = col3 at I3 K3 HC3 HD3
      rw [hBl]
      clear hB hBl
      have hb4 : Below w3.heap.size w3 (w3.alloc (.cells #[.slice a3 256 cc3, .int .i64 0, .bool false, .int .i64 0] 70)) := (Below.refl _ _).alloc (Nat.le_refl _) _
      have hr4 : Row (w3.alloc (.cells #[.slice a3 256 cc3, .int .i64 0, .bool false, .int .i64 0] 70)) w3.heap.size 70 [.slice a3 256 cc3, .int .i64 0, .bool false, .int .i64 0] := Row.new _ _ _
      have HR4 := Lib.hid hr4
      have HC4 := Lib.hid (HC3.out.st (St.new hb4 (fun _ => False) col3 c) (fun h => h) (fun h => h))
      have HD4 := Lib.hid (HD3.out.st (St.new hb4 (fun _ => False) col3 c) (fun h => h) (fun h => h))
      have I4 := Lib.hid (I3.out.st (St.new hb4 (fun _ => False) col3 c) (fun h => h))
      have K4 := Lib.hid (K3.out.trans (St.new hb4 (CD c cd) col3 c))
      have HGC : Hid (recol col3 w3.heap.size c w3.heap.size = c) := Lib.hid (recol_ge (Nat.le_refl _))
      have HNE : Hid (w3.heap.size ≠ b ∧ w3.heap.size ≠ bm2 ∧ ∀ j ∈ C1.ks, at2 j ≠ some w3.heap.size) := Lib.hid ⟨fun e => by have := HC3.out.row.lt; omega, fun e => by have := HC3.out.mp.lt; omega, fun j hj e => by
        obtain ⟨g, e1, _, _, hf⟩ := HC3.out.fr j hj
        have := hf.lt
        rw [e1] at e
        have := Option.some.inj e
        omega⟩
      have c3 : w3.cell? ⟨b, 3, none⟩ = some (.map (some bm2)) := HC3.out.c3
      have c3' : (w3.alloc (.cells #[.slice a3 256 cc3, .int .i64 0, .bool false, .int .i64 0] 70)).cell? ⟨b, 3, none⟩ = some (.map (some bm2)) := HC4.out.c3
      clear hb4 hr4 K3 HD3 I3
      generalize recol col3 w3.heap.size c = col4 at HC4 HD4 I4 K4 HGC
      have hfew : C1.ks.length < maxLen := by have := HLV.out.1.few; have := HLV.out.1.mst; simp [maxLen]; omega
      have HFEW := Lib.hid hfew
      clear hfew
      have hmp := HC4.out.mp
      go_wp2_with (at_mapUpdate; refine wpL_put hmp keyInt mapT HFEW.out rfl _ _ _ rfl rfl rfl hwf (some w3.heap.size) rfl ?_; intro w5 hm5 hg5; have HM5 := Lib.hid hm5; have HG5 := Lib.hid hg5; clear hm5 hg5 hmp c3 c3')
      have hm5 := (Mods.grown HG5.out).mono (fun x (hx : some bm2 = some x) => (Option.some.inj hx).symm)
      have hfA : FrAt c col4 _ w3.heap.size ⟨B, 0, false, 0⟩ := ⟨a3, cc3, by show Row _ _ _ [.slice a3 B.length cc3, _, _, _]; rw [HBL.out]; exact HR4.out, HGC.out, I4.out⟩
      have HC5 : Hid (CkIn c col4 w5 b (addC C1 q B) bd bm2 (upd at2 q (some w3.heap.size))) := Lib.hid (HC4.out.put hkn hfA HNE.out.1 HNE.out.2.1 HNE.out.2.2 hm5 HM5.out)
      have k5 : St (fun x => x = c) col4 _ col4 w5 := St.onlyX hm5 (fun _ _ => rfl) HC4.out.cm
      have K5 := Lib.hid (K4.out.trans (k5.mono (fun _ h => .inl h)))
      have HD5 := Lib.hid (HD4.out.st k5 (fun e => HC4.out.nz e.symm) (fun e => HCC.out e.symm))
      obtain ⟨g, hgq⟩ : ∃ g, g = w3.heap.size := ⟨_, rfl⟩
      rw [← hgq] at HC5
      clear hm5 hfA k5 HC4 HD4 I4 K4 HR4 HNE HGC HM5 HG5 HC3 hgq
      go_wp2_with fail
      have hck := HLV.out.1.clk
      refine (use_p c col4 b bd bm2 (addC C1 q B) (upd at2 q (some g)) q g w5 HC5.out (mem_putK.2 (.inr rfl)) (upd_same _ _ _) ⟨hck.1, by show C1.clock ≤ _; omega⟩).mono ?_
      rintro e w6 ⟨rfl, h6, k6⟩
      have HB : Hid (BringP c cd col w b bd C n (q : Int) (.returned (.tuple #[.pointer (some ⟨g, 0, none⟩), .int .i64 0])) w6) := Lib.hid (.inl ⟨useC (addC C1 q B) q, g, col4, bm2, _, rfl, .inr (.inr ⟨HM.out.symm, hk, 0, C1, HR.out, .inr ⟨rfl, rfl, by rw [Int.toNat_natCast, ← HBQ.out]⟩⟩), upd_same _ _ _, K5.out.trans (k6.mono (fun _ h => .inl h)), h6, HD5.out.st k6 (fun e => H.out.nz e.symm) (fun e => HCC.out e.symm)⟩)
      clear h6 k6 hck
      go_wp2_with fail
      go_ret2
      exact HB.out
/-- from a step's end, both parts -/
theorem BringP.cases {c cd : Nat} {col : Nat → Nat} {w : World} {b bd : Nat} {C : Ch} {n : Nat} {s : Int} {e : Ending} {w' : World} (h : BringP c cd col w b bd C n s e w') :
  (∃ C' g col' bm' at', e = .returned (.tuple #[.pointer (some ⟨g, 0, none⟩), .int .i64 0]) ∧ Hid (BringR n C s 0 C' ∧ at' s = some g ∧ St (CD c cd) col w col' w' ∧ CkIn c col' w' b C' bd bm' at' ∧ DkAt 62 cd col' w' bd C'.D)) ∨
  (∃ E C', (E = 1 ∨ E = 3) ∧ e = .returned (.tuple #[.pointer none, .int .i64 E]) ∧ Hid (BringR n C s E C' ∧ Left c cd col w b bd C' w')) := by
  rcases h with ⟨C', g, col', bm', at', h1, h2, h3, h4, h5, h6⟩ | ⟨E, C', h1, h2, h3, h4⟩
  · exact .inl ⟨C', g, col', bm', at', h1, Lib.hid ⟨h2, h3, h4, h5, h6⟩⟩
  · exact .inr ⟨E, C', h1, h2, Lib.hid ⟨h3, h4⟩⟩
def ReadP (c cd : Nat) (col : Nat → Nat) (w : World) (b bd : Nat) (C : Ch) (n : Nat) (s : Int) (e : Ending) (w' : World) : Prop :=
  (∃ C' a cc col', e = .returned (.tuple #[.slice a 256 cc, .int .i64 0]) ∧ Hid (BringR n C s 0 C' ∧ St (CD c cd) col w col' w' ∧ CkAt c cd col' w' b bd C' ∧ OwnC col' w' 9 1 (.slice a 256 cc) 256 (bvs (C'.F s).b))) ∨
  (∃ E C', (E = 1 ∨ E = 3) ∧ e = .returned (.tuple #[.slice none 0 0, .int .i64 E]) ∧ Hid (BringR n C s E C' ∧ Left c cd col w b bd C' w'))
set_option maxHeartbeats 1000000 in
theorem cread_p (c cd : Nat) (col : Nat → Nat) (b bd bm : Nat) (C : Ch) (at_ : Int → Option Nat) (n N : Nat) (s : Int) (w : World) (h : CkIn c col w b C bd bm at_) (hd : DkAt 62 cd col w bd C.D) (HL : LiveC C n N) (hN : N < 1000000000 - 10) (hcc : ¬ c = cd) (hn : n ≤ 4096) :
    Calls Try.prog 23 #[.pointer (some ⟨b, 0, none⟩), .int .i64 s] w (ReadP c cd col w b bd C n s) := by
  go_enter Try.func23, Try.ntmps23
  go_wp2_with fail
  refine (bring_p c cd col b bd bm C at_ n N s w h hd HL hN hcc hn).mono ?_
  intro e w1 hp
  rcases hp.cases with ⟨C1, g, col1, bm1, at1, rfl, HB⟩ | ⟨E, C1, hE, rfl, HB⟩
  · obtain ⟨g1, g2, g3, g4⟩ := HB.out.1.live HL |>.2.2 |> fun x => (⟨(x.1 rfl).1, (x.1 rfl).2, trivial, trivial⟩ : mayE n s = 0 ∧ s ∈ C1.ks ∧ True ∧ True)
    have hlen := (HB.out.1.live HL).1.frb s g2
    obtain ⟨g', hg', _, _, a, cc, hr, _, hi⟩ := HB.out.2.2.2.1.fr s g2
    have : g' = g := Option.some.inj (hg'.symm.trans HB.out.2.1)
    subst this
    have d0 := fr0 hr
    have hi1 := hi.1
    rw [hlen] at d0 hi1
    have HI := Lib.hid hi1
    clear hp h hd HL hr hi hi1 g1 g3 g4 hg' hlen
    go_wp2_with fail
    refine (clone_any a 256 cc (C1.F s).b w1 HI.out (by decide)).mono ?_
    rintro e w2 ⟨v, rfl, ho, hb⟩
    obtain ⟨a2, c2, rfl⟩ := ho.form
    have HP : Hid (ReadP c cd col w b bd C n s (.returned (.tuple #[.slice a2 256 c2, .int .i64 0])) w2) := Lib.hid (.inl ⟨C1, a2, c2, recol col1 w1.heap.size 9, rfl, Lib.hid ⟨HB.out.1, HB.out.2.2.1.trans (St.new hb (CD c cd) col1 9), ⟨bm1, at1, HB.out.2.2.2.1.st (St.new hb (fun _ => False) col1 9) (fun h => h) (fun h => h), HB.out.2.2.2.2.st (St.new hb (fun _ => False) col1 9) (fun h => h) (fun h => h)⟩, OwnC.new ho⟩⟩)
    clear ho hb
    go_wp2_with fail
    go_ret2
    exact HP.out
  · clear hp
    rcases hE with rfl | rfl
    · go_wp2_with fail
      go_ret2
      exact .inr ⟨1, C1, .inl rfl, rfl, HB⟩
    · go_wp2_with fail
      go_ret2
      exact .inr ⟨3, C1, .inr rfl, rfl, HB⟩
def StepP (R : Int → Ch → Prop) (c cd : Nat) (col : Nat → Nat) (w : World) (b bd : Nat) (e : Ending) (w' : World) : Prop := ∃ E C', e = .returned (.int .i64 E) ∧ Hid (R E C' ∧ Left c cd col w b bd C' w')
set_option maxHeartbeats 1000000 in
theorem pin_p (c cd : Nat) (col : Nat → Nat) (b bd bm : Nat) (C : Ch) (at_ : Int → Option Nat) (n N : Nat) (s : Int) (w : World) (h : CkIn c col w b C bd bm at_) (hd : DkAt 62 cd col w bd C.D) (HL : LiveC C n N) (hN : N < 1000000000 - 10) (hcc : ¬ c = cd) (hn : n ≤ 4096) :
    Calls Try.prog 24 #[.pointer (some ⟨b, 0, none⟩), .int .i64 s] w (StepP (PinR n C s) c cd col w b bd) := by
  go_enter Try.func24, Try.ntmps24
  go_wp2_with fail
  refine (bring_p c cd col b bd bm C at_ n N s w h hd HL hN hcc hn).mono ?_
  intro e w1 hp
  rcases hp.cases with ⟨C1, g, col1, bm1, at1, rfl, HB⟩ | ⟨E, C1, hE, rfl, HB⟩
  · have g2 := ((HB.out.1.live HL).2.2.1 rfl).2
    have hpin := (HB.out.1.live HL).1.pin s g2
    obtain ⟨g', hg', _, _, a, cc, hr, hcg, hi⟩ := HB.out.2.2.2.1.fr s g2
    have : g' = g := Option.some.inj (hg'.symm.trans HB.out.2.1)
    subst this
    have d3 := fr3 hr
    have HI := Lib.hid hi
    have HCC := Lib.hid hcc
    have HG2 := Lib.hid g2
    have hp0 := hpin.1
    have hp1 := hpin.2
    clear hp h hd HL hi hcc g2 hpin
    obtain ⟨p, hpp⟩ : ∃ p, p = (C1.F s).pins := ⟨_, rfl⟩
    rw [← hpp] at d3 hp0 hp1
    have HP := Lib.hid hpp
    clear hpp
    go_wp2_with (refine wpL_storeAt rfl _ _ _ rfl rfl rfl rfl rfl (by kernel_rfl) hr rfl ?_; intro w3 hg3 hr3; have HG3 := Lib.hid hg3; have HR3 : Hid (Row w3 g' 70 (frow a cc { C1.F s with pins := p + 1 })) := Lib.hid hr3; clear hg3 hr3 hr d3)
    go_ret
    have hm3 : Mods (fun x => x = g') w1 w3 := (Mods.grown HG3.out).mono (fun x hx => (Option.some.inj hx).symm)
    have k3 : St (fun x => x = c) col1 w1 col1 w3 := St.onlyX hm3 (fun _ _ => rfl) hcg
    have hnz : c ≠ 0 := HB.out.2.2.2.1.nz
    refine ⟨0, pinC C1 s ((C1.F s).pins + 1), rfl, Lib.hid ⟨⟨C1, HB.out.1, .inl ⟨rfl, rfl⟩⟩, col1, HB.out.2.2.1.trans (k3.mono (fun _ h => .inl h)), bm1, at1, ?_, HB.out.2.2.2.2.st k3 (fun e => hnz e.symm) (fun e => HCC.out e.symm)⟩⟩
    rw [← HP.out]
    exact HB.out.2.2.2.1.poke (f := { C1.F s with pins := p + 1 }) HG2.out hg' hm3 (fun _ _ => rfl) HR3.out (HI.out.st k3 (fun e => hnz e.symm))
  · clear hp
    rcases hE with rfl | rfl
    · go_wp2_with fail
      go_ret
      exact ⟨1, C1, rfl, Lib.hid ⟨⟨C1, HB.out.1, .inr ⟨by decide, rfl⟩⟩, HB.out.2⟩⟩
    · go_wp2_with fail
      go_ret
      exact ⟨3, C1, rfl, Lib.hid ⟨⟨C1, HB.out.1, .inr ⟨by decide, rfl⟩⟩, HB.out.2⟩⟩
end Go.Proofs.Ytchjfmgfoifbcaa
