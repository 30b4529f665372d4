/-
  Write of a disk, the program's and the document's. Conditions: the disk reads as one, the bytes read.
-/
import Derived.Test.YtchjfmgfoifbcaaDskA
import Derived.Test.YtchjfmgfoifbcaaFill
namespace Go.Proofs.Ytchjfmgfoifbcaa
open Go.RowKit
set_option linter.unusedVariables false
set_option linter.unusedSimpArgs false
set_option maxRecDepth 100000

theorem etW : ET Try.prog 60 78 (.agg #[.int .i64 0, .slice none 0 0]) 2 32 := ⟨Try.underlying60, by kernel_rfl, rfl, by decide⟩
theorem fill256 {l : List UInt8} (h : l.length ≤ 256) : fillIs l 256 = true ∧ fillL l 256 = fullB l := by
  have h1 : fillIs l 256 = true := by simp [fillIs]; omega
  refine ⟨h1, ?_⟩
  rw [fillL, h1]; rfl
theorem fill256n {l : List UInt8} (h : ¬ l.length ≤ 256) : fillIs l 256 = false := by simp [fillIs]; omega
theorem Made.after {e : TypeId} {c : Nat} {col col1 : Nat → Nat} {w w1 w' : World} {b : Nat} {D : Dk} (k : St (fun x => x = c) col w col1 w1) (h : Made e c col1 w1 b D w') : Made e c col w b D w' := by
  obtain ⟨col2, k2, h2⟩ := h
  exact ⟨col2, k.trans k2, h2⟩
theorem Dk.Fits.write {D : Dk} {k : Nat} (h : D.Fits k) {s : Nat} (hs : s < D.S.length) {l : List UInt8} (hl : l.length ≤ 256) : (writeM D s l).Fits (k + 1) :=
  ⟨writeM_fit h.fit hs hl, h.arm, by have := h.pen; simp [writeM]; omega, h.st0, by have := h.st1; simp [writeM]; omega, h.sec⟩
theorem DkIn.push {e : TypeId} {c : Nat} {col : Nat → Nat} {w w4 w5 : World} {b : Nat} {D : Dk} {aS : Option Addr} {cS : Nat} {aP : Option Addr} {cP : Nat} {sv pv : List Value} (h : DkIn e c col w b D aS cS aP cP sv pv)
    {s : Nat} {l : List UInt8} {u v' : Value} (hu : Imm col w u l) (ho : Own w4 0 2 v' (D.P.length + 1) (pv ++ [.int .i64 (s : Int), u])) (hg : w.grownBy w4 (Value.slice aP D.P.length cP).ownBlock)
    (hor : (∃ g off cap, Value.slice aP D.P.length cP = .slice (some ⟨g, off, none⟩) D.P.length cap ∧ v' = .slice (some ⟨g, off, none⟩) (D.P.length + 1) cap) ∨ ((∀ g, v'.ownBlock = some g → w.heap.size ≤ g) ∧ w.grownBy w4 none))
    (hg5 : w4.grownBy w5 (some b)) (hr5 : Row w5 b e [.slice aS D.S.length cS, v', .bool D.dead, .int .i64 D.armed, .int .i64 D.steps]) :
    Made e c col w b ⟨D.S, D.P ++ [(s, l)], D.dead, D.armed, D.steps⟩ w5 := by
  have hC0 : ¬ (0 = c) := fun e => h.nz e.symm
  have k1 : St (fun x => x = c) col w (recol col w.heap.size c) w4 := (St.own hg _ col (fun g hg => h.po.2 g hg)).recol c
  have hcb : recol col w.heap.size c b = c := (recol_lt h.row.lt).trans h.cb
  have k5 : St (fun x => x = c) (recol col w.heap.size c) w4 (recol col w.heap.size c) w5 := St.one hg5 _ _ hcb
  have k := k1.trans k5
  have hv : ∀ g, v'.ownBlock = some g → (Value.slice aP D.P.length cP).ownBlock = some g ∨ w.heap.size ≤ g := by
    intro g hgv
    rcases hor with ⟨g', off, cap, e1, e2⟩ | ⟨h1, _⟩
    · left
      rw [e1]; subst e2
      simp [Value.ownBlock] at hgv ⊢
      exact hgv
    · exact .inr (h1 g hgv)
  have hvb : v'.ownBlock ≠ some b := by
    intro e1
    rcases hv b e1 with h1 | h1
    · exact h.pb h1
    · have := h.row.lt; omega
  obtain ⟨a', c', rfl⟩ := ho.form
  have hlen : (D.P ++ [(s, l)]).length = D.P.length + 1 := by simp
  refine ⟨_, k, aS, cS, a', c', sv, pv ++ [.int .i64 (s : Int), u], ?_, h.nz, hcb, ?_, h.si.st k hC0, ?_, (h.pi.st k hC0).app (.one (hu.st k hC0)), h.sb, ?_, ?_⟩
  · rw [hlen]; exact hr5
  · refine ⟨(h.so.1.kept hg ?_).kept hg5 (.inr h.sb), fun g hg => (recol_lt (h.so.1.lives g hg)).trans (h.so.2 g hg)⟩
    cases hq : (Value.slice aS D.S.length cS).ownBlock with
    | none => exact .inl rfl
    | some g => exact .inr (fun e => h.ap g hq e.symm)
  · rw [hlen]
    refine ⟨ho.kept hg5 (.inr hvb), fun g hgv => ?_⟩
    rcases hv g hgv with h1 | h1
    · exact (recol_lt (h.po.1.lives g h1)).trans (h.po.2 g h1)
    · exact recol_ge h1
  · rw [hlen]; exact hvb
  · rw [hlen]
    intro g hgs hgv
    rcases hv g hgv with h1 | h1
    · exact h.ap g hgs h1
    · have := h.so.1.lives g hgs
      omega
theorem writeE_dead {S : List (List UInt8)} {P : Pend} {a s : Int} {k : Int} {l : List UInt8} : writeE ⟨S, P, true, a, k⟩ s l = 4 ∧ writeD ⟨S, P, true, a, k⟩ s l = ⟨S, P, true, a, k⟩ := ⟨by simp [writeE], by simp [writeD]⟩
theorem writeE_no {S : List (List UInt8)} {P : Pend} {a s : Int} {k : Int} {l : List UInt8} (h : writeIs ⟨S, P, false, a, k⟩ s l = false) : writeE ⟨S, P, false, a, k⟩ s l = 1 ∧ writeD ⟨S, P, false, a, k⟩ s l = ⟨S, P, false, a, k⟩ := ⟨by simp [writeE, h], by simp [writeD, h]⟩
theorem writeE_yes {S : List (List UInt8)} {P : Pend} {a : Int} {s : Nat} {k : Int} {l : List UInt8} (h : writeIs ⟨S, P, false, a, k⟩ s l = true) : writeE ⟨S, P, false, a, k⟩ s l = powE (writeD ⟨S, P, false, a, k⟩ s l) ∧ writeD ⟨S, P, false, a, k⟩ s l = stepD ⟨S, P ++ [(s, fullB l)], false, a, k⟩ := by
  have h1 : writeD ⟨S, P, false, a, k⟩ s l = stepD ⟨S, P ++ [(s, fullB l)], false, a, k⟩ := by simp [writeD, h, writeM]
  refine ⟨?_, h1⟩
  rw [h1]
  unfold writeE
  rw [if_neg (by simp), h, if_neg (by simp)]
  unfold powE stepD
  simp only
  split <;> rfl

set_option maxHeartbeats 1000000 in
theorem write_p (c : Nat) (col : Nat → Nat) (b : Nat) (D : Dk) (s : Int) (k : Nat) (a : Option Addr) (n cc : Nat) (l : List UInt8) (w : World) (h : DkAt 62 c col w b D) (hF : D.Fits k) (hk : k < 1073741823) (hl : Sl w 1 (.slice a n cc) n (bvs l)) (E : Int) (hE : Hid (E = writeE D s l)) (T : Dk) (hT : Hid (T = writeD D s l)) :
    Calls Try.prog 50 #[.pointer (some ⟨b, 0, none⟩), .int .i64 s, .slice a n cc] w fun e w' => e = .returned (.int .i64 E) ∧ Made 62 c col w b T w' := by
  obtain ⟨aS, cS, aP, cP, sv, pv, h⟩ := h
  obtain ⟨S, P, dead, armed, steps⟩ := D
  have hr := h.row
  simp only at hr
  have c0 : w.cell? ⟨b, 0, none⟩ = some (.slice aS S.length cS) := hr.cell 0
  have c2 : w.cell? ⟨b, 2, none⟩ = some (.bool dead) := hr.cell 2
  have H := Lib.hid h
  clear h hr
  have hn := hl.len
  have HN := Lib.hid hn.1
  have HLL := Lib.hid hl
  clear hn
  cases dead with
  | true =>
    obtain rfl : E = 4 := hE.out.trans writeE_dead.1
    obtain rfl := hT.out.trans writeE_dead.2
    clear hE hT
    go_enter Try.func50, Try.ntmps50
    go_wp2_with fail
    refine (power_d b true w c2).mono ?_
    rintro e w5 ⟨rfl, rfl⟩
    go_wp2_with fail
    go_ret
    exact ⟨rfl, Made.refl ⟨_, _, _, _, _, _, H.out⟩⟩
  | false =>
    go_enter Try.func50, Try.ntmps50
    go_wp2_with fail
    refine (power_d b false w c2).mono ?_
    rintro e w5 ⟨rfl, rfl⟩
    go_wp2_with fail
    refine (fill_any a n cc l w 256 hl).mono ?_
    rintro e w2 ⟨v, rfl, ho, hb⟩
    have k0 : St (fun _ => False) col w (recol col w.heap.size 0) w2 := St.new hb _ _ _
    have H2 := Lib.hid (H.out.st k0 (fun h => h) (fun h => h))
    have d0 : w2.cell? ⟨b, 0, none⟩ = some (.slice aS S.length cS) := (hb.cell (p := ⟨b, 0, none⟩) (lt_of_cell c0)).trans c0
    have HO := Lib.hid ho
    have HB := Lib.hid hb
    clear ho hb
    obtain ⟨fi, hfi⟩ : ∃ fi, fi = fillIs l 256 := ⟨_, rfl⟩
    rw [← hfi]
    have HFI := Lib.hid hfi
    clear hfi
    obtain ⟨a2, c2', rfl⟩ := HO.out.form
    obtain ⟨n2, hn2⟩ : ∃ n2, n2 = (fillL l 256).length := ⟨_, rfl⟩
    rw [← hn2] at HO ⊢
    have HN2 := Lib.hid hn2
    clear hn2
    obtain ⟨ii, hii⟩ : ∃ ii, ii = (decide (0 ≤ s) && decide (s < (S.length : Int))) := ⟨_, rfl⟩
    have HII := Lib.hid hii
    clear hii
    have hI : writeIs ⟨S, P, false, armed, steps⟩ s l = (ii && fi) := by
      have e2 : fi = decide (l.length ≤ 256) := by
        rw [HFI.out]
        by_cases hx : l.length ≤ 256
        · rw [(fill256 hx).1, decide_eq_true hx]
        · rw [fill256n hx, decide_eq_false hx]
      rw [e2, HII.out]; rfl
    have HI := Lib.hid hI
    clear hI
    cases ii with
    | false =>
      obtain rfl : E = 1 := hE.out.trans (writeE_no (by rw [HI.out]; rfl)).1
      obtain rfl := hT.out.trans (writeE_no (by rw [HI.out]; rfl)).2
      clear hE hT
      go_wp2_with fail
      refine (within_any b aS S.length cS s w2 d0).mono ?_
      rintro e w5 ⟨rfl, rfl⟩
      rw [← HII.out]
      go_wp2_with fail
      go_ret
      exact ⟨rfl, _, k0.mono (fun _ h => h.elim), _, _, _, _, _, _, H2.out⟩
    | true =>
    cases fi with
    | false =>
      obtain rfl : E = 1 := hE.out.trans (writeE_no (by rw [HI.out]; rfl)).1
      obtain rfl := hT.out.trans (writeE_no (by rw [HI.out]; rfl)).2
      clear hE hT
      go_wp2_with fail
      refine (within_any b aS S.length cS s w2 d0).mono ?_
      rintro e w5 ⟨rfl, rfl⟩
      rw [← HII.out]
      go_wp2_with fail
      go_ret
      exact ⟨rfl, _, k0.mono (fun _ h => h.elim), _, _, _, _, _, _, H2.out⟩
    | true =>
      have hl256 : l.length ≤ 256 := by have := HFI.out; simp [fillIs] at this; omega
      have HL256 := Lib.hid hl256
      have hin : inD ⟨S, P, false, armed, steps⟩ s = true := HII.out.symm
      obtain ⟨q, rfl, hq⟩ := inD_nat hin
      simp only at hq
      have hT2 := hT.out.trans (writeE_yes (by rw [HI.out]; rfl)).2
      have hE2 := hE.out.trans (writeE_yes (by rw [HI.out]; rfl)).1
      rw [← hT.out] at hE2
      have HT2 := Lib.hid hT2
      have HE2 := Lib.hid hE2
      have HFL : Hid (fillL l 256 = fullB l) := Lib.hid (fill256 hl256).2
      have HIM : Hid (Imm (recol col w.heap.size 0) w2 (.slice a2 n2 c2') (fullB l)) := by
        show Imm _ _ _ _
        have := HO.out
        rw [HFL.out] at this
        exact Imm.own this
      clear hE hT hT2 hE2 hin hl256
      go_wp2_with fail
      refine (within_any b aS S.length cS q w2 d0).mono ?_
      rintro e w5 ⟨rfl, rfl⟩
      rw [← HII.out]
      have d1 : w2.cell? ⟨b, 1, none⟩ = some (.slice aP P.length cP) := H2.out.row.cell 1
      have hpen := hF.pen
      simp only at hpen
      have k3 : St (fun _ => False) (recol col w.heap.size 0) w2 (recol col w.heap.size 0) (w2.alloc (.cells #[.int .i64 (q : Int), .slice a2 n2 c2'] 78)) := St.fresh ((Below.refl _ _).alloc (Nat.le_refl _) _) _ _
      have H3 := Lib.hid (H2.out.st k3 (fun h => h) (fun h => h))
      have HM3 := Lib.hid (HIM.out.st k3 (fun h => h))
      have HS3 := Lib.hid (Sl.litS w2 [.int .i64 (q : Int), .slice a2 n2 c2'] 78 2 1 rfl (by decide))
      go_wp2_with (first | (at_builtin; (refine wpL_appendY etW rfl _ _ rfl H3.out.po.1 rfl HS3.out rfl (by simp [Value.oneCell']) (by show (P.length + 1) * 32 ≤ _; omega) (by show P.length + 1 ≤ maxLen; simp [maxLen]; omega) (Nat.zero_le _) ?_; intro v4 w4 ho4 hg4 hor4; obtain ⟨a4, c4, rfl⟩ := ho4.form; have hr4 := H3.out.row.grown hg4 (fun e => H3.out.pb e.symm); have HR4 := Lib.hid ho4; have HG4 := Lib.hid hg4; have HOR4 := Lib.hid hor4; clear ho4 hg4 hor4)) | (refine wpL_storeAt rfl _ _ _ rfl rfl rfl rfl rfl (by kernel_rfl) hr4 rfl ?_; intro w5 hg5 hr5; have HMD : Hid (Made 62 c (recol col w.heap.size 0) _ b ⟨S, P ++ [(q, fullB l)], false, armed, steps⟩ w5) := Lib.hid (H3.out.push HM3.out HR4.out HG4.out HOR4.out hg5 hr5); clear hg5 hr5))
      obtain ⟨col5, k5, h5⟩ := HMD.out
      have k05 := ((k0.trans k3).mono (fun _ h => h.elim)).trans k5
      have hF5 : (⟨S, P ++ [(q, fullB l)], false, armed, steps⟩ : Dk).Fits (k + 1) := hF.write hq HL256.out
      refine (step_p c col5 b _ (k + 1) w5 h5 hF5 (by omega) T HT2 E HE2).mono ?_
      rintro e w6 ⟨rfl, hm6⟩
      go_wp2_with fail
      go_ret
      exact ⟨rfl, hm6.after k05⟩
end Go.Proofs.Ytchjfmgfoifbcaa
