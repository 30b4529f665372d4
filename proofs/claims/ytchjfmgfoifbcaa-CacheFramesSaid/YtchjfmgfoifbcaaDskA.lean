/-
  A disk in memory ('DkAt'), the program's and the document's; power, within, step, Arm, Off and what is told of it. Conditions: the disk reads as one.
-/
import Derived.Test.YtchjfmgfoifbcaaDskM
import Derived.Test.YtchjfmgfoifbcaaDskP
import Derived.Test.YtchjfmgfoifbcaaStore
import Derived.Deep.Cut
namespace Go.Proofs.Ytchjfmgfoifbcaa
open Go.RowKit
set_option linter.unusedVariables false
set_option linter.unusedSimpArgs false
set_option maxRecDepth 100000

structure DkIn (e : TypeId) (c : Nat) (col : Nat → Nat) (w : World) (b : Nat) (D : Dk) (aS : Option Addr) (cS : Nat) (aP : Option Addr) (cP : Nat) (sv pv : List Value) : Prop where
  row : Row w b e [.slice aS D.S.length cS, .slice aP D.P.length cP, .bool D.dead, .int .i64 D.armed, .int .i64 D.steps]
  nz : c ≠ 0
  cb : col b = c
  so : OwnC col w c 1 (.slice aS D.S.length cS) D.S.length sv
  si : Imms col w sv D.S
  po : OwnC col w c 2 (.slice aP D.P.length cP) D.P.length pv
  pi : Pens col w pv D.P
  sb : (Value.slice aS D.S.length cS).ownBlock ≠ some b
  pb : (Value.slice aP D.P.length cP).ownBlock ≠ some b
  ap : ∀ g, (Value.slice aS D.S.length cS).ownBlock = some g → (Value.slice aP D.P.length cP).ownBlock ≠ some g
def DkAt (e : TypeId) (c : Nat) (col : Nat → Nat) (w : World) (b : Nat) (D : Dk) : Prop := ∃ aS cS aP cP sv pv, DkIn e c col w b D aS cS aP cP sv pv
theorem DkIn.st {e : TypeId} {c : Nat} {C : Nat → Prop} {col col' : Nat → Nat} {w w' : World} {b : Nat} {D : Dk} {aS : Option Addr} {cS : Nat} {aP : Option Addr} {cP : Nat} {sv pv : List Value} (h : DkIn e c col w b D aS cS aP cP sv pv)
    (k : St C col w col' w') (hC0 : ¬ C 0) (hC : ¬ C c) : DkIn e c col' w' b D aS cS aP cP sv pv :=
  ⟨h.row.mods k.mods (by rw [h.cb]; exact hC), h.nz, (k.ext b h.row.lt).trans h.cb, h.so.st k hC, h.si.st k hC0, h.po.st k hC, h.pi.st k hC0, h.sb, h.pb, h.ap⟩
theorem DkAt.st {e : TypeId} {c : Nat} {C : Nat → Prop} {col col' : Nat → Nat} {w w' : World} {b : Nat} {D : Dk} (h : DkAt e c col w b D) (k : St C col w col' w') (hC0 : ¬ C 0) (hC : ¬ C c) : DkAt e c col' w' b D := by
  obtain ⟨aS, cS, aP, cP, sv, pv, h⟩ := h
  exact ⟨aS, cS, aP, cP, sv, pv, h.st k hC0 hC⟩
/-- another cell of the object itself -/
theorem DkIn.put {e : TypeId} {c : Nat} {col : Nat → Nat} {w w' : World} {b : Nat} {D : Dk} {aS : Option Addr} {cS : Nat} {aP : Option Addr} {cP : Nat} {sv pv : List Value} (h : DkIn e c col w b D aS cS aP cP sv pv)
    (hg : w.grownBy w' (some b)) (dead : Bool) (armed steps : Int) (hr : Row w' b e [.slice aS D.S.length cS, .slice aP D.P.length cP, .bool dead, .int .i64 armed, .int .i64 steps]) :
    DkIn e c col w' b ⟨D.S, D.P, dead, armed, steps⟩ aS cS aP cP sv pv := by
  have k : St (fun x => x = c) col w col w' := St.one hg _ _ h.cb
  have hC0 : ¬ (0 = c) := fun e => h.nz e.symm
  exact ⟨hr, h.nz, h.cb, h.so.keep hg (.inr h.sb), h.si.st k hC0, h.po.keep hg (.inr h.pb), h.pi.st k hC0, h.sb, h.pb, h.ap⟩
/-- what a call makes of a disk -/
def Made (e : TypeId) (c : Nat) (col : Nat → Nat) (w : World) (b : Nat) (D : Dk) (w' : World) : Prop := ∃ col', St (fun x => x = c) col w col' w' ∧ DkAt e c col' w' b D
theorem Made.refl {e : TypeId} {c : Nat} {col : Nat → Nat} {w : World} {b : Nat} {D : Dk} (h : DkAt e c col w b D) : Made e c col w b D w := ⟨col, St.refl _ _ _, h⟩
theorem Made.one {e : TypeId} {c : Nat} {col : Nat → Nat} {w w' : World} {b : Nat} {D : Dk} (hg : w.grownBy w' (some b)) (hc : col b = c) (h : DkAt e c col w' b D) : Made e c col w b D w' := ⟨col, St.one hg _ _ hc, h⟩

theorem Made.three {e : TypeId} {c : Nat} {col : Nat → Nat} {w w1 w2 w' : World} {b : Nat} {D : Dk} (h1 : w.grownBy w1 (some b)) (h2 : w1.grownBy w2 (some b)) (h3 : w2.grownBy w' (some b)) (hc : col b = c) (h : DkAt e c col w' b D) : Made e c col w b D w' :=
  ⟨col, ((St.one h1 _ col hc).trans (St.one h2 _ col hc)).trans (St.one h3 _ col hc), h⟩

structure Dk.Fits (D : Dk) (k : Nat) : Prop where
  fit : D.Fit
  arm : D.armed ≤ 9223372036854775807
  pen : D.P.length ≤ k
  st0 : 0 ≤ D.steps
  st1 : D.steps ≤ k
  sec : D.S.length ≤ 1048576
theorem Dk.Fits.le {D : Dk} {k k' : Nat} (h : D.Fits k) (hk : k ≤ k') : D.Fits k' := ⟨h.fit, h.arm, Nat.le_trans h.pen hk, h.st0, by have := h.st1; omega, h.sec⟩
theorem Dk.Fits.step {D : Dk} {k : Nat} (h : D.Fits k) : (stepD D).Fits (k + 1) := by
  obtain ⟨h1, h2, h3⟩ := stepD_fields D
  refine ⟨stepD_fit h.fit, ?_, by rw [h2]; have := h.pen; omega, by rw [h3]; have := h.st0; omega, by rw [h3]; have := h.st1; omega, by rw [h1]; exact h.sec⟩
  have := h.arm
  unfold stepD; split <;> simp <;> omega

theorem power_d (b : Nat) (d : Bool) (w : World) (hc : w.cell? ⟨b, 2, none⟩ = some (.bool d)) : Calls Try.prog 46 #[.pointer (some ⟨b, 0, none⟩)] w fun e w' => e = .returned (.int .i64 (if d = true then 4 else 0)) ∧ w = w' := by
  cases d with
  | true =>
    go_enter Try.func46, Try.ntmps46
    go_wp2_with fail
    go_ret
    exact ⟨rfl, rfl⟩
  | false =>
    go_enter Try.func46, Try.ntmps46
    go_wp2_with fail
    go_ret
    exact ⟨rfl, rfl⟩
theorem power_p (b : Nat) (d : Bool) (w : World) (hc : w.cell? ⟨b, 2, none⟩ = some (.bool d)) (E : Int) (hE : Hid (E = if d = true then 4 else 0)) : Calls Try.prog 46 #[.pointer (some ⟨b, 0, none⟩)] w fun e w' => e = .returned (.int .i64 E) ∧ w = w' := by
  rw [hE.out]
  exact power_d b d w hc
theorem power_nil (w : World) : Calls Try.prog 46 #[.pointer none] w fun e w' => e = .returned (.int .i64 2) ∧ w = w' := by
  go_enter Try.func46, Try.ntmps46
  go_wp2_with fail
  go_ret
  exact ⟨rfl, rfl⟩
theorem within_any (b : Nat) (aS : Option Addr) (n cS : Nat) (s : Int) (w : World) (hc : w.cell? ⟨b, 0, none⟩ = some (.slice aS n cS)) : Calls Try.prog 60 #[.pointer (some ⟨b, 0, none⟩), .int .i64 s] w fun e w' => e = .returned (.bool (decide (0 ≤ s) && decide (s < (n : Int)))) ∧ w = w' := by
  by_cases h0 : 0 ≤ s
  · by_cases h1 : s < (n : Int)
    · go_enter Try.func60, Try.ntmps60
      go_wp2_with fail
      go_ret
      exact ⟨by simp [h0, h1], rfl⟩
    · go_enter Try.func60, Try.ntmps60
      go_wp2_with fail
      go_ret
      exact ⟨by simp [h0, h1], rfl⟩
  · go_enter Try.func60, Try.ntmps60
    go_wp2_with fail
    go_ret
    exact ⟨by rw [decide_eq_false (by omega : ¬ 0 ≤ s)]; rfl, rfl⟩

theorem dead_any (b : Nat) (d : Bool) (w : World) (hc : w.cell? ⟨b, 2, none⟩ = some (.bool d)) : Calls Try.prog 47 #[.pointer (some ⟨b, 0, none⟩)] w fun e w' => e = .returned (.bool d) ∧ w = w' := by
  go_enter Try.func47, Try.ntmps47
  go_wp2_with fail
  go_ret
  exact ⟨rfl, rfl⟩
theorem sectors_any (b : Nat) (a : Option Addr) (n c : Nat) (w : World) (hc : w.cell? ⟨b, 0, none⟩ = some (.slice a n c)) : Calls Try.prog 53 #[.pointer (some ⟨b, 0, none⟩)] w fun e w' => e = .returned (.int .i64 n) ∧ w = w' := by
  go_enter Try.func53, Try.ntmps53
  go_wp2_with fail
  go_ret
  exact ⟨rfl, rfl⟩

/-! ### step -/
theorem step_no {S : List (List UInt8)} {P : Pend} {dead : Bool} {armed steps : Int} (ha : ¬ 0 < armed) : stepD ⟨S, P, dead, armed, steps⟩ = ⟨S, P, dead, armed, steps + 1⟩ := by simp [stepD, ha]
theorem step_yes {S : List (List UInt8)} {P : Pend} {dead : Bool} {armed steps : Int} (ha : 0 < armed) : stepD ⟨S, P, dead, armed, steps⟩ = ⟨S, P, armed == 1, armed - 1, steps + 1⟩ := by simp [stepD, ha]
set_option maxRecDepth 100000 in
theorem step_p (c : Nat) (col : Nat → Nat) (b : Nat) (D : Dk) (k : Nat) (w : World) (h : DkAt 62 c col w b D) (hF : D.Fits k) (hk : k < 1073741824) (T : Dk) (hT : Hid (T = stepD D)) (E : Int) (hE : Hid (E = powE T)) :
    Calls Try.prog 51 #[.pointer (some ⟨b, 0, none⟩)] w fun e w' => e = .returned (.int .i64 E) ∧ Made 62 c col w b T w' := by
  obtain ⟨aS, cS, aP, cP, sv, pv, h⟩ := h
  obtain ⟨S, P, dead, armed, steps⟩ := D
  have h3 := hF.arm
  have h4 := hF.st0
  have h5 := hF.st1
  simp only at h3 h4 h5
  have hr := h.row
  simp only at hr
  have c3 : w.cell? ⟨b, 3, none⟩ = some (.int .i64 armed) := hr.cell 3
  have c4 : w.cell? ⟨b, 4, none⟩ = some (.int .i64 steps) := hr.cell 4
  by_cases ha : 0 < armed
  · rw [step_yes ha] at hT
    obtain ⟨dd, hdd⟩ : ∃ dd, dd = (armed == 1) := ⟨_, rfl⟩
    rw [← hdd] at hT
    obtain rfl := hT.out
    have hdd2 : ((armed - 1) == 0) = dd := by rw [hdd, Bool.eq_iff_iff]; simp; omega
    clear hT hdd
    have H := Lib.hid h
    clear h
    go_enter Try.func51, Try.ntmps51
    go_upto_region 2 with (refine wpL_storeAt rfl _ _ _ rfl rfl rfl rfl rfl (by kernel_rfl) hr rfl ?_; intro w2 hg2 hr2; have d3 : w2.cell? ⟨b, 3, none⟩ = some (.int .i64 armed) := hr2.cell 3; have HM2 : Hid (DkIn 62 c col w2 b ⟨S, P, dead, armed, steps + 1⟩ aS cS aP cP sv pv) := Lib.hid (H.out.put hg2 _ _ _ hr2))
    go_upto_region 4 with (refine wpL_storeAt rfl _ _ _ rfl rfl rfl rfl rfl (by kernel_rfl) hr2 rfl ?_; intro w3 hg3 hr3; have e3 : w3.cell? ⟨b, 3, none⟩ = some (.int .i64 (armed - 1)) := hr3.cell 3; have HM3 : Hid (DkIn 62 c col w3 b ⟨S, P, dead, armed - 1, steps + 1⟩ aS cS aP cP sv pv) := Lib.hid (HM2.out.put hg3 _ _ _ hr3))
    go_upto_region 5 with (refine wpL_storeAt rfl _ _ _ rfl rfl rfl rfl rfl (by kernel_rfl) hr3 rfl ?_; intro w4 hg4 hr4; have d2 : w4.cell? ⟨b, 2, none⟩ = some (.bool dd) := hr4.cell 2; have HM : Hid (Made 62 c col w b ⟨S, P, dd, armed - 1, steps + 1⟩ w4) := Lib.hid (Made.three hg2 hg3 hg4 H.out.cb ⟨_, _, _, _, _, _, HM3.out.put hg4 _ _ _ hr4⟩); clear hr hr2 hr3 hr4 hg2 hg3 hg4)
    go_wp2_with fail
    refine (power_p b dd w4 d2 E hE).mono ?_
    rintro e w5 ⟨rfl, rfl⟩
    go_wp2_with fail
    go_ret
    exact ⟨rfl, HM.out⟩
  · rw [step_no ha] at hT
    obtain rfl := hT.out
    clear hT
    have H := Lib.hid h
    clear h
    go_enter Try.func51, Try.ntmps51
    go_upto_region 2 with (refine wpL_storeAt rfl _ _ _ rfl rfl rfl rfl rfl (by kernel_rfl) hr rfl ?_; intro w2 hg2 hr2; have d2 : w2.cell? ⟨b, 2, none⟩ = some (.bool dead) := hr2.cell 2; have d3 : w2.cell? ⟨b, 3, none⟩ = some (.int .i64 armed) := hr2.cell 3; have HM : Hid (Made 62 c col w b ⟨S, P, dead, armed, steps + 1⟩ w2) := Lib.hid (Made.one hg2 H.out.cb ⟨_, _, _, _, _, _, H.out.put hg2 _ _ _ hr2⟩); clear hr hr2 hg2)
    go_wp2_with fail
    refine (power_p b dead w2 d2 E hE).mono ?_
    rintro e w5 ⟨rfl, rfl⟩
    go_wp2_with fail
    go_ret
    exact ⟨rfl, HM.out⟩
/-! ### Arm, Off -/
theorem arm_p (c : Nat) (col : Nat → Nat) (b : Nat) (D : Dk) (n : Int) (w : World) (h : DkAt 62 c col w b D) (E : Int) (hE : Hid (E = armE D n)) (T : Dk) (hT : Hid (T = armD D n)) :
    Calls Try.prog 30 #[.pointer (some ⟨b, 0, none⟩), .int .i64 n] w fun e w' => e = .returned (.int .i64 E) ∧ Made 62 c col w b T w' := by
  obtain ⟨aS, cS, aP, cP, sv, pv, h⟩ := h
  obtain ⟨S, P, dead, armed, steps⟩ := D
  have hr := h.row
  simp only at hr
  have c0 : w.cell? ⟨b, 0, none⟩ = some (.slice aS S.length cS) := hr.cell 0
  have c1 : w.cell? ⟨b, 1, none⟩ = some (.slice aP P.length cP) := hr.cell 1
  have c2 : w.cell? ⟨b, 2, none⟩ = some (.bool dead) := hr.cell 2
  have c3 : w.cell? ⟨b, 3, none⟩ = some (.int .i64 armed) := hr.cell 3
  have c4 : w.cell? ⟨b, 4, none⟩ = some (.int .i64 steps) := hr.cell 4
  have H := Lib.hid h
  clear h
  cases dead with
  | true =>
    obtain rfl : E = 4 := hE.out.trans (by simp [armE])
    obtain rfl := hT.out.trans (by simp [armD] : _ = (⟨S, P, true, armed, steps⟩ : Dk))
    clear hE hT
    go_enter Try.func30, Try.ntmps30
    go_wp2_with fail
    refine (power_d b true w c2).mono ?_
    rintro e w5 ⟨rfl, rfl⟩
    go_wp2_with fail
    go_ret
    exact ⟨rfl, Made.refl ⟨_, _, _, _, _, _, H.out⟩⟩
  | false =>
    by_cases hn : n < 0
    · obtain rfl : E = 1 := hE.out.trans (by simp [armE, hn])
      obtain rfl := hT.out.trans (by simp [armD, hn] : _ = (⟨S, P, false, armed, steps⟩ : Dk))
      clear hE hT
      go_enter Try.func30, Try.ntmps30
      go_wp2_with fail
      refine (power_d b false w c2).mono ?_
      rintro e w5 ⟨rfl, rfl⟩
      go_wp2_with fail
      go_ret
      exact ⟨rfl, Made.refl ⟨_, _, _, _, _, _, H.out⟩⟩
    · obtain rfl : E = 0 := hE.out.trans (by simp [armE, hn])
      obtain rfl := hT.out.trans (by simp [armD, hn] : _ = (⟨S, P, false, n, steps⟩ : Dk))
      clear hE hT
      go_enter Try.func30, Try.ntmps30
      go_wp2_with fail
      refine (power_d b false w c2).mono ?_
      rintro e w5 ⟨rfl, rfl⟩
      go_wp2_with (refine wpL_storeAt rfl _ _ _ rfl rfl rfl rfl rfl (by kernel_rfl) hr rfl ?_; intro w2 hg2 hr2; have HM : Hid (Made 62 c col w b ⟨S, P, false, n, steps⟩ w2) := Lib.hid (Made.one hg2 H.out.cb ⟨_, _, _, _, _, _, H.out.put hg2 _ _ _ hr2⟩))
      go_ret
      exact ⟨rfl, HM.out⟩
theorem off_p (c : Nat) (col : Nat → Nat) (b : Nat) (D : Dk) (w : World) (h : DkAt 62 c col w b D) (T : Dk) (hT : Hid (T = offD D)) :
    Calls Try.prog 28 #[.pointer (some ⟨b, 0, none⟩)] w fun e w' => (∃ v, e = .returned v) ∧ Made 62 c col w b T w' := by
  obtain ⟨aS, cS, aP, cP, sv, pv, h⟩ := h
  obtain ⟨S, P, dead, armed, steps⟩ := D
  have hr := h.row
  simp only at hr
  have c0 : w.cell? ⟨b, 0, none⟩ = some (.slice aS S.length cS) := hr.cell 0
  have c1 : w.cell? ⟨b, 1, none⟩ = some (.slice aP P.length cP) := hr.cell 1
  have c2 : w.cell? ⟨b, 2, none⟩ = some (.bool dead) := hr.cell 2
  have c3 : w.cell? ⟨b, 3, none⟩ = some (.int .i64 armed) := hr.cell 3
  have c4 : w.cell? ⟨b, 4, none⟩ = some (.int .i64 steps) := hr.cell 4
  have H := Lib.hid h
  clear h
  obtain rfl := hT.out.trans (by simp [offD] : _ = (⟨S, P, true, armed, steps⟩ : Dk))
  clear hT
  go_enter Try.func28, Try.ntmps28
  go_wp2_with (refine wpL_storeAt rfl _ _ _ rfl rfl rfl rfl rfl (by kernel_rfl) hr rfl ?_; intro w2 hg2 hr2; have HM : Hid (Made 62 c col w b ⟨S, P, true, armed, steps⟩ w2) := Lib.hid (Made.one hg2 H.out.cb ⟨_, _, _, _, _, _, H.out.put hg2 _ _ _ hr2⟩))
  go_end0
  exact ⟨⟨_, rfl⟩, HM.out⟩
end Go.Proofs.Ytchjfmgfoifbcaa
