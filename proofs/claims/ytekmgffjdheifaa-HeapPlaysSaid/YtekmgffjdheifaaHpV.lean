/-
  Law 24's 'does' at a live heap. Conditions: the heap reads as one; what is done reads, and is small.
-/
import Derived.Test.YtekmgffjdheifaaHpU
namespace Go.Proofs.Ytekmgffjdheifaa
open Go Go.RowKit
set_option linter.unusedVariables false
set_option linter.unusedSimpArgs false
set_option maxRecDepth 100000

structure Told where
  o : Ob
  x : UInt8 × Int
  n : Int
  is : Bool
  e : Int
def told0 : Told := ⟨noOb, (0, 0), 0, false, 0⟩
noncomputable def doH (m : Nat) (H : List Th) (q : Opn) : List Th :=
  if q.K = 0 then allocH H m q.o else if q.K = 3 then setH H q.k q.i q.x else if q.K = 4 then tieH H q.k q.i else if q.K = 5 then untieH H q.k else if q.K = 8 then fillH H m q.k q.o else if q.K = 9 then cleanH H q.k else if q.K = 10 then collectH H q.R else H
noncomputable def tell (m : Nat) (H : List Th) (q : Opn) : Told :=
  if q.K = 0 then { told0 with n := allocN H m q.o, e := allocE H m q.o }
  else if q.K = 1 then { told0 with o := (thAt H q.k).o, is := (thAt H q.k).is }
  else if q.K = 2 then { told0 with x := wordAt H q.k q.i, is := wordIs H q.k q.i }
  else if q.K = 3 then { told0 with is := setIs H q.k q.i q.x }
  else if q.K = 4 then { told0 with e := tieE H q.k q.i }
  else if q.K = 5 then { told0 with is := untieIs H q.k }
  else if q.K = 6 then { told0 with n := (thAt H q.k).oid, is := decide (0 < (thAt H q.k).oid) }
  else if q.K = 7 then { told0 with n := ofH H q.i, is := decide (0 < ofH H q.i) }
  else if q.K = 8 then { told0 with e := fillE H m q.k q.o }
  else if q.K = 9 then { told0 with is := (thAt H q.k).dirty }
  else if q.K = 10 then { told0 with n := (countH H : Int) - (countH (collectH H q.R) : Int) }
  else told0
def tCells (t : Told) (v : Value) : List Value := [.int .u8 (t.o.k.toNat : Int), .int .i64 t.o.t, v, .string (str t.o.s), .int .u8 (t.x.1.toNat : Int), .int .i64 t.x.2, .int .i64 t.n, .bool t.is, .int .i64 t.e]
def told9 : List Value := [.int .u8 0, .int .i64 0, .slice none 0 0, .string ⟨#[]⟩, .int .u8 0, .int .i64 0, .int .i64 0, .bool false, .int .i64 0]
def DoesP (m : Nat) (H : List Th) (q : Opn) (col : Nat → Nat) (w : World) (b : Nat) (e : Ending) (w' : World) : Prop :=
  ∃ t v, e = .returned (.agg (tCells t v).toArray) ∧ Hid (t = tell m H q ∧ ∃ col', St HQ col w col' w' ∧ HpAt col' w' b m (doH m H q) ∧ OwnC col' w' 8 2 v t.o.l.length (wcells t.o.l))
theorem nq7 : ¬ HQ 7 := fun h => by rcases h with h | h <;> omega
theorem nq8 : ¬ HQ 8 := fun h => by rcases h with h | h <;> omega
theorem nq9 : ¬ HQ 9 := fun h => by rcases h with h | h <;> omega
theorem hq_ne {c : Nat} (hc : ¬ HQ c) : ∀ x, HQ x → ¬ (fun y => y = c) x := fun x hx e => hc (by rw [← show x = c from e]; exact hx)
theorem hq_false : ∀ x, HQ x → ¬ (fun _ : Nat => False) x := fun _ _ h => h
/-- the boxes of 'does': the thing done, the result, the answer, what was handed in; of colour 7 -/
structure Bx (col : Nat → Nat) (w : World) (g0 g1 g2 g3 : Nat) (o x y : List Value) : Prop where
  r0 : Row w g0 64 o
  r1 : Row w g1 61 told9
  r2 : Row w g2 61 x
  r3 : Row w g3 25 y
  c0 : col g0 = 7
  c1 : col g1 = 7
  c2 : col g2 = 7
  c3 : col g3 = 7
  n02 : g0 ≠ g2
  n12 : g1 ≠ g2
  n32 : g3 ≠ g2
variable {col col' : Nat → Nat} {w w' : World} {g0 g1 g2 g3 : Nat} {o x y z : List Value}
theorem Bx.st {Q : Nat → Prop} (h : Bx col w g0 g1 g2 g3 o x y) (k : St Q col w col' w') (h7 : ¬ Q 7) : Bx col' w' g0 g1 g2 g3 o x y :=
  ⟨h.r0.mods k.mods (by rw [h.c0]; exact h7), h.r1.mods k.mods (by rw [h.c1]; exact h7), h.r2.mods k.mods (by rw [h.c2]; exact h7), h.r3.mods k.mods (by rw [h.c3]; exact h7), (k.ext _ h.r0.lt).trans h.c0, (k.ext _ h.r1.lt).trans h.c1, (k.ext _ h.r2.lt).trans h.c2, (k.ext _ h.r3.lt).trans h.c3, h.n02, h.n12, h.n32⟩
theorem Bx.put (h : Bx col w g0 g1 g2 g3 o x y) (hg : w.grownBy w' (some g2)) (hr : Row w' g2 61 z) : Bx col w' g0 g1 g2 g3 o z y :=
  ⟨h.r0.grown hg (fun e => h.n02 (Option.some.inj e)), h.r1.grown hg (fun e => h.n12 (Option.some.inj e)), hr, h.r3.grown hg (fun e => h.n32 (Option.some.inj e)), h.c0, h.c1, h.c2, h.c3, h.n02, h.n12, h.n32⟩
theorem St.fresh1 {C : Nat → Prop} {col col1 : Nat → Nat} {w w1 w2 : World} {g : Nat} (h : St C col w col1 w1) (hg : w1.grownBy w2 (some g)) (hs : w.heap.size ≤ g) : St C col w col1 w2 :=
  ⟨h.mods.after (Mods.grown hg) (fun q e => by cases e; exact .inr hs), h.ext⟩
/-- what stands while 'does' goes to its end -/
structure Dn (m : Nat) (H' : List Th) (b : Nat) (col0 : Nat → Nat) (w0 : World) (g0 g1 g2 g3 : Nat) (oc : List Value) (t : Told) (v : Value) (ic : List Value) (vi : Value) (n : Nat) (col : Nat → Nat) (w : World) (l : List (UInt8 × Int)) : Prop where
  K : St HQ col0 w0 col w
  H : HpAt col w b m H'
  B : Bx col w g0 g1 g2 g3 oc (tCells t v) ic
  I : OwnC col w 9 2 vi n (wcells l)
  T : OwnC col w 8 2 v t.o.l.length (wcells t.o.l)
def DnR (m : Nat) (H' : List Th) (b : Nat) (col0 : Nat → Nat) (w0 : World) (g0 g1 g2 g3 : Nat) (oc : List Value) (t : Told) (v : Value) (ic : List Value) (vi : Value) (n : Nat) (col : Nat → Nat) (v11 : Value) (w : World) : Prop :=
  ∃ (i : Nat) (l : List (UInt8 × Int)), i ≤ n ∧ v11 = .int .i64 (i : Nat) ∧ Hid (Dn m H' b col0 w0 g0 g1 g2 g3 oc t v ic vi n col w l)
theorem DnR.mk {m : Nat} {H' : List Th} {b : Nat} {col0 : Nat → Nat} {w0 : World} {g0 g1 g2 g3 : Nat} {oc : List Value} {t : Told} {v : Value} {ic : List Value} {vi : Value} {n : Nat} {col : Nat → Nat} {v11 : Value} {w : World} (i : Nat) (l : List (UInt8 × Int)) (h1 : i ≤ n) (h2 : v11 = .int .i64 (i : Nat)) (h3 : Dn m H' b col0 w0 g0 g1 g2 g3 oc t v ic vi n col w l) : DnR m H' b col0 w0 g0 g1 g2 g3 oc t v ic vi n col v11 w := ⟨i, l, h1, h2, Lib.hid h3⟩
def GnR (m : Nat) (H' : List Th) (b : Nat) (col0 : Nat → Nat) (w0 : World) (g0 g1 g2 g3 : Nat) (oc : List Value) (t : Told) (v : Value) (ic : List Value) (vi : Value) (n : Nat) (col : Nat → Nat) (l0 : List (UInt8 × Int)) (gx : Nat) (vx : Value) (nx : Nat) (xc : List Value) (v9 : Value) (w : World) : Prop :=
  ∃ (i : Nat) (l : List (UInt8 × Int)), i ≤ nx ∧ v9 = .int .i64 (i : Nat) ∧ Hid (Dn m H' b col0 w0 g0 g1 g2 g3 oc t v ic vi n col w l0) ∧ Hid (OwnC col w 10 2 vx nx (wcells l)) ∧ Hid (Row w gx 25 xc ∧ col gx = 7)
theorem GnR.mk {m : Nat} {H' : List Th} {b : Nat} {col0 : Nat → Nat} {w0 : World} {g0 g1 g2 g3 : Nat} {oc : List Value} {t : Told} {v : Value} {ic : List Value} {vi : Value} {n : Nat} {col : Nat → Nat} {l0 : List (UInt8 × Int)} {gx : Nat} {vx : Value} {nx : Nat} {xc : List Value} {v9 : Value} {w : World} (i : Nat) (l : List (UInt8 × Int)) (h1 : i ≤ nx) (h2 : v9 = .int .i64 (i : Nat)) (h3 : Dn m H' b col0 w0 g0 g1 g2 g3 oc t v ic vi n col w l0) (h4 : OwnC col w 10 2 vx nx (wcells l)) (h5 : Row w gx 25 xc ∧ col gx = 7) : GnR m H' b col0 w0 g0 g1 g2 g3 oc t v ic vi n col l0 gx vx nx xc v9 w := ⟨i, l, h1, h2, Lib.hid h3, Lib.hid h4, Lib.hid h5⟩
theorem nq10 : ¬ HQ 10 := fun h => by rcases h with h | h <;> omega
theorem okindsZ (K : Int) : K = 0 ∨ K = 1 ∨ K = 2 ∨ K = 3 ∨ K = 4 ∨ K = 5 ∨ K = 6 ∨ K = 7 ∨ K = 8 ∨ K = 9 ∨ K = 10 ∨ (((K == 0) = false ∧ (K == 1) = false ∧ (K == 2) = false ∧ (K == 3) = false ∧ (K == 4) = false ∧ (K == 5) = false ∧ (K == 6) = false ∧ (K == 7) = false ∧ (K == 8) = false ∧ (K == 9) = false ∧ (K == 10) = false) ∧ (¬ K = 0 ∧ ¬ K = 1 ∧ ¬ K = 2 ∧ ¬ K = 3 ∧ ¬ K = 4 ∧ ¬ K = 5 ∧ ¬ K = 6 ∧ ¬ K = 7 ∧ ¬ K = 8 ∧ ¬ K = 9 ∧ ¬ K = 10)) := by
  simp only [beq_eq_false_iff_ne]
  omega
set_option maxHeartbeats 16000000 in
theorem does_p {col : Nat → Nat} {w : World} {b m : Nat} {H : List Th} (h : HpAt col w b m H) (hg : Good H m) (hm : m ≤ 16777216) (hlen9 : H.length ≤ 100000) (hwf : WfH H) (q : Opn) (oc : List Value) (a : Option Addr) (n c : Nat) (aR : Option Addr) (nR cR : Nat)
    (hq : OpIn w oc q a n c aR nR cR) (hsm : totO q ≤ 16384) : Calls Try.prog 31 #[.pointer (some ⟨b, 0, none⟩), .agg oc.toArray] w (DoesP m H q col w b) := by
  obtain ⟨cs2, hob⟩ := hq.ob
  have hn := hob.len
  have hn9 : n ≤ 16384 := by unfold totO at hsm; omega
  have hnR9 : nR ≤ 16384 := by have := hq.lenR; unfold totO at hsm; omega
  have hs9 : q.o.s.length ≤ 16384 := by unfold totO at hsm; omega
  have hoc := hq.cs
  obtain ⟨w3, hw3⟩ : ∃ x, x = ((w.alloc (.cells oc.toArray 64)).alloc (.cells told9.toArray 61)).alloc (.cells told9.toArray 61) := ⟨_, rfl⟩
  have hb3 : Below w.heap.size w w3 := by rw [hw3]; exact (((Below.refl _ _).alloc (Nat.le_refl _) _).alloc (by simp) _).alloc (by simp; omega) _
  have hr0 : Row w3 w.heap.size 64 oc := by rw [hw3]; exact ((Row.new w oc 64).alloc _).alloc _
  have hr1 : Row w3 (w.heap.size + 1) 61 told9 := by
    rw [hw3]
    have := Row.new (w.alloc (.cells oc.toArray 64)) told9 61
    rw [World.size_alloc] at this
    exact this.alloc _
  have hr2 : Row w3 (w.heap.size + 1 + 1) 61 told9 := by
    rw [hw3]
    have := Row.new ((w.alloc (.cells oc.toArray 64)).alloc (.cells told9.toArray 61)) told9 61
    rw [World.size_alloc, World.size_alloc] at this
    exact this
  have hs3 : w3.heap.size = w.heap.size + 3 := by rw [hw3]; simp
  have HQ0 := Lib.hid hq
  have HOB := Lib.hid hob
  have H0 := Lib.hid h
  have HG := Lib.hid hg
  have HWF := Lib.hid hwf
  have HB3 := Lib.hid hb3
  have HR := Lib.hid (And.intro hr0 (And.intro hr1 hr2))
  have HOC := Lib.hid hoc
  have p3 := hr0.cell 3
  have p4 := hr0.cell 4
  have p5 := hr0.cell 5
  have p6 := hr0.cell 6
  rw [hoc] at p3 p4 p5 p6
  simp only [List.getElem?_cons_zero, List.getElem?_cons_succ] at p3 p4 p5 p6
  unfold told9 at hw3
  rw [hoc] at hw3 ⊢
  have HSL := Lib.hid (hob.sl.below hb3)
  clear hq hob h hg hwf hb3 hr0 hr1 hr2 hoc
  go_enter Try.func31, Try.ntmps31
  go_upto_region 2 with fail
  rw [← hw3]
  clear hw3
  try go_frame
  go_wp2_with fail
  refine (copy_any q.o.k.toNat q.o.t a n c q.o.l q.o.s w3 HSL.out (by omega)).mono ?_
  rintro e w4 ⟨vi, rfl, ho4, hb4⟩
  obtain ⟨ai, ci, rfl⟩ := ho4.form
  have HO4 := Lib.hid ho4
  have HB4 := Lib.hid hb4
  obtain ⟨g3, hg3⟩ : ∃ x, x = w4.heap.size := ⟨_, rfl⟩
  clear ho4 hb4 p3 p4 p5 p6
  go_upto_region 3 with (refine wpL_storeRow rfl _ _ _ rfl (cs := [.int .u8 (q.o.k.toNat : Int), .int .i64 q.o.t, .slice ai n ci, .string (str q.o.s)]) rfl rfl (Row.new _ _ _) (by kernel_rfl) rfl rfl ?_; intro w6 hg6 hr6)
  have hb6 : Below w4.heap.size w4 w6 := below_grown ((Below.refl _ _).alloc (Nat.le_refl _) _) hg6 (Nat.le_refl _) (by simp)
  rw [← hg3] at hr6 ⊢
  obtain ⟨col6, hcol6⟩ : ∃ x, x = recol (recol (recol col w.heap.size 7) w3.heap.size 9) w4.heap.size 7 := ⟨_, rfl⟩
  have K6 : Hid (St HQ col w col6 w6) := Lib.hid (by rw [hcol6]; exact ((St.new HB3.out HQ col 7).trans (St.new HB4.out HQ _ 9)).trans (St.new hb6 HQ _ 7))
  have H6 : Hid (HpAt col6 w6 b m H) := Lib.hid (by
    rw [hcol6]
    exact ((H0.out.st (St.new HB3.out (fun _ => False) col 7) hq_false).st (St.new HB4.out (fun _ => False) _ 9) hq_false).st (St.new hb6 (fun _ => False) _ 7) hq_false)
  have I6 : Hid (OwnC col6 w6 9 2 (.slice ai n ci) n (wcells q.o.l)) := Lib.hid (by
    rw [hcol6]
    exact (OwnC.new (col := recol col w.heap.size 7) HO4.out).st (St.new hb6 (fun _ => False) _ 7) (fun h => h))
  have HS4 : Hid (w.heap.size + 3 ≤ w4.heap.size) := Lib.hid (by have := HB4.out.size; omega)
  obtain ⟨ic, hic⟩ : ∃ x, x = [Value.int .u8 (q.o.k.toNat : Int), .int .i64 q.o.t, .slice ai n ci, .string (str q.o.s)] := ⟨_, rfl⟩
  rw [← hic] at hr6
  have B6 : Hid (Bx col6 w6 w.heap.size (w.heap.size + 1) (w.heap.size + 1 + 1) g3 oc told9 ic) := Lib.hid (by
    have e0 : ∀ g, g < w3.heap.size → w.heap.size ≤ g → col6 g = 7 := fun g h1 h2 => by
      rw [hcol6, recol_lt (by have := HS4.out; omega), recol_lt h1, recol_ge h2]
    have hb46 := HB4.out.trans (hb6.mono HB4.out.size)
    exact ⟨HR.out.1.after hb46, HR.out.2.1.after hb46, HR.out.2.2.after hb46, hr6, e0 _ (by omega) (Nat.le_refl _), e0 _ (by omega) (Nat.le_succ _), e0 _ (by omega) (by omega), by rw [hcol6]; exact recol_ge (by omega), by omega, by omega, by have := HS4.out; omega⟩)
  have HGI0 : Hid (∀ x, (Value.slice ai n ci).ownBlock = some x → w.heap.size ≤ x) := Lib.hid (fun x hx => by have := HO4.out.lt x hx; omega)
  have HIC := Lib.hid hic
  have HBW : Hid (Below w.heap.size w w6) := Lib.hid (HB3.out.trans ((HB4.out.trans (hb6.mono HB4.out.size)).mono HB3.out.size))
  clear hg6 hr6 hb6 hcol6 hg3 HR HB3 HB4 HO4 HSL HS4 H0 hic hs3
  have p0 : w6.cell? ⟨w.heap.size, 0, none⟩ = some (.int .i64 q.K) := by have := B6.out.r0.cell 0; rw [HOC.out] at this; exact this
  rcases okindsZ q.K with hK | hK | hK | hK | hK | hK | hK | hK | hK | hK | hK | ⟨⟨k0, k1, k2, k3, k4, k5, k6, k7, k8, k9, k10⟩, hKK⟩
  · rw [hK] at p0
    obtain ⟨H', hH'⟩ : ∃ x, x = doH m H q := ⟨_, rfl⟩
    have HH' := Lib.hid hH'
    have hHH : H' = allocH H m q.o := by rw [hH', doH]; simp [hK]
    have HTT : Hid (({ told0 with n := allocN H m q.o, e := allocE H m q.o } : Told) = tell m H q) := Lib.hid (by rw [tell]; simp [hK])
    clear hH' hK
    have p1 : w6.cell? ⟨w.heap.size, 1, none⟩ = some (.int .i64 q.k) := by have := B6.out.r0.cell 1; rw [HOC.out] at this; exact this
    have p2 : w6.cell? ⟨w.heap.size, 2, none⟩ = some (.int .i64 q.i) := by have := B6.out.r0.cell 2; rw [HOC.out] at this; exact this
    have p7 : w6.cell? ⟨w.heap.size, 7, none⟩ = some (.int .u8 (q.x.1.toNat : Int)) := by have := B6.out.r0.cell 7; rw [HOC.out] at this; exact this
    have p8 : w6.cell? ⟨w.heap.size, 8, none⟩ = some (.int .i64 q.x.2) := by have := B6.out.r0.cell 8; rw [HOC.out] at this; exact this
    have p9 : w6.cell? ⟨w.heap.size, 9, none⟩ = some (.slice aR nR cR) := by have := B6.out.r0.cell 9; rw [HOC.out] at this; exact this
    have i0 : w6.cell? ⟨g3, 0, none⟩ = some (.int .u8 (q.o.k.toNat : Int)) := by have := B6.out.r3.cell 0; rw [HIC.out] at this; exact this
    have i1 : w6.cell? ⟨g3, 1, none⟩ = some (.int .i64 q.o.t) := by have := B6.out.r3.cell 1; rw [HIC.out] at this; exact this
    have i2 : w6.cell? ⟨g3, 2, none⟩ = some (.slice ai n ci) := by have := B6.out.r3.cell 2; rw [HIC.out] at this; exact this
    have i3 : w6.cell? ⟨g3, 3, none⟩ = some (.string (str q.o.s)) := by have := B6.out.r3.cell 3; rw [HIC.out] at this; exact this
    obtain ⟨bm, bt, ks, at_, ts, tf, hin⟩ := H6.out
    have HIN := Lib.hid hin
    clear hin
    go_wp2_with fail
    refine (alloc_p HIN.out HG.out hm (by omega) q.o ai n ci hn (by omega) (by omega) I6.out.1.sl HOB.out.wt).mono ?_
    rintro e w7 ⟨N, E, rfl, HA⟩
    obtain ⟨hN, hE, col7, k7, h7⟩ := HA.out
    rw [← hN, ← hE] at HTT
    rw [← hHH] at h7
    clear HA hN hE hHH
    clear p1 p2 p7 p8 p9 i0 i1 i2 i3
    have K7 := Lib.hid (K6.out.trans k7)
    have H7 : Hid (HpAt col7 w7 b m H') := Lib.hid h7
    have B7 := Lib.hid (B6.out.st k7 nq7)
    have I7 := Lib.hid (I6.out.st k7 nq9)
    clear k7 h7 K6 H6 B6 I6 p0
    have hr2 := B7.out.r2
    go_wp2_with (first | (refine wpL_storeAt rfl _ _ _ rfl (v := (.int .i64 N)) rfl rfl rfl rfl (by kernel_rfl) hr2 rfl ?_; intro w71 hg71 hr71) | (refine wpL_storeAt rfl _ _ _ rfl (v := (.int .i64 E)) rfl rfl rfl rfl (by kernel_rfl) hr71 rfl ?_; intro w8 hg8 hr8))
    have hg18 : w7.grownBy w8 (some (w.heap.size + 1 + 1)) := ⟨hg8.os.trans hg71.os, hg8.tape.trans hg71.tape, hg8.output.trans hg71.output, Nat.le_trans hg71.size hg8.size, fun i hi hn => (hg8.block i (Nat.lt_of_lt_of_le hi hg71.size) hn).trans (hg71.block i hi hn)⟩
    have hD : Dn m H' b col w w.heap.size (w.heap.size + 1) (w.heap.size + 1 + 1) g3 oc ({ told0 with n := N, e := E } : Told) (.slice none 0 0) ic (.slice ai n ci) n col7 w8 q.o.l := by
      have k8 : St (fun y => y = 7) col7 w7 col7 w8 := St.one hg18 _ _ B7.out.c2
      exact ⟨K7.out.fresh1 hg18 (by omega), H7.out.st k8 (hq_ne nq7), B7.out.put hg18 hr8, I7.out.st k8 (by decide), OwnC.nil _ _ _ _⟩
    have HD := Lib.hid hD
    obtain ⟨t, ht⟩ : ∃ t, t = ({ told0 with n := N, e := E } : Told) := ⟨_, rfl⟩
    obtain ⟨v, hv⟩ : ∃ v, v = Value.slice none 0 0 := ⟨_, rfl⟩
    obtain ⟨colx, hcx⟩ : ∃ x, x = col7 := ⟨_, rfl⟩
    rw [← ht, ← hv, ← hcx] at HD
    have HON : Hid ((tCells t v).all (·.oneCell') = true) := Lib.hid (by rw [ht, hv]; rfl)
    have HT : Hid (t = tell m H q) := Lib.hid (ht.trans HTT.out)
    clear hD ht hv hcx K7 H7 B7 I7
    clear hg8 hr8 hr2 hg71 hr71 hg18
    have DN := Lib.hid HD.out
    go_loopw [11] (fun v11 wr => DnR m H' b col w w.heap.size (w.heap.size + 1) (w.heap.size + 1 + 1) g3 oc t v ic (.slice ai n ci) n colx v11 wr) (fun v11 _ => n - (intOf v11).toNat)
    case atStart => exact DnR.mk 0 _ (Nat.zero_le _) rfl DN.out
    case round =>
      clear DN
      obtain ⟨i, l, hi, rfl, DN⟩ := hrel
      have p2 : wr.cell? ⟨g3, 2, none⟩ = some (.slice ai n ci) := by have := DN.out.B.r3.cell 2; rw [HIC.out] at this; exact this
      by_cases hin : i = n
      · subst hin
        have hr2 := DN.out.B.r2
        have hr1 := DN.out.B.r1
        go_wp2_with (first | refine wpL_loadRow rfl _ _ rfl rfl hr2 Try.underlying61 rfl (by kernel_rfl) ?_ | (refine wpL_storeRow rfl _ _ _ rfl (cs := tCells t v) rfl rfl hr1 (by kernel_rfl) rfl HON.out ?_; intro w9 hg9 hr9))
        (try simp only [Exit.inBlock, Exit.then])
        refine bodyPost_ret (results_cell_row Try.results31 _ _ (w.heap.size + 1) 61 _ (0, 0) _ rfl hr9 Try.underlying61 rfl (by kernel_rfl)) rfl ?_
        have k9 : St (fun y => y = 7) colx wr colx w9 := St.one hg9 _ _ DN.out.B.c1
        exact ⟨t, v, rfl, Lib.hid ⟨HT.out, colx, by rw [← HH'.out]; exact ⟨DN.out.K.fresh1 hg9 (Nat.le_succ _), DN.out.H.st k9 (hq_ne nq7), DN.out.T.st k9 (by decide)⟩⟩⟩
      have hlt : i < n := by omega
      have hlt' : (i : Int) < n := by omega
      have ho0 := DN.out.I.1
      obtain ⟨gi, oi, capi, he, _, _, _, _, hlen⟩ := ho0.open (by omega) (by decide)
      cases he
      have q0 := later_cell p2
      have HOL : Hid (l.length = n) := Lib.hid (by rw [wcells_len] at hlen; omega)
      have HGI : Hid (colx gi = 9 ∧ w.heap.size ≤ gi) := Lib.hid ⟨DN.out.I.2 gi rfl, HGI0.out gi rfl⟩
      clear ho0 hlen
      go_upto_region 37 with fail
      clear p2
      try go_frame
      refine wp_region_idx Rb Rb_refl Rb_trans [(0,0),(0,1),(0,2),(1,3),(0,4),(2,5)] (by kernel_rfl) (by kernel_rfl) (by kernel_rfl) ?_
      simp only [pickO, List.getD_cons_succ, List.getD_cons_zero]
      refine wpCan_seg 3 (by kernel_rfl) ?_
      simp only [List.take_succ_cons, List.take_zero, List.drop_succ_cons, List.drop_zero, List.map_cons, List.map_nil]
      iterate 3 (go_big_quiet_step (fail))
      refine wpQuiet_nil ?_
      clear q0
      refine wpCan_list (k := 0) (fun KK hK => ?_) (fun _ => Rb_refl _)
      go_wp2_with fail
      refine (number_any 77 wr.drew).mono ?_
      rintro e w8 ⟨rfl, hb8⟩
      go_wp2_with fail
      refine hK _ _ (fun _ => hb8) ?_
      clear hK KK
      have hb8' : Below wr.heap.size wr w8 := (Below.refl wr.heap.size wr).drew.trans hb8
      have k8 := St.fresh hb8' (fun _ => False) colx
      have D8 : Hid (Dn m H' b col w w.heap.size (w.heap.size + 1) (w.heap.size + 1 + 1) g3 oc t v ic (.slice (some ⟨gi, oi, none⟩) n ci) n colx w8 l) := Lib.hid ⟨DN.out.K.trans (k8.mono (fun _ h => h.elim)), DN.out.H.st k8 hq_false, DN.out.B.st k8 (fun h => h), DN.out.I.st k8 (fun h => h), DN.out.T.st k8 (fun h => h)⟩
      have ho8 := D8.out.I.1
      have hlen8 : i * 2 + 2 ≤ (wcells l).length := by rw [wcells_len, HOL.out]; omega
      clear hb8 hb8' k8 DN
      refine wpCan_seg 1 (by kernel_rfl) ?_
      simp only [List.take_succ_cons, List.take_zero, List.drop_succ_cons, List.drop_zero, List.map_cons, List.map_nil]
      iterate 1 (go_big_quiet_step (fail))
      refine wpQuiet_nil ?_
      refine wpCan_list (k := 1) (fun KK hK => ?_) (fun h => by cases h)
      refine wpL_storeOwnS rfl _ _ _ rfl (cs := [.int .u8 1, .int .i64 77]) rfl rfl ?_ (by kernel_rfl) ho8 (i * 2) rfl hlen8 ?_
      · intro u hu
        simp only [List.mem_cons, List.not_mem_nil, or_false] at hu
        rcases hu with rfl | rfl <;> rfl
      intro w10 hg10 ho10
      refine hK _ _ (fun h => by cases h) ?_
      clear hK KK ho8 hlen8
      unfold wpCan
      have k10 : St (fun y => y = 9) colx w8 colx w10 := St.one hg10 _ _ HGI.out.1
      have D10 := Lib.hid (DnR.mk (v11 := .int .i64 ((i + 1 : Nat) : Int)) (i + 1) (l.set i (1, 77)) hlt rfl (⟨D8.out.K.fresh1 hg10 HGI.out.2, D8.out.H.st k10 (hq_ne nq9), D8.out.B.st k10 (by decide), ⟨by rw [← wcells_set l i (1, 77) (by rw [HOL.out]; exact hlt)]; exact ho10, D8.out.I.2⟩, D8.out.T.st k10 (by decide)⟩ : Dn m H' b col w w.heap.size (w.heap.size + 1) (w.heap.size + 1 + 1) g3 oc t v ic (.slice (some ⟨gi, oi, none⟩) n ci) n colx w10 (l.set i (1, 77))))
      clear hg10 ho10 k10 D8
      go_wp2_with fail
      have e1 : ((i : Int) + 1) = ((i + 1 : Nat) : Int) := by omega
      refine ⟨by rw [e1]; exact D10.out, by simp [intOf]; omega⟩
  · rw [hK] at p0
    obtain ⟨H', hH'⟩ : ∃ x, x = doH m H q := ⟨_, rfl⟩
    have HH' := Lib.hid hH'
    have hHH : H' = H := by rw [hH', doH]; simp [hK]
    have HTT : Hid (({ told0 with o := (thAt H q.k).o, is := (thAt H q.k).is } : Told) = tell m H q) := Lib.hid (by rw [tell]; simp [hK])
    clear hH' hK
    have p1 : w6.cell? ⟨w.heap.size, 1, none⟩ = some (.int .i64 q.k) := by have := B6.out.r0.cell 1; rw [HOC.out] at this; exact this
    have p2 : w6.cell? ⟨w.heap.size, 2, none⟩ = some (.int .i64 q.i) := by have := B6.out.r0.cell 2; rw [HOC.out] at this; exact this
    have p7 : w6.cell? ⟨w.heap.size, 7, none⟩ = some (.int .u8 (q.x.1.toNat : Int)) := by have := B6.out.r0.cell 7; rw [HOC.out] at this; exact this
    have p8 : w6.cell? ⟨w.heap.size, 8, none⟩ = some (.int .i64 q.x.2) := by have := B6.out.r0.cell 8; rw [HOC.out] at this; exact this
    have p9 : w6.cell? ⟨w.heap.size, 9, none⟩ = some (.slice aR nR cR) := by have := B6.out.r0.cell 9; rw [HOC.out] at this; exact this
    have i0 : w6.cell? ⟨g3, 0, none⟩ = some (.int .u8 (q.o.k.toNat : Int)) := by have := B6.out.r3.cell 0; rw [HIC.out] at this; exact this
    have i1 : w6.cell? ⟨g3, 1, none⟩ = some (.int .i64 q.o.t) := by have := B6.out.r3.cell 1; rw [HIC.out] at this; exact this
    have i2 : w6.cell? ⟨g3, 2, none⟩ = some (.slice ai n ci) := by have := B6.out.r3.cell 2; rw [HIC.out] at this; exact this
    have i3 : w6.cell? ⟨g3, 3, none⟩ = some (.string (str q.o.s)) := by have := B6.out.r3.cell 3; rw [HIC.out] at this; exact this
    obtain ⟨bm, bt, ks, at_, ts, tf, hin⟩ := H6.out
    have HIN := Lib.hid hin
    clear hin
    obtain ⟨ox, hox⟩ : ∃ y, y = (thAt H q.k).o := ⟨_, rfl⟩
    obtain ⟨B, hB⟩ : ∃ y, y = (thAt H q.k).is := ⟨_, rfl⟩
    obtain ⟨nx, hnx⟩ : ∃ y, y = ox.l.length := ⟨_, rfl⟩
    rw [← hox, ← hB] at HTT
    have hnx9 : nx ≤ 16777216 := by
      cases hb : (thAt H q.k).is with
      | false =>
        rw [hnx, hox, HG.out.non q.k hb]
        exact Nat.zero_le _
      | true =>
        have h1 := sizeO_words (HG.out.may q.k hb)
        have h2 := sz_le (H := H) q.k
        rw [show sz (thAt H q.k) = sizeO (thAt H q.k).o from if_pos hb] at h2
        have h3 := HG.out.room
        rw [hnx, hox]
        omega
    have hsx9 : ox.s.length ≤ 134217728 := by
      cases hb : (thAt H q.k).is with
      | false =>
        rw [hox, HG.out.non q.k hb]
        exact Nat.zero_le _
      | true =>
        have h1 := sizeO_text (HG.out.may q.k hb)
        have h2 := sz_le (H := H) q.k
        rw [show sz (thAt H q.k) = sizeO (thAt H q.k).o from if_pos hb] at h2
        have h3 := HG.out.room
        rw [hox]
        omega
    have HOX := Lib.hid hox
    have HBB := Lib.hid hB
    have HNX := Lib.hid hnx
    clear hox hB hnx
    go_wp2_with fail
    refine (get_p HIN.out HG.out hm q.k HQ0.out.wk ox HOX B HBB nx HNX).mono ?_
    rintro e w7 ⟨vx, rfl, ho7, hb7⟩
    obtain ⟨ax, cx, rfl⟩ := ho7.form
    clear p1 p2 p7 p8 p9 i0 i1 i2 i3 p0
    have HO7 := Lib.hid ho7
    have HB7 := Lib.hid hb7
    obtain ⟨gx, hgx⟩ : ∃ x, x = w7.heap.size := ⟨_, rfl⟩
    clear ho7 hb7
    go_upto_region 8 with (refine wpL_storeRow rfl _ _ _ rfl (cs := [.int .u8 (ox.k.toNat : Int), .int .i64 ox.t, .slice ax nx cx, .string (str ox.s)]) rfl rfl (Row.new _ _ _) (by kernel_rfl) rfl rfl ?_; intro w8 hg8 hr8)
    have hb8 : Below w7.heap.size w7 w8 := below_grown ((Below.refl _ _).alloc (Nat.le_refl _) _) hg8 (Nat.le_refl _) (by simp)
    rw [← hgx] at hr8 ⊢
    have d0 : w8.cell? ⟨gx, 0, none⟩ = some (.int .u8 (ox.k.toNat : Int)) := hr8.cell 0
    have d1 : w8.cell? ⟨gx, 1, none⟩ = some (.int .i64 ox.t) := hr8.cell 1
    have d2 : w8.cell? ⟨gx, 2, none⟩ = some (.slice ax nx cx) := hr8.cell 2
    have d3 : w8.cell? ⟨gx, 3, none⟩ = some (.string (str ox.s)) := hr8.cell 3
    have HR8 := Lib.hid hr8
    have HB8 := Lib.hid hb8
    have HGX := Lib.hid hgx
    clear hg8 hr8 hb8 hgx
    go_wp2_with fail
    refine (copyB_any ox.k.toNat ox.t ax nx cx ox.l ox.s w8 (HO7.out.below HB8.out).sl (by omega)).mono ?_
    rintro e w9 ⟨vt, rfl, ho9, hb9⟩
    obtain ⟨at9, ct, rfl⟩ := ho9.form
    obtain ⟨col9, hcol9⟩ : ∃ x, x = recol (recol (recol col6 w6.heap.size 10) w7.heap.size 7) w8.heap.size 8 := ⟨_, rfl⟩
    have kk : St (fun _ => False) col6 w6 col9 w9 := by rw [hcol9]; exact ((St.new HB7.out _ col6 10).trans (St.new HB8.out _ _ 7)).trans (St.new hb9 _ _ 8)
    have K9 : Hid (St HQ col w col9 w9) := Lib.hid (K6.out.trans (kk.mono (fun _ h => h.elim)))
    have H9 : Hid (HpAt col9 w9 b m H') := Lib.hid (by rw [hHH]; exact H6.out.st kk hq_false)
    have B9 := Lib.hid (B6.out.st kk (fun h => h))
    have I9 := Lib.hid (I6.out.st kk (fun h => h))
    have T9 : Hid (OwnC col9 w9 8 2 (.slice at9 nx ct) nx (wcells ox.l)) := Lib.hid (by rw [hcol9]; exact OwnC.new ho9)
    have X9 : Hid (OwnC col9 w9 10 2 (.slice ax nx cx) nx (wcells ox.l)) := Lib.hid (by
      rw [hcol9]
      exact ((OwnC.new (col := col6) HO7.out).st (St.new HB8.out (fun _ => False) _ 7) (fun h => h)).st (St.new hb9 (fun _ => False) _ 8) (fun h => h))
    have R9 : Hid (Row w9 gx 25 [.int .u8 (ox.k.toNat : Int), .int .i64 ox.t, .slice ax nx cx, .string (str ox.s)] ∧ col9 gx = 7) := Lib.hid ⟨HR8.out.after hb9, by rw [hcol9, recol_lt HR8.out.lt, HGX.out]; exact recol_ge (Nat.le_refl _)⟩
    have hgx2 : w.heap.size + 1 + 1 ≠ gx := by have := B6.out.r2.lt; have := HB7.out.size; have := HGX.out; omega
    have HXW : Hid (∀ x, (Value.slice ax nx cx).ownBlock = some x → w.heap.size ≤ x) := Lib.hid (fun x hx => by have := HO7.out.lt x hx; have := HBW.out.size; omega)
    have hr2 := B9.out.r2
    clear d0 d1 d2 d3 ho9 hb9 kk hcol9 HGX HR8 HB8 HB7 HO7 K6 H6 B6 I6
    go_upto_region 10 with (first | (refine wpL_storePart rfl _ _ _ rfl (cs := [.int .u8 (ox.k.toNat : Int), .int .i64 ox.t, .slice at9 nx ct, .string (str ox.s)]) rfl rfl ?_ (by kernel_rfl) hr2 (by simp [told9]) ?_; (intro u hu; simp only [List.mem_cons, List.not_mem_nil, or_false] at hu; rcases hu with rfl | rfl | rfl | rfl <;> rfl); intro w10 hg10 hr10) | (refine wpL_storeAt rfl _ _ _ rfl (v := .bool B) rfl rfl rfl rfl (by kernel_rfl) hr10 rfl ?_; intro w11 hg11 hr11))
    have hg12 : w9.grownBy w11 (some (w.heap.size + 1 + 1)) := ⟨hg11.os.trans hg10.os, hg11.tape.trans hg10.tape, hg11.output.trans hg10.output, Nat.le_trans hg10.size hg11.size, fun i hi hn => (hg11.block i (Nat.lt_of_lt_of_le hi hg10.size) hn).trans (hg10.block i hi hn)⟩
    have k11 : St (fun y => y = 7) col9 w9 col9 w11 := St.one hg12 _ _ B9.out.c2
    obtain ⟨t, ht⟩ : ∃ t, t = ({ told0 with o := ox, is := B } : Told) := ⟨_, rfl⟩
    obtain ⟨v, hv⟩ : ∃ v, v = Value.slice at9 nx ct := ⟨_, rfl⟩
    have D11 : Hid (Dn m H' b col w w.heap.size (w.heap.size + 1) (w.heap.size + 1 + 1) g3 oc t v ic (.slice ai n ci) n col9 w11 q.o.l) := Lib.hid (by
      rw [ht, hv]
      refine ⟨K9.out.fresh1 hg12 (by omega), H9.out.st k11 (hq_ne nq7), B9.out.put hg12 hr11, I9.out.st k11 (by decide), ?_⟩
      show OwnC col9 w11 8 2 _ ox.l.length _
      rw [← HNX.out]
      exact T9.out.st k11 (by decide))
    have X11 : Hid (OwnC col9 w11 10 2 (.slice ax nx cx) nx (wcells ox.l)) := Lib.hid (X9.out.st k11 (by decide))
    have R11 : Hid (Row w11 gx 25 [.int .u8 (ox.k.toNat : Int), .int .i64 ox.t, .slice ax nx cx, .string (str ox.s)] ∧ col9 gx = 7) := Lib.hid ⟨R9.out.1.grown hg12 (fun e => hgx2 (Option.some.inj e).symm), R9.out.2⟩
    have HON : Hid ((tCells t v).all (·.oneCell') = true) := Lib.hid (by rw [ht, hv]; rfl)
    have HT : Hid (t = tell m H q) := Lib.hid (ht.trans HTT.out)
    clear ht hv hg10 hr10 hg11 hr11 hg12 k11 hr2 K9 H9 B9 I9 T9 X9 R9
    try go_frame
    go_wp2_with fail
    go_loopw [9] (fun v9 wr => GnR m H' b col w w.heap.size (w.heap.size + 1) (w.heap.size + 1 + 1) g3 oc t v ic (.slice ai n ci) n col9 q.o.l gx (.slice ax nx cx) nx [.int .u8 (ox.k.toNat : Int), .int .i64 ox.t, .slice ax nx cx, .string (str ox.s)] v9 wr) (fun v9 _ => nx - (intOf v9).toNat)
    case atStart => exact GnR.mk 0 _ (Nat.zero_le _) rfl D11.out X11.out R11.out
    case round =>
      clear D11 X11 R11
      obtain ⟨i, l, hi, rfl, DN, XN, RN⟩ := hrel
      have p2 : wr.cell? ⟨gx, 2, none⟩ = some (.slice ax nx cx) := RN.out.1.cell 2
      by_cases hin : i = nx
      · subst hin
        obtain ⟨colx, hcx⟩ : ∃ x, x = col9 := ⟨_, rfl⟩
        rw [← hcx] at DN
        have D9 := DN
        clear hcx DN XN RN
        go_wp2_with fail
        clear p2
        have DN := Lib.hid D9.out
        go_loopw [11] (fun v11 wr => DnR m H' b col w w.heap.size (w.heap.size + 1) (w.heap.size + 1 + 1) g3 oc t v ic (.slice ai n ci) n colx v11 wr) (fun v11 _ => n - (intOf v11).toNat)
        case atStart => exact DnR.mk 0 _ (Nat.zero_le _) rfl DN.out
        case round =>
          clear DN
          obtain ⟨i, l, hi, rfl, DN⟩ := hrel
          have p2 : wr.cell? ⟨g3, 2, none⟩ = some (.slice ai n ci) := by have := DN.out.B.r3.cell 2; rw [HIC.out] at this; exact this
          by_cases hin : i = n
          · subst hin
            have hr2 := DN.out.B.r2
            have hr1 := DN.out.B.r1
            go_wp2_with (first | refine wpL_loadRow rfl _ _ rfl rfl hr2 Try.underlying61 rfl (by kernel_rfl) ?_ | (refine wpL_storeRow rfl _ _ _ rfl (cs := tCells t v) rfl rfl hr1 (by kernel_rfl) rfl HON.out ?_; intro w9 hg9 hr9))
            (try simp only [Exit.inBlock, Exit.then])
            refine bodyPost_ret (results_cell_row Try.results31 _ _ (w.heap.size + 1) 61 _ (0, 0) _ rfl hr9 Try.underlying61 rfl (by kernel_rfl)) rfl ?_
            have k9 : St (fun y => y = 7) colx wr colx w9 := St.one hg9 _ _ DN.out.B.c1
            exact ⟨t, v, rfl, Lib.hid ⟨HT.out, colx, by rw [← HH'.out]; exact ⟨DN.out.K.fresh1 hg9 (Nat.le_succ _), DN.out.H.st k9 (hq_ne nq7), DN.out.T.st k9 (by decide)⟩⟩⟩
          have hlt : i < n := by omega
          have hlt' : (i : Int) < n := by omega
          have ho0 := DN.out.I.1
          obtain ⟨gi, oi, capi, he, _, _, _, _, hlen⟩ := ho0.open (by omega) (by decide)
          cases he
          have q0 := later_cell p2
          have HOL : Hid (l.length = n) := Lib.hid (by rw [wcells_len] at hlen; omega)
          have HGI : Hid (colx gi = 9 ∧ w.heap.size ≤ gi) := Lib.hid ⟨DN.out.I.2 gi rfl, HGI0.out gi rfl⟩
          clear ho0 hlen
          go_upto_region 37 with fail
          clear p2
          try go_frame
          refine wp_region_idx Rb Rb_refl Rb_trans [(0,0),(0,1),(0,2),(1,3),(0,4),(2,5)] (by kernel_rfl) (by kernel_rfl) (by kernel_rfl) ?_
          simp only [pickO, List.getD_cons_succ, List.getD_cons_zero]
          refine wpCan_seg 3 (by kernel_rfl) ?_
          simp only [List.take_succ_cons, List.take_zero, List.drop_succ_cons, List.drop_zero, List.map_cons, List.map_nil]
          iterate 3 (go_big_quiet_step (fail))
          refine wpQuiet_nil ?_
          clear q0
          refine wpCan_list (k := 0) (fun KK hK => ?_) (fun _ => Rb_refl _)
          go_wp2_with fail
          refine (number_any 77 wr.drew).mono ?_
          rintro e w8 ⟨rfl, hb8⟩
          go_wp2_with fail
          refine hK _ _ (fun _ => hb8) ?_
          clear hK KK
          have hb8' : Below wr.heap.size wr w8 := (Below.refl wr.heap.size wr).drew.trans hb8
          have k8 := St.fresh hb8' (fun _ => False) colx
          have D8 : Hid (Dn m H' b col w w.heap.size (w.heap.size + 1) (w.heap.size + 1 + 1) g3 oc t v ic (.slice (some ⟨gi, oi, none⟩) n ci) n colx w8 l) := Lib.hid ⟨DN.out.K.trans (k8.mono (fun _ h => h.elim)), DN.out.H.st k8 hq_false, DN.out.B.st k8 (fun h => h), DN.out.I.st k8 (fun h => h), DN.out.T.st k8 (fun h => h)⟩
          have ho8 := D8.out.I.1
          have hlen8 : i * 2 + 2 ≤ (wcells l).length := by rw [wcells_len, HOL.out]; omega
          clear hb8 hb8' k8 DN
          refine wpCan_seg 1 (by kernel_rfl) ?_
          simp only [List.take_succ_cons, List.take_zero, List.drop_succ_cons, List.drop_zero, List.map_cons, List.map_nil]
          iterate 1 (go_big_quiet_step (fail))
          refine wpQuiet_nil ?_
          refine wpCan_list (k := 1) (fun KK hK => ?_) (fun h => by cases h)
          refine wpL_storeOwnS rfl _ _ _ rfl (cs := [.int .u8 1, .int .i64 77]) rfl rfl ?_ (by kernel_rfl) ho8 (i * 2) rfl hlen8 ?_
          · intro u hu
            simp only [List.mem_cons, List.not_mem_nil, or_false] at hu
            rcases hu with rfl | rfl <;> rfl
          intro w10 hg10 ho10
          refine hK _ _ (fun h => by cases h) ?_
          clear hK KK ho8 hlen8
          unfold wpCan
          have k10 : St (fun y => y = 9) colx w8 colx w10 := St.one hg10 _ _ HGI.out.1
          have D10 := Lib.hid (DnR.mk (v11 := .int .i64 ((i + 1 : Nat) : Int)) (i + 1) (l.set i (1, 77)) hlt rfl (⟨D8.out.K.fresh1 hg10 HGI.out.2, D8.out.H.st k10 (hq_ne nq9), D8.out.B.st k10 (by decide), ⟨by rw [← wcells_set l i (1, 77) (by rw [HOL.out]; exact hlt)]; exact ho10, D8.out.I.2⟩, D8.out.T.st k10 (by decide)⟩ : Dn m H' b col w w.heap.size (w.heap.size + 1) (w.heap.size + 1 + 1) g3 oc t v ic (.slice (some ⟨gi, oi, none⟩) n ci) n colx w10 (l.set i (1, 77))))
          clear hg10 ho10 k10 D8
          go_wp2_with fail
          have e1 : ((i : Int) + 1) = ((i + 1 : Nat) : Int) := by omega
          refine ⟨by rw [e1]; exact D10.out, by simp [intOf]; omega⟩
      have hlt : i < nx := by omega
      have hlt' : (i : Int) < nx := by omega
      have ho0 := XN.out.1
      obtain ⟨gi, oi, capi, he, _, _, _, _, hlen⟩ := ho0.open (by omega) (by decide)
      cases he
      have q0 := later_cell p2
      have HOL : Hid (l.length = nx) := Lib.hid (by rw [wcells_len] at hlen; omega)
      have HGI : Hid (col9 gi = 10 ∧ w.heap.size ≤ gi) := Lib.hid ⟨XN.out.2 gi rfl, HXW.out gi rfl⟩
      clear ho0 hlen
      go_upto_region 13 with fail
      clear p2
      try go_frame
      refine wp_region_idx Rb Rb_refl Rb_trans [(0,0),(0,1),(0,2),(1,3),(0,4),(2,5)] (by kernel_rfl) (by kernel_rfl) (by kernel_rfl) ?_
      simp only [pickO, List.getD_cons_succ, List.getD_cons_zero]
      refine wpCan_seg 3 (by kernel_rfl) ?_
      simp only [List.take_succ_cons, List.take_zero, List.drop_succ_cons, List.drop_zero, List.map_cons, List.map_nil]
      iterate 3 (go_big_quiet_step (fail))
      refine wpQuiet_nil ?_
      clear q0
      refine wpCan_list (k := 0) (fun KK hK => ?_) (fun _ => Rb_refl _)
      go_wp2_with fail
      refine (number_any 99 wr.drew).mono ?_
      rintro e w8 ⟨rfl, hb8⟩
      go_wp2_with fail
      refine hK _ _ (fun _ => hb8) ?_
      clear hK KK
      have hb8' : Below wr.heap.size wr w8 := (Below.refl wr.heap.size wr).drew.trans hb8
      have k8 := St.fresh hb8' (fun _ => False) col9
      have D8 : Hid (Dn m H' b col w w.heap.size (w.heap.size + 1) (w.heap.size + 1 + 1) g3 oc t v ic (.slice ai n ci) n col9 w8 q.o.l) := Lib.hid ⟨DN.out.K.trans (k8.mono (fun _ h => h.elim)), DN.out.H.st k8 hq_false, DN.out.B.st k8 (fun h => h), DN.out.I.st k8 (fun h => h), DN.out.T.st k8 (fun h => h)⟩
      have X8 := Lib.hid (XN.out.st k8 (fun h => h))
      have R8 := Lib.hid (RN.out.1.after hb8')
      have HRC := Lib.hid RN.out.2
      have ho8 := X8.out.1
      have hlen8 : i * 2 + 2 ≤ (wcells l).length := by rw [wcells_len, HOL.out]; omega
      clear hb8 hb8' k8 DN XN RN
      refine wpCan_seg 1 (by kernel_rfl) ?_
      simp only [List.take_succ_cons, List.take_zero, List.drop_succ_cons, List.drop_zero, List.map_cons, List.map_nil]
      iterate 1 (go_big_quiet_step (fail))
      refine wpQuiet_nil ?_
      refine wpCan_list (k := 1) (fun KK hK => ?_) (fun h => by cases h)
      refine wpL_storeOwnS rfl _ _ _ rfl (cs := [.int .u8 1, .int .i64 99]) rfl rfl ?_ (by kernel_rfl) ho8 (i * 2) rfl hlen8 ?_
      · intro u hu
        simp only [List.mem_cons, List.not_mem_nil, or_false] at hu
        rcases hu with rfl | rfl <;> rfl
      intro w10 hg10 ho10
      refine hK _ _ (fun h => by cases h) ?_
      clear hK KK ho8 hlen8
      unfold wpCan
      have k10 : St (fun y => y = 10) col9 w8 col9 w10 := St.one hg10 _ _ HGI.out.1
      have hne10 : gi ≠ gx := fun e => by have h1 := HGI.out.1; rw [e, HRC.out] at h1; omega
      have D10 := Lib.hid (GnR.mk (v9 := .int .i64 ((i + 1 : Nat) : Int)) (i + 1) (l.set i (1, 99)) hlt rfl (⟨D8.out.K.fresh1 hg10 HGI.out.2, D8.out.H.st k10 (hq_ne nq10), D8.out.B.st k10 (by decide), D8.out.I.st k10 (by decide), D8.out.T.st k10 (by decide)⟩ : Dn m H' b col w w.heap.size (w.heap.size + 1) (w.heap.size + 1 + 1) g3 oc t v ic (.slice ai n ci) n col9 w10 q.o.l) (⟨by rw [← wcells_set l i (1, 99) (by rw [HOL.out]; exact hlt)]; exact ho10, X8.out.2⟩ : OwnC col9 w10 10 2 (.slice (some ⟨gi, oi, none⟩) nx cx) nx (wcells (l.set i (1, 99)))) ⟨R8.out.grown hg10 (fun e => hne10 (Option.some.inj e).symm), HRC.out⟩)
      clear hg10 ho10 k10 D8 X8 R8 hne10
      go_wp2_with fail
      have e1 : ((i : Int) + 1) = ((i + 1 : Nat) : Int) := by omega
      refine ⟨by rw [e1]; exact D10.out, by simp [intOf]; omega⟩
  · rw [hK] at p0
    obtain ⟨H', hH'⟩ : ∃ x, x = doH m H q := ⟨_, rfl⟩
    have HH' := Lib.hid hH'
    have hHH : H' = H := by rw [hH', doH]; simp [hK]
    have HTT : Hid (({ told0 with x := wordAt H q.k q.i, is := wordIs H q.k q.i } : Told) = tell m H q) := Lib.hid (by rw [tell]; simp [hK])
    clear hH' hK
    have p1 : w6.cell? ⟨w.heap.size, 1, none⟩ = some (.int .i64 q.k) := by have := B6.out.r0.cell 1; rw [HOC.out] at this; exact this
    have p2 : w6.cell? ⟨w.heap.size, 2, none⟩ = some (.int .i64 q.i) := by have := B6.out.r0.cell 2; rw [HOC.out] at this; exact this
    have p7 : w6.cell? ⟨w.heap.size, 7, none⟩ = some (.int .u8 (q.x.1.toNat : Int)) := by have := B6.out.r0.cell 7; rw [HOC.out] at this; exact this
    have p8 : w6.cell? ⟨w.heap.size, 8, none⟩ = some (.int .i64 q.x.2) := by have := B6.out.r0.cell 8; rw [HOC.out] at this; exact this
    have p9 : w6.cell? ⟨w.heap.size, 9, none⟩ = some (.slice aR nR cR) := by have := B6.out.r0.cell 9; rw [HOC.out] at this; exact this
    have i0 : w6.cell? ⟨g3, 0, none⟩ = some (.int .u8 (q.o.k.toNat : Int)) := by have := B6.out.r3.cell 0; rw [HIC.out] at this; exact this
    have i1 : w6.cell? ⟨g3, 1, none⟩ = some (.int .i64 q.o.t) := by have := B6.out.r3.cell 1; rw [HIC.out] at this; exact this
    have i2 : w6.cell? ⟨g3, 2, none⟩ = some (.slice ai n ci) := by have := B6.out.r3.cell 2; rw [HIC.out] at this; exact this
    have i3 : w6.cell? ⟨g3, 3, none⟩ = some (.string (str q.o.s)) := by have := B6.out.r3.cell 3; rw [HIC.out] at this; exact this
    obtain ⟨bm, bt, ks, at_, ts, tf, hin⟩ := H6.out
    have HIN := Lib.hid hin
    clear hin
    obtain ⟨B, hB⟩ : ∃ y, y = wordIs H q.k q.i := ⟨_, rfl⟩
    obtain ⟨x, hx⟩ : ∃ y, y = wordAt H q.k q.i := ⟨_, rfl⟩
    rw [← hB, ← hx] at HTT
    have HBB := Lib.hid hB
    have HXX := Lib.hid hx
    clear hB hx
    go_wp2_with fail
    refine (word_p HIN.out HG.out q.k q.i HQ0.out.wk B HBB x HXX).mono ?_
    rintro e w7 ⟨rfl, hb7⟩
    clear p1 p2 p7 p8 p9 i0 i1 i2 i3
    have k7 := St.fresh hb7 (fun _ => False) col6
    obtain ⟨col7, hc7⟩ : ∃ x, x = col6 := ⟨_, rfl⟩
    rw [← hc7] at k7
    have K7 : Hid (St HQ col w col7 w7) := Lib.hid (by rw [hc7]; exact K6.out.trans (St.fresh hb7 HQ col6))
    have H7 : Hid (HpAt col7 w7 b m H') := Lib.hid (by rw [hHH, hc7]; exact H6.out.fresh hb7)
    have B7 : Hid (Bx col7 w7 w.heap.size (w.heap.size + 1) (w.heap.size + 1 + 1) g3 oc told9 ic) := Lib.hid (by rw [hc7]; exact B6.out.st (St.fresh hb7 (fun _ => False) col6) (fun h => h))
    have I7 : Hid (OwnC col7 w7 9 2 (.slice ai n ci) n (wcells q.o.l)) := Lib.hid (by rw [hc7]; exact I6.out.st (St.fresh hb7 (fun _ => False) col6) (fun h => h))
    clear k7 hc7 hb7 K6 H6 B6 I6 p0
    have hr2 := B7.out.r2
    go_wp2_with (first | (refine wpL_storePart rfl _ _ _ rfl (cs := [.int .u8 (x.1.toNat : Int), .int .i64 x.2]) rfl rfl ?_ (by kernel_rfl) hr2 (by simp [told9]) ?_; (intro u hu; simp only [List.mem_cons, List.not_mem_nil, or_false] at hu; rcases hu with rfl | rfl <;> rfl); intro w71 hg71 hr71) | (refine wpL_storeAt rfl _ _ _ rfl (v := .bool B) rfl rfl rfl rfl (by kernel_rfl) hr71 rfl ?_; intro w8 hg8 hr8))
    have hg18 : w7.grownBy w8 (some (w.heap.size + 1 + 1)) := ⟨hg8.os.trans hg71.os, hg8.tape.trans hg71.tape, hg8.output.trans hg71.output, Nat.le_trans hg71.size hg8.size, fun i hi hn => (hg8.block i (Nat.lt_of_lt_of_le hi hg71.size) hn).trans (hg71.block i hi hn)⟩
    have hD : Dn m H' b col w w.heap.size (w.heap.size + 1) (w.heap.size + 1 + 1) g3 oc ({ told0 with x := x, is := B } : Told) (.slice none 0 0) ic (.slice ai n ci) n col7 w8 q.o.l := by
      have k8 : St (fun y => y = 7) col7 w7 col7 w8 := St.one hg18 _ _ B7.out.c2
      exact ⟨K7.out.fresh1 hg18 (by omega), H7.out.st k8 (hq_ne nq7), B7.out.put hg18 hr8, I7.out.st k8 (by decide), OwnC.nil _ _ _ _⟩
    have HD := Lib.hid hD
    obtain ⟨t, ht⟩ : ∃ t, t = ({ told0 with x := x, is := B } : Told) := ⟨_, rfl⟩
    obtain ⟨v, hv⟩ : ∃ v, v = Value.slice none 0 0 := ⟨_, rfl⟩
    obtain ⟨colx, hcx⟩ : ∃ x, x = col7 := ⟨_, rfl⟩
    rw [← ht, ← hv, ← hcx] at HD
    have HON : Hid ((tCells t v).all (·.oneCell') = true) := Lib.hid (by rw [ht, hv]; rfl)
    have HT : Hid (t = tell m H q) := Lib.hid (ht.trans HTT.out)
    clear hD ht hv hcx K7 H7 B7 I7
    clear hg8 hr8 hr2 hg71 hr71 hg18
    have DN := Lib.hid HD.out
    go_loopw [11] (fun v11 wr => DnR m H' b col w w.heap.size (w.heap.size + 1) (w.heap.size + 1 + 1) g3 oc t v ic (.slice ai n ci) n colx v11 wr) (fun v11 _ => n - (intOf v11).toNat)
    case atStart => exact DnR.mk 0 _ (Nat.zero_le _) rfl DN.out
    case round =>
      clear DN
      obtain ⟨i, l, hi, rfl, DN⟩ := hrel
      have p2 : wr.cell? ⟨g3, 2, none⟩ = some (.slice ai n ci) := by have := DN.out.B.r3.cell 2; rw [HIC.out] at this; exact this
      by_cases hin : i = n
      · subst hin
        have hr2 := DN.out.B.r2
        have hr1 := DN.out.B.r1
        go_wp2_with (first | refine wpL_loadRow rfl _ _ rfl rfl hr2 Try.underlying61 rfl (by kernel_rfl) ?_ | (refine wpL_storeRow rfl _ _ _ rfl (cs := tCells t v) rfl rfl hr1 (by kernel_rfl) rfl HON.out ?_; intro w9 hg9 hr9))
        (try simp only [Exit.inBlock, Exit.then])
        refine bodyPost_ret (results_cell_row Try.results31 _ _ (w.heap.size + 1) 61 _ (0, 0) _ rfl hr9 Try.underlying61 rfl (by kernel_rfl)) rfl ?_
        have k9 : St (fun y => y = 7) colx wr colx w9 := St.one hg9 _ _ DN.out.B.c1
        exact ⟨t, v, rfl, Lib.hid ⟨HT.out, colx, by rw [← HH'.out]; exact ⟨DN.out.K.fresh1 hg9 (Nat.le_succ _), DN.out.H.st k9 (hq_ne nq7), DN.out.T.st k9 (by decide)⟩⟩⟩
      have hlt : i < n := by omega
      have hlt' : (i : Int) < n := by omega
      have ho0 := DN.out.I.1
      obtain ⟨gi, oi, capi, he, _, _, _, _, hlen⟩ := ho0.open (by omega) (by decide)
      cases he
      have q0 := later_cell p2
      have HOL : Hid (l.length = n) := Lib.hid (by rw [wcells_len] at hlen; omega)
      have HGI : Hid (colx gi = 9 ∧ w.heap.size ≤ gi) := Lib.hid ⟨DN.out.I.2 gi rfl, HGI0.out gi rfl⟩
      clear ho0 hlen
      go_upto_region 37 with fail
      clear p2
      try go_frame
      refine wp_region_idx Rb Rb_refl Rb_trans [(0,0),(0,1),(0,2),(1,3),(0,4),(2,5)] (by kernel_rfl) (by kernel_rfl) (by kernel_rfl) ?_
      simp only [pickO, List.getD_cons_succ, List.getD_cons_zero]
      refine wpCan_seg 3 (by kernel_rfl) ?_
      simp only [List.take_succ_cons, List.take_zero, List.drop_succ_cons, List.drop_zero, List.map_cons, List.map_nil]
      iterate 3 (go_big_quiet_step (fail))
      refine wpQuiet_nil ?_
      clear q0
      refine wpCan_list (k := 0) (fun KK hK => ?_) (fun _ => Rb_refl _)
      go_wp2_with fail
      refine (number_any 77 wr.drew).mono ?_
      rintro e w8 ⟨rfl, hb8⟩
      go_wp2_with fail
      refine hK _ _ (fun _ => hb8) ?_
      clear hK KK
      have hb8' : Below wr.heap.size wr w8 := (Below.refl wr.heap.size wr).drew.trans hb8
      have k8 := St.fresh hb8' (fun _ => False) colx
      have D8 : Hid (Dn m H' b col w w.heap.size (w.heap.size + 1) (w.heap.size + 1 + 1) g3 oc t v ic (.slice (some ⟨gi, oi, none⟩) n ci) n colx w8 l) := Lib.hid ⟨DN.out.K.trans (k8.mono (fun _ h => h.elim)), DN.out.H.st k8 hq_false, DN.out.B.st k8 (fun h => h), DN.out.I.st k8 (fun h => h), DN.out.T.st k8 (fun h => h)⟩
      have ho8 := D8.out.I.1
      have hlen8 : i * 2 + 2 ≤ (wcells l).length := by rw [wcells_len, HOL.out]; omega
      clear hb8 hb8' k8 DN
      refine wpCan_seg 1 (by kernel_rfl) ?_
      simp only [List.take_succ_cons, List.take_zero, List.drop_succ_cons, List.drop_zero, List.map_cons, List.map_nil]
      iterate 1 (go_big_quiet_step (fail))
      refine wpQuiet_nil ?_
      refine wpCan_list (k := 1) (fun KK hK => ?_) (fun h => by cases h)
      refine wpL_storeOwnS rfl _ _ _ rfl (cs := [.int .u8 1, .int .i64 77]) rfl rfl ?_ (by kernel_rfl) ho8 (i * 2) rfl hlen8 ?_
      · intro u hu
        simp only [List.mem_cons, List.not_mem_nil, or_false] at hu
        rcases hu with rfl | rfl <;> rfl
      intro w10 hg10 ho10
      refine hK _ _ (fun h => by cases h) ?_
      clear hK KK ho8 hlen8
      unfold wpCan
      have k10 : St (fun y => y = 9) colx w8 colx w10 := St.one hg10 _ _ HGI.out.1
      have D10 := Lib.hid (DnR.mk (v11 := .int .i64 ((i + 1 : Nat) : Int)) (i + 1) (l.set i (1, 77)) hlt rfl (⟨D8.out.K.fresh1 hg10 HGI.out.2, D8.out.H.st k10 (hq_ne nq9), D8.out.B.st k10 (by decide), ⟨by rw [← wcells_set l i (1, 77) (by rw [HOL.out]; exact hlt)]; exact ho10, D8.out.I.2⟩, D8.out.T.st k10 (by decide)⟩ : Dn m H' b col w w.heap.size (w.heap.size + 1) (w.heap.size + 1 + 1) g3 oc t v ic (.slice (some ⟨gi, oi, none⟩) n ci) n colx w10 (l.set i (1, 77))))
      clear hg10 ho10 k10 D8
      go_wp2_with fail
      have e1 : ((i : Int) + 1) = ((i + 1 : Nat) : Int) := by omega
      refine ⟨by rw [e1]; exact D10.out, by simp [intOf]; omega⟩
  · rw [hK] at p0
    obtain ⟨H', hH'⟩ : ∃ x, x = doH m H q := ⟨_, rfl⟩
    have HH' := Lib.hid hH'
    have hHH : H' = setH H q.k q.i q.x := by rw [hH', doH]; simp [hK]
    have HTT : Hid (({ told0 with is := setIs H q.k q.i q.x } : Told) = tell m H q) := Lib.hid (by rw [tell]; simp [hK])
    clear hH' hK
    have p1 : w6.cell? ⟨w.heap.size, 1, none⟩ = some (.int .i64 q.k) := by have := B6.out.r0.cell 1; rw [HOC.out] at this; exact this
    have p2 : w6.cell? ⟨w.heap.size, 2, none⟩ = some (.int .i64 q.i) := by have := B6.out.r0.cell 2; rw [HOC.out] at this; exact this
    have p7 : w6.cell? ⟨w.heap.size, 7, none⟩ = some (.int .u8 (q.x.1.toNat : Int)) := by have := B6.out.r0.cell 7; rw [HOC.out] at this; exact this
    have p8 : w6.cell? ⟨w.heap.size, 8, none⟩ = some (.int .i64 q.x.2) := by have := B6.out.r0.cell 8; rw [HOC.out] at this; exact this
    have p9 : w6.cell? ⟨w.heap.size, 9, none⟩ = some (.slice aR nR cR) := by have := B6.out.r0.cell 9; rw [HOC.out] at this; exact this
    have i0 : w6.cell? ⟨g3, 0, none⟩ = some (.int .u8 (q.o.k.toNat : Int)) := by have := B6.out.r3.cell 0; rw [HIC.out] at this; exact this
    have i1 : w6.cell? ⟨g3, 1, none⟩ = some (.int .i64 q.o.t) := by have := B6.out.r3.cell 1; rw [HIC.out] at this; exact this
    have i2 : w6.cell? ⟨g3, 2, none⟩ = some (.slice ai n ci) := by have := B6.out.r3.cell 2; rw [HIC.out] at this; exact this
    have i3 : w6.cell? ⟨g3, 3, none⟩ = some (.string (str q.o.s)) := by have := B6.out.r3.cell 3; rw [HIC.out] at this; exact this
    obtain ⟨bm, bt, ks, at_, ts, tf, hin⟩ := H6.out
    have HIN := Lib.hid hin
    clear hin
    obtain ⟨B, hB⟩ : ∃ y, y = setIs H q.k q.i q.x := ⟨_, rfl⟩
    rw [← hB] at HTT
    have HBB := Lib.hid hB
    clear hB
    go_wp2_with fail
    refine (setWord_p HIN.out HG.out q.k q.i q.x HQ0.out.wk B HBB H' (Lib.hid hHH)).mono ?_
    rintro e w7 ⟨rfl, col7, k7, h7⟩
    clear p1 p2 p7 p8 p9 i0 i1 i2 i3
    have K7 := Lib.hid (K6.out.trans k7)
    have H7 : Hid (HpAt col7 w7 b m H') := Lib.hid h7
    have B7 := Lib.hid (B6.out.st k7 nq7)
    have I7 := Lib.hid (I6.out.st k7 nq9)
    clear k7 h7 K6 H6 B6 I6 p0
    have hr2 := B7.out.r2
    go_wp2_with (refine wpL_storeAt rfl _ _ _ rfl (v := (.bool B)) rfl rfl rfl rfl (by kernel_rfl) hr2 rfl ?_; intro w8 hg8 hr8)
    have hD : Dn m H' b col w w.heap.size (w.heap.size + 1) (w.heap.size + 1 + 1) g3 oc ({ told0 with is := B } : Told) (.slice none 0 0) ic (.slice ai n ci) n col7 w8 q.o.l := by
      have k8 : St (fun y => y = 7) col7 w7 col7 w8 := St.one hg8 _ _ B7.out.c2
      exact ⟨K7.out.fresh1 hg8 (by omega), H7.out.st k8 (hq_ne nq7), B7.out.put hg8 hr8, I7.out.st k8 (by decide), OwnC.nil _ _ _ _⟩
    have HD := Lib.hid hD
    obtain ⟨t, ht⟩ : ∃ t, t = ({ told0 with is := B } : Told) := ⟨_, rfl⟩
    obtain ⟨v, hv⟩ : ∃ v, v = Value.slice none 0 0 := ⟨_, rfl⟩
    obtain ⟨colx, hcx⟩ : ∃ x, x = col7 := ⟨_, rfl⟩
    rw [← ht, ← hv, ← hcx] at HD
    have HON : Hid ((tCells t v).all (·.oneCell') = true) := Lib.hid (by rw [ht, hv]; rfl)
    have HT : Hid (t = tell m H q) := Lib.hid (ht.trans HTT.out)
    clear hD ht hv hcx K7 H7 B7 I7
    clear hg8 hr8 hr2
    have DN := Lib.hid HD.out
    go_loopw [11] (fun v11 wr => DnR m H' b col w w.heap.size (w.heap.size + 1) (w.heap.size + 1 + 1) g3 oc t v ic (.slice ai n ci) n colx v11 wr) (fun v11 _ => n - (intOf v11).toNat)
    case atStart => exact DnR.mk 0 _ (Nat.zero_le _) rfl DN.out
    case round =>
      clear DN
      obtain ⟨i, l, hi, rfl, DN⟩ := hrel
      have p2 : wr.cell? ⟨g3, 2, none⟩ = some (.slice ai n ci) := by have := DN.out.B.r3.cell 2; rw [HIC.out] at this; exact this
      by_cases hin : i = n
      · subst hin
        have hr2 := DN.out.B.r2
        have hr1 := DN.out.B.r1
        go_wp2_with (first | refine wpL_loadRow rfl _ _ rfl rfl hr2 Try.underlying61 rfl (by kernel_rfl) ?_ | (refine wpL_storeRow rfl _ _ _ rfl (cs := tCells t v) rfl rfl hr1 (by kernel_rfl) rfl HON.out ?_; intro w9 hg9 hr9))
        (try simp only [Exit.inBlock, Exit.then])
        refine bodyPost_ret (results_cell_row Try.results31 _ _ (w.heap.size + 1) 61 _ (0, 0) _ rfl hr9 Try.underlying61 rfl (by kernel_rfl)) rfl ?_
        have k9 : St (fun y => y = 7) colx wr colx w9 := St.one hg9 _ _ DN.out.B.c1
        exact ⟨t, v, rfl, Lib.hid ⟨HT.out, colx, by rw [← HH'.out]; exact ⟨DN.out.K.fresh1 hg9 (Nat.le_succ _), DN.out.H.st k9 (hq_ne nq7), DN.out.T.st k9 (by decide)⟩⟩⟩
      have hlt : i < n := by omega
      have hlt' : (i : Int) < n := by omega
      have ho0 := DN.out.I.1
      obtain ⟨gi, oi, capi, he, _, _, _, _, hlen⟩ := ho0.open (by omega) (by decide)
      cases he
      have q0 := later_cell p2
      have HOL : Hid (l.length = n) := Lib.hid (by rw [wcells_len] at hlen; omega)
      have HGI : Hid (colx gi = 9 ∧ w.heap.size ≤ gi) := Lib.hid ⟨DN.out.I.2 gi rfl, HGI0.out gi rfl⟩
      clear ho0 hlen
      go_upto_region 37 with fail
      clear p2
      try go_frame
      refine wp_region_idx Rb Rb_refl Rb_trans [(0,0),(0,1),(0,2),(1,3),(0,4),(2,5)] (by kernel_rfl) (by kernel_rfl) (by kernel_rfl) ?_
      simp only [pickO, List.getD_cons_succ, List.getD_cons_zero]
      refine wpCan_seg 3 (by kernel_rfl) ?_
      simp only [List.take_succ_cons, List.take_zero, List.drop_succ_cons, List.drop_zero, List.map_cons, List.map_nil]
      iterate 3 (go_big_quiet_step (fail))
      refine wpQuiet_nil ?_
      clear q0
      refine wpCan_list (k := 0) (fun KK hK => ?_) (fun _ => Rb_refl _)
      go_wp2_with fail
      refine (number_any 77 wr.drew).mono ?_
      rintro e w8 ⟨rfl, hb8⟩
      go_wp2_with fail
      refine hK _ _ (fun _ => hb8) ?_
      clear hK KK
      have hb8' : Below wr.heap.size wr w8 := (Below.refl wr.heap.size wr).drew.trans hb8
      have k8 := St.fresh hb8' (fun _ => False) colx
      have D8 : Hid (Dn m H' b col w w.heap.size (w.heap.size + 1) (w.heap.size + 1 + 1) g3 oc t v ic (.slice (some ⟨gi, oi, none⟩) n ci) n colx w8 l) := Lib.hid ⟨DN.out.K.trans (k8.mono (fun _ h => h.elim)), DN.out.H.st k8 hq_false, DN.out.B.st k8 (fun h => h), DN.out.I.st k8 (fun h => h), DN.out.T.st k8 (fun h => h)⟩
      have ho8 := D8.out.I.1
      have hlen8 : i * 2 + 2 ≤ (wcells l).length := by rw [wcells_len, HOL.out]; omega
      clear hb8 hb8' k8 DN
      refine wpCan_seg 1 (by kernel_rfl) ?_
      simp only [List.take_succ_cons, List.take_zero, List.drop_succ_cons, List.drop_zero, List.map_cons, List.map_nil]
      iterate 1 (go_big_quiet_step (fail))
      refine wpQuiet_nil ?_
      refine wpCan_list (k := 1) (fun KK hK => ?_) (fun h => by cases h)
      refine wpL_storeOwnS rfl _ _ _ rfl (cs := [.int .u8 1, .int .i64 77]) rfl rfl ?_ (by kernel_rfl) ho8 (i * 2) rfl hlen8 ?_
      · intro u hu
        simp only [List.mem_cons, List.not_mem_nil, or_false] at hu
        rcases hu with rfl | rfl <;> rfl
      intro w10 hg10 ho10
      refine hK _ _ (fun h => by cases h) ?_
      clear hK KK ho8 hlen8
      unfold wpCan
      have k10 : St (fun y => y = 9) colx w8 colx w10 := St.one hg10 _ _ HGI.out.1
      have D10 := Lib.hid (DnR.mk (v11 := .int .i64 ((i + 1 : Nat) : Int)) (i + 1) (l.set i (1, 77)) hlt rfl (⟨D8.out.K.fresh1 hg10 HGI.out.2, D8.out.H.st k10 (hq_ne nq9), D8.out.B.st k10 (by decide), ⟨by rw [← wcells_set l i (1, 77) (by rw [HOL.out]; exact hlt)]; exact ho10, D8.out.I.2⟩, D8.out.T.st k10 (by decide)⟩ : Dn m H' b col w w.heap.size (w.heap.size + 1) (w.heap.size + 1 + 1) g3 oc t v ic (.slice (some ⟨gi, oi, none⟩) n ci) n colx w10 (l.set i (1, 77))))
      clear hg10 ho10 k10 D8
      go_wp2_with fail
      have e1 : ((i : Int) + 1) = ((i + 1 : Nat) : Int) := by omega
      refine ⟨by rw [e1]; exact D10.out, by simp [intOf]; omega⟩
  · rw [hK] at p0
    obtain ⟨H', hH'⟩ : ∃ x, x = doH m H q := ⟨_, rfl⟩
    have HH' := Lib.hid hH'
    have hHH : H' = tieH H q.k q.i := by rw [hH', doH]; simp [hK]
    have HTT : Hid (({ told0 with e := tieE H q.k q.i } : Told) = tell m H q) := Lib.hid (by rw [tell]; simp [hK])
    clear hH' hK
    have p1 : w6.cell? ⟨w.heap.size, 1, none⟩ = some (.int .i64 q.k) := by have := B6.out.r0.cell 1; rw [HOC.out] at this; exact this
    have p2 : w6.cell? ⟨w.heap.size, 2, none⟩ = some (.int .i64 q.i) := by have := B6.out.r0.cell 2; rw [HOC.out] at this; exact this
    have p7 : w6.cell? ⟨w.heap.size, 7, none⟩ = some (.int .u8 (q.x.1.toNat : Int)) := by have := B6.out.r0.cell 7; rw [HOC.out] at this; exact this
    have p8 : w6.cell? ⟨w.heap.size, 8, none⟩ = some (.int .i64 q.x.2) := by have := B6.out.r0.cell 8; rw [HOC.out] at this; exact this
    have p9 : w6.cell? ⟨w.heap.size, 9, none⟩ = some (.slice aR nR cR) := by have := B6.out.r0.cell 9; rw [HOC.out] at this; exact this
    have i0 : w6.cell? ⟨g3, 0, none⟩ = some (.int .u8 (q.o.k.toNat : Int)) := by have := B6.out.r3.cell 0; rw [HIC.out] at this; exact this
    have i1 : w6.cell? ⟨g3, 1, none⟩ = some (.int .i64 q.o.t) := by have := B6.out.r3.cell 1; rw [HIC.out] at this; exact this
    have i2 : w6.cell? ⟨g3, 2, none⟩ = some (.slice ai n ci) := by have := B6.out.r3.cell 2; rw [HIC.out] at this; exact this
    have i3 : w6.cell? ⟨g3, 3, none⟩ = some (.string (str q.o.s)) := by have := B6.out.r3.cell 3; rw [HIC.out] at this; exact this
    obtain ⟨bm, bt, ks, at_, ts, tf, hin⟩ := H6.out
    have HIN := Lib.hid hin
    clear hin
    obtain ⟨E, hE⟩ : ∃ y, y = tieE H q.k q.i := ⟨_, rfl⟩
    rw [← hE] at HTT
    have HEE := Lib.hid hE
    clear hE
    go_wp2_with fail
    refine (tie_p HIN.out HG.out q.k q.i HQ0.out.wk HQ0.out.wi E HEE H' (Lib.hid hHH)).mono ?_
    rintro e w7 ⟨rfl, col7, k7, h7⟩
    clear p1 p2 p7 p8 p9 i0 i1 i2 i3
    have K7 := Lib.hid (K6.out.trans k7)
    have H7 : Hid (HpAt col7 w7 b m H') := Lib.hid h7
    have B7 := Lib.hid (B6.out.st k7 nq7)
    have I7 := Lib.hid (I6.out.st k7 nq9)
    clear k7 h7 K6 H6 B6 I6 p0
    have hr2 := B7.out.r2
    go_wp2_with (refine wpL_storeAt rfl _ _ _ rfl (v := (.int .i64 E)) rfl rfl rfl rfl (by kernel_rfl) hr2 rfl ?_; intro w8 hg8 hr8)
    have hD : Dn m H' b col w w.heap.size (w.heap.size + 1) (w.heap.size + 1 + 1) g3 oc ({ told0 with e := E } : Told) (.slice none 0 0) ic (.slice ai n ci) n col7 w8 q.o.l := by
      have k8 : St (fun y => y = 7) col7 w7 col7 w8 := St.one hg8 _ _ B7.out.c2
      exact ⟨K7.out.fresh1 hg8 (by omega), H7.out.st k8 (hq_ne nq7), B7.out.put hg8 hr8, I7.out.st k8 (by decide), OwnC.nil _ _ _ _⟩
    have HD := Lib.hid hD
    obtain ⟨t, ht⟩ : ∃ t, t = ({ told0 with e := E } : Told) := ⟨_, rfl⟩
    obtain ⟨v, hv⟩ : ∃ v, v = Value.slice none 0 0 := ⟨_, rfl⟩
    obtain ⟨colx, hcx⟩ : ∃ x, x = col7 := ⟨_, rfl⟩
    rw [← ht, ← hv, ← hcx] at HD
    have HON : Hid ((tCells t v).all (·.oneCell') = true) := Lib.hid (by rw [ht, hv]; rfl)
    have HT : Hid (t = tell m H q) := Lib.hid (ht.trans HTT.out)
    clear hD ht hv hcx K7 H7 B7 I7
    clear hg8 hr8 hr2
    have DN := Lib.hid HD.out
    go_loopw [11] (fun v11 wr => DnR m H' b col w w.heap.size (w.heap.size + 1) (w.heap.size + 1 + 1) g3 oc t v ic (.slice ai n ci) n colx v11 wr) (fun v11 _ => n - (intOf v11).toNat)
    case atStart => exact DnR.mk 0 _ (Nat.zero_le _) rfl DN.out
    case round =>
      clear DN
      obtain ⟨i, l, hi, rfl, DN⟩ := hrel
      have p2 : wr.cell? ⟨g3, 2, none⟩ = some (.slice ai n ci) := by have := DN.out.B.r3.cell 2; rw [HIC.out] at this; exact this
      by_cases hin : i = n
      · subst hin
        have hr2 := DN.out.B.r2
        have hr1 := DN.out.B.r1
        go_wp2_with (first | refine wpL_loadRow rfl _ _ rfl rfl hr2 Try.underlying61 rfl (by kernel_rfl) ?_ | (refine wpL_storeRow rfl _ _ _ rfl (cs := tCells t v) rfl rfl hr1 (by kernel_rfl) rfl HON.out ?_; intro w9 hg9 hr9))
        (try simp only [Exit.inBlock, Exit.then])
        refine bodyPost_ret (results_cell_row Try.results31 _ _ (w.heap.size + 1) 61 _ (0, 0) _ rfl hr9 Try.underlying61 rfl (by kernel_rfl)) rfl ?_
        have k9 : St (fun y => y = 7) colx wr colx w9 := St.one hg9 _ _ DN.out.B.c1
        exact ⟨t, v, rfl, Lib.hid ⟨HT.out, colx, by rw [← HH'.out]; exact ⟨DN.out.K.fresh1 hg9 (Nat.le_succ _), DN.out.H.st k9 (hq_ne nq7), DN.out.T.st k9 (by decide)⟩⟩⟩
      have hlt : i < n := by omega
      have hlt' : (i : Int) < n := by omega
      have ho0 := DN.out.I.1
      obtain ⟨gi, oi, capi, he, _, _, _, _, hlen⟩ := ho0.open (by omega) (by decide)
      cases he
      have q0 := later_cell p2
      have HOL : Hid (l.length = n) := Lib.hid (by rw [wcells_len] at hlen; omega)
      have HGI : Hid (colx gi = 9 ∧ w.heap.size ≤ gi) := Lib.hid ⟨DN.out.I.2 gi rfl, HGI0.out gi rfl⟩
      clear ho0 hlen
      go_upto_region 37 with fail
      clear p2
      try go_frame
      refine wp_region_idx Rb Rb_refl Rb_trans [(0,0),(0,1),(0,2),(1,3),(0,4),(2,5)] (by kernel_rfl) (by kernel_rfl) (by kernel_rfl) ?_
      simp only [pickO, List.getD_cons_succ, List.getD_cons_zero]
      refine wpCan_seg 3 (by kernel_rfl) ?_
      simp only [List.take_succ_cons, List.take_zero, List.drop_succ_cons, List.drop_zero, List.map_cons, List.map_nil]
      iterate 3 (go_big_quiet_step (fail))
      refine wpQuiet_nil ?_
      clear q0
      refine wpCan_list (k := 0) (fun KK hK => ?_) (fun _ => Rb_refl _)
      go_wp2_with fail
      refine (number_any 77 wr.drew).mono ?_
      rintro e w8 ⟨rfl, hb8⟩
      go_wp2_with fail
      refine hK _ _ (fun _ => hb8) ?_
      clear hK KK
      have hb8' : Below wr.heap.size wr w8 := (Below.refl wr.heap.size wr).drew.trans hb8
      have k8 := St.fresh hb8' (fun _ => False) colx
      have D8 : Hid (Dn m H' b col w w.heap.size (w.heap.size + 1) (w.heap.size + 1 + 1) g3 oc t v ic (.slice (some ⟨gi, oi, none⟩) n ci) n colx w8 l) := Lib.hid ⟨DN.out.K.trans (k8.mono (fun _ h => h.elim)), DN.out.H.st k8 hq_false, DN.out.B.st k8 (fun h => h), DN.out.I.st k8 (fun h => h), DN.out.T.st k8 (fun h => h)⟩
      have ho8 := D8.out.I.1
      have hlen8 : i * 2 + 2 ≤ (wcells l).length := by rw [wcells_len, HOL.out]; omega
      clear hb8 hb8' k8 DN
      refine wpCan_seg 1 (by kernel_rfl) ?_
      simp only [List.take_succ_cons, List.take_zero, List.drop_succ_cons, List.drop_zero, List.map_cons, List.map_nil]
      iterate 1 (go_big_quiet_step (fail))
      refine wpQuiet_nil ?_
      refine wpCan_list (k := 1) (fun KK hK => ?_) (fun h => by cases h)
      refine wpL_storeOwnS rfl _ _ _ rfl (cs := [.int .u8 1, .int .i64 77]) rfl rfl ?_ (by kernel_rfl) ho8 (i * 2) rfl hlen8 ?_
      · intro u hu
        simp only [List.mem_cons, List.not_mem_nil, or_false] at hu
        rcases hu with rfl | rfl <;> rfl
      intro w10 hg10 ho10
      refine hK _ _ (fun h => by cases h) ?_
      clear hK KK ho8 hlen8
      unfold wpCan
      have k10 : St (fun y => y = 9) colx w8 colx w10 := St.one hg10 _ _ HGI.out.1
      have D10 := Lib.hid (DnR.mk (v11 := .int .i64 ((i + 1 : Nat) : Int)) (i + 1) (l.set i (1, 77)) hlt rfl (⟨D8.out.K.fresh1 hg10 HGI.out.2, D8.out.H.st k10 (hq_ne nq9), D8.out.B.st k10 (by decide), ⟨by rw [← wcells_set l i (1, 77) (by rw [HOL.out]; exact hlt)]; exact ho10, D8.out.I.2⟩, D8.out.T.st k10 (by decide)⟩ : Dn m H' b col w w.heap.size (w.heap.size + 1) (w.heap.size + 1 + 1) g3 oc t v ic (.slice (some ⟨gi, oi, none⟩) n ci) n colx w10 (l.set i (1, 77))))
      clear hg10 ho10 k10 D8
      go_wp2_with fail
      have e1 : ((i : Int) + 1) = ((i + 1 : Nat) : Int) := by omega
      refine ⟨by rw [e1]; exact D10.out, by simp [intOf]; omega⟩
  · rw [hK] at p0
    obtain ⟨H', hH'⟩ : ∃ x, x = doH m H q := ⟨_, rfl⟩
    have HH' := Lib.hid hH'
    have hHH : H' = untieH H q.k := by rw [hH', doH]; simp [hK]
    have HTT : Hid (({ told0 with is := untieIs H q.k } : Told) = tell m H q) := Lib.hid (by rw [tell]; simp [hK])
    clear hH' hK
    have p1 : w6.cell? ⟨w.heap.size, 1, none⟩ = some (.int .i64 q.k) := by have := B6.out.r0.cell 1; rw [HOC.out] at this; exact this
    have p2 : w6.cell? ⟨w.heap.size, 2, none⟩ = some (.int .i64 q.i) := by have := B6.out.r0.cell 2; rw [HOC.out] at this; exact this
    have p7 : w6.cell? ⟨w.heap.size, 7, none⟩ = some (.int .u8 (q.x.1.toNat : Int)) := by have := B6.out.r0.cell 7; rw [HOC.out] at this; exact this
    have p8 : w6.cell? ⟨w.heap.size, 8, none⟩ = some (.int .i64 q.x.2) := by have := B6.out.r0.cell 8; rw [HOC.out] at this; exact this
    have p9 : w6.cell? ⟨w.heap.size, 9, none⟩ = some (.slice aR nR cR) := by have := B6.out.r0.cell 9; rw [HOC.out] at this; exact this
    have i0 : w6.cell? ⟨g3, 0, none⟩ = some (.int .u8 (q.o.k.toNat : Int)) := by have := B6.out.r3.cell 0; rw [HIC.out] at this; exact this
    have i1 : w6.cell? ⟨g3, 1, none⟩ = some (.int .i64 q.o.t) := by have := B6.out.r3.cell 1; rw [HIC.out] at this; exact this
    have i2 : w6.cell? ⟨g3, 2, none⟩ = some (.slice ai n ci) := by have := B6.out.r3.cell 2; rw [HIC.out] at this; exact this
    have i3 : w6.cell? ⟨g3, 3, none⟩ = some (.string (str q.o.s)) := by have := B6.out.r3.cell 3; rw [HIC.out] at this; exact this
    obtain ⟨bm, bt, ks, at_, ts, tf, hin⟩ := H6.out
    have HIN := Lib.hid hin
    clear hin
    obtain ⟨B, hB⟩ : ∃ y, y = untieIs H q.k := ⟨_, rfl⟩
    rw [← hB] at HTT
    have HBB := Lib.hid hB
    clear hB
    go_wp2_with fail
    refine (untie_p HIN.out HG.out q.k HQ0.out.wk B HBB H' (Lib.hid hHH)).mono ?_
    rintro e w7 ⟨rfl, col7, k7, h7⟩
    clear p1 p2 p7 p8 p9 i0 i1 i2 i3
    have K7 := Lib.hid (K6.out.trans k7)
    have H7 : Hid (HpAt col7 w7 b m H') := Lib.hid h7
    have B7 := Lib.hid (B6.out.st k7 nq7)
    have I7 := Lib.hid (I6.out.st k7 nq9)
    clear k7 h7 K6 H6 B6 I6 p0
    have hr2 := B7.out.r2
    go_wp2_with (refine wpL_storeAt rfl _ _ _ rfl (v := (.bool B)) rfl rfl rfl rfl (by kernel_rfl) hr2 rfl ?_; intro w8 hg8 hr8)
    have hD : Dn m H' b col w w.heap.size (w.heap.size + 1) (w.heap.size + 1 + 1) g3 oc ({ told0 with is := B } : Told) (.slice none 0 0) ic (.slice ai n ci) n col7 w8 q.o.l := by
      have k8 : St (fun y => y = 7) col7 w7 col7 w8 := St.one hg8 _ _ B7.out.c2
      exact ⟨K7.out.fresh1 hg8 (by omega), H7.out.st k8 (hq_ne nq7), B7.out.put hg8 hr8, I7.out.st k8 (by decide), OwnC.nil _ _ _ _⟩
    have HD := Lib.hid hD
    obtain ⟨t, ht⟩ : ∃ t, t = ({ told0 with is := B } : Told) := ⟨_, rfl⟩
    obtain ⟨v, hv⟩ : ∃ v, v = Value.slice none 0 0 := ⟨_, rfl⟩
    obtain ⟨colx, hcx⟩ : ∃ x, x = col7 := ⟨_, rfl⟩
    rw [← ht, ← hv, ← hcx] at HD
    have HON : Hid ((tCells t v).all (·.oneCell') = true) := Lib.hid (by rw [ht, hv]; rfl)
    have HT : Hid (t = tell m H q) := Lib.hid (ht.trans HTT.out)
    clear hD ht hv hcx K7 H7 B7 I7
    clear hg8 hr8 hr2
    have DN := Lib.hid HD.out
    go_loopw [11] (fun v11 wr => DnR m H' b col w w.heap.size (w.heap.size + 1) (w.heap.size + 1 + 1) g3 oc t v ic (.slice ai n ci) n colx v11 wr) (fun v11 _ => n - (intOf v11).toNat)
    case atStart => exact DnR.mk 0 _ (Nat.zero_le _) rfl DN.out
    case round =>
      clear DN
      obtain ⟨i, l, hi, rfl, DN⟩ := hrel
      have p2 : wr.cell? ⟨g3, 2, none⟩ = some (.slice ai n ci) := by have := DN.out.B.r3.cell 2; rw [HIC.out] at this; exact this
      by_cases hin : i = n
      · subst hin
        have hr2 := DN.out.B.r2
        have hr1 := DN.out.B.r1
        go_wp2_with (first | refine wpL_loadRow rfl _ _ rfl rfl hr2 Try.underlying61 rfl (by kernel_rfl) ?_ | (refine wpL_storeRow rfl _ _ _ rfl (cs := tCells t v) rfl rfl hr1 (by kernel_rfl) rfl HON.out ?_; intro w9 hg9 hr9))
        (try simp only [Exit.inBlock, Exit.then])
        refine bodyPost_ret (results_cell_row Try.results31 _ _ (w.heap.size + 1) 61 _ (0, 0) _ rfl hr9 Try.underlying61 rfl (by kernel_rfl)) rfl ?_
        have k9 : St (fun y => y = 7) colx wr colx w9 := St.one hg9 _ _ DN.out.B.c1
        exact ⟨t, v, rfl, Lib.hid ⟨HT.out, colx, by rw [← HH'.out]; exact ⟨DN.out.K.fresh1 hg9 (Nat.le_succ _), DN.out.H.st k9 (hq_ne nq7), DN.out.T.st k9 (by decide)⟩⟩⟩
      have hlt : i < n := by omega
      have hlt' : (i : Int) < n := by omega
      have ho0 := DN.out.I.1
      obtain ⟨gi, oi, capi, he, _, _, _, _, hlen⟩ := ho0.open (by omega) (by decide)
      cases he
      have q0 := later_cell p2
      have HOL : Hid (l.length = n) := Lib.hid (by rw [wcells_len] at hlen; omega)
      have HGI : Hid (colx gi = 9 ∧ w.heap.size ≤ gi) := Lib.hid ⟨DN.out.I.2 gi rfl, HGI0.out gi rfl⟩
      clear ho0 hlen
      go_upto_region 37 with fail
      clear p2
      try go_frame
      refine wp_region_idx Rb Rb_refl Rb_trans [(0,0),(0,1),(0,2),(1,3),(0,4),(2,5)] (by kernel_rfl) (by kernel_rfl) (by kernel_rfl) ?_
      simp only [pickO, List.getD_cons_succ, List.getD_cons_zero]
      refine wpCan_seg 3 (by kernel_rfl) ?_
      simp only [List.take_succ_cons, List.take_zero, List.drop_succ_cons, List.drop_zero, List.map_cons, List.map_nil]
      iterate 3 (go_big_quiet_step (fail))
      refine wpQuiet_nil ?_
      clear q0
      refine wpCan_list (k := 0) (fun KK hK => ?_) (fun _ => Rb_refl _)
      go_wp2_with fail
      refine (number_any 77 wr.drew).mono ?_
      rintro e w8 ⟨rfl, hb8⟩
      go_wp2_with fail
      refine hK _ _ (fun _ => hb8) ?_
      clear hK KK
      have hb8' : Below wr.heap.size wr w8 := (Below.refl wr.heap.size wr).drew.trans hb8
      have k8 := St.fresh hb8' (fun _ => False) colx
      have D8 : Hid (Dn m H' b col w w.heap.size (w.heap.size + 1) (w.heap.size + 1 + 1) g3 oc t v ic (.slice (some ⟨gi, oi, none⟩) n ci) n colx w8 l) := Lib.hid ⟨DN.out.K.trans (k8.mono (fun _ h => h.elim)), DN.out.H.st k8 hq_false, DN.out.B.st k8 (fun h => h), DN.out.I.st k8 (fun h => h), DN.out.T.st k8 (fun h => h)⟩
      have ho8 := D8.out.I.1
      have hlen8 : i * 2 + 2 ≤ (wcells l).length := by rw [wcells_len, HOL.out]; omega
      clear hb8 hb8' k8 DN
      refine wpCan_seg 1 (by kernel_rfl) ?_
      simp only [List.take_succ_cons, List.take_zero, List.drop_succ_cons, List.drop_zero, List.map_cons, List.map_nil]
      iterate 1 (go_big_quiet_step (fail))
      refine wpQuiet_nil ?_
      refine wpCan_list (k := 1) (fun KK hK => ?_) (fun h => by cases h)
      refine wpL_storeOwnS rfl _ _ _ rfl (cs := [.int .u8 1, .int .i64 77]) rfl rfl ?_ (by kernel_rfl) ho8 (i * 2) rfl hlen8 ?_
      · intro u hu
        simp only [List.mem_cons, List.not_mem_nil, or_false] at hu
        rcases hu with rfl | rfl <;> rfl
      intro w10 hg10 ho10
      refine hK _ _ (fun h => by cases h) ?_
      clear hK KK ho8 hlen8
      unfold wpCan
      have k10 : St (fun y => y = 9) colx w8 colx w10 := St.one hg10 _ _ HGI.out.1
      have D10 := Lib.hid (DnR.mk (v11 := .int .i64 ((i + 1 : Nat) : Int)) (i + 1) (l.set i (1, 77)) hlt rfl (⟨D8.out.K.fresh1 hg10 HGI.out.2, D8.out.H.st k10 (hq_ne nq9), D8.out.B.st k10 (by decide), ⟨by rw [← wcells_set l i (1, 77) (by rw [HOL.out]; exact hlt)]; exact ho10, D8.out.I.2⟩, D8.out.T.st k10 (by decide)⟩ : Dn m H' b col w w.heap.size (w.heap.size + 1) (w.heap.size + 1 + 1) g3 oc t v ic (.slice (some ⟨gi, oi, none⟩) n ci) n colx w10 (l.set i (1, 77))))
      clear hg10 ho10 k10 D8
      go_wp2_with fail
      have e1 : ((i : Int) + 1) = ((i + 1 : Nat) : Int) := by omega
      refine ⟨by rw [e1]; exact D10.out, by simp [intOf]; omega⟩
  · rw [hK] at p0
    obtain ⟨H', hH'⟩ : ∃ x, x = doH m H q := ⟨_, rfl⟩
    have HH' := Lib.hid hH'
    have hHH : H' = H := by rw [hH', doH]; simp [hK]
    have HTT : Hid (({ told0 with n := (thAt H q.k).oid, is := decide (0 < (thAt H q.k).oid) } : Told) = tell m H q) := Lib.hid (by rw [tell]; simp [hK])
    clear hH' hK
    have p1 : w6.cell? ⟨w.heap.size, 1, none⟩ = some (.int .i64 q.k) := by have := B6.out.r0.cell 1; rw [HOC.out] at this; exact this
    have p2 : w6.cell? ⟨w.heap.size, 2, none⟩ = some (.int .i64 q.i) := by have := B6.out.r0.cell 2; rw [HOC.out] at this; exact this
    have p7 : w6.cell? ⟨w.heap.size, 7, none⟩ = some (.int .u8 (q.x.1.toNat : Int)) := by have := B6.out.r0.cell 7; rw [HOC.out] at this; exact this
    have p8 : w6.cell? ⟨w.heap.size, 8, none⟩ = some (.int .i64 q.x.2) := by have := B6.out.r0.cell 8; rw [HOC.out] at this; exact this
    have p9 : w6.cell? ⟨w.heap.size, 9, none⟩ = some (.slice aR nR cR) := by have := B6.out.r0.cell 9; rw [HOC.out] at this; exact this
    have i0 : w6.cell? ⟨g3, 0, none⟩ = some (.int .u8 (q.o.k.toNat : Int)) := by have := B6.out.r3.cell 0; rw [HIC.out] at this; exact this
    have i1 : w6.cell? ⟨g3, 1, none⟩ = some (.int .i64 q.o.t) := by have := B6.out.r3.cell 1; rw [HIC.out] at this; exact this
    have i2 : w6.cell? ⟨g3, 2, none⟩ = some (.slice ai n ci) := by have := B6.out.r3.cell 2; rw [HIC.out] at this; exact this
    have i3 : w6.cell? ⟨g3, 3, none⟩ = some (.string (str q.o.s)) := by have := B6.out.r3.cell 3; rw [HIC.out] at this; exact this
    obtain ⟨bm, bt, ks, at_, ts, tf, hin⟩ := H6.out
    have HIN := Lib.hid hin
    clear hin
    obtain ⟨N, hN⟩ : ∃ y, y = (thAt H q.k).oid := ⟨_, rfl⟩
    rw [← hN] at HTT
    have HNN := Lib.hid hN
    clear hN
    go_wp2_with fail
    refine (oid_p HIN.out HG.out q.k HQ0.out.wk N HNN).mono ?_
    rintro e w7 ⟨rfl, hb7⟩
    clear p1 p2 p7 p8 p9 i0 i1 i2 i3
    have k7 := St.fresh hb7 (fun _ => False) col6
    obtain ⟨col7, hc7⟩ : ∃ x, x = col6 := ⟨_, rfl⟩
    rw [← hc7] at k7
    have K7 : Hid (St HQ col w col7 w7) := Lib.hid (by rw [hc7]; exact K6.out.trans (St.fresh hb7 HQ col6))
    have H7 : Hid (HpAt col7 w7 b m H') := Lib.hid (by rw [hHH, hc7]; exact H6.out.fresh hb7)
    have B7 : Hid (Bx col7 w7 w.heap.size (w.heap.size + 1) (w.heap.size + 1 + 1) g3 oc told9 ic) := Lib.hid (by rw [hc7]; exact B6.out.st (St.fresh hb7 (fun _ => False) col6) (fun h => h))
    have I7 : Hid (OwnC col7 w7 9 2 (.slice ai n ci) n (wcells q.o.l)) := Lib.hid (by rw [hc7]; exact I6.out.st (St.fresh hb7 (fun _ => False) col6) (fun h => h))
    clear k7 hc7 hb7 K6 H6 B6 I6 p0
    have hr2 := B7.out.r2
    go_wp2_with (first | (refine wpL_storeAt rfl _ _ _ rfl (v := (.int .i64 N)) rfl rfl rfl rfl (by kernel_rfl) hr2 rfl ?_; intro w71 hg71 hr71) | (refine wpL_storeAt rfl _ _ _ rfl (v := (.bool (decide (0 < N)))) rfl rfl rfl rfl (by kernel_rfl) hr71 rfl ?_; intro w8 hg8 hr8))
    have hg18 : w7.grownBy w8 (some (w.heap.size + 1 + 1)) := ⟨hg8.os.trans hg71.os, hg8.tape.trans hg71.tape, hg8.output.trans hg71.output, Nat.le_trans hg71.size hg8.size, fun i hi hn => (hg8.block i (Nat.lt_of_lt_of_le hi hg71.size) hn).trans (hg71.block i hi hn)⟩
    have hD : Dn m H' b col w w.heap.size (w.heap.size + 1) (w.heap.size + 1 + 1) g3 oc ({ told0 with n := N, is := decide (0 < N) } : Told) (.slice none 0 0) ic (.slice ai n ci) n col7 w8 q.o.l := by
      have k8 : St (fun y => y = 7) col7 w7 col7 w8 := St.one hg18 _ _ B7.out.c2
      exact ⟨K7.out.fresh1 hg18 (by omega), H7.out.st k8 (hq_ne nq7), B7.out.put hg18 hr8, I7.out.st k8 (by decide), OwnC.nil _ _ _ _⟩
    have HD := Lib.hid hD
    obtain ⟨t, ht⟩ : ∃ t, t = ({ told0 with n := N, is := decide (0 < N) } : Told) := ⟨_, rfl⟩
    obtain ⟨v, hv⟩ : ∃ v, v = Value.slice none 0 0 := ⟨_, rfl⟩
    obtain ⟨colx, hcx⟩ : ∃ x, x = col7 := ⟨_, rfl⟩
    rw [← ht, ← hv, ← hcx] at HD
    have HON : Hid ((tCells t v).all (·.oneCell') = true) := Lib.hid (by rw [ht, hv]; rfl)
    have HT : Hid (t = tell m H q) := Lib.hid (ht.trans HTT.out)
    clear hD ht hv hcx K7 H7 B7 I7
    clear hg8 hr8 hr2 hg71 hr71 hg18
    have DN := Lib.hid HD.out
    go_loopw [11] (fun v11 wr => DnR m H' b col w w.heap.size (w.heap.size + 1) (w.heap.size + 1 + 1) g3 oc t v ic (.slice ai n ci) n colx v11 wr) (fun v11 _ => n - (intOf v11).toNat)
    case atStart => exact DnR.mk 0 _ (Nat.zero_le _) rfl DN.out
    case round =>
      clear DN
      obtain ⟨i, l, hi, rfl, DN⟩ := hrel
      have p2 : wr.cell? ⟨g3, 2, none⟩ = some (.slice ai n ci) := by have := DN.out.B.r3.cell 2; rw [HIC.out] at this; exact this
      by_cases hin : i = n
      · subst hin
        have hr2 := DN.out.B.r2
        have hr1 := DN.out.B.r1
        go_wp2_with (first | refine wpL_loadRow rfl _ _ rfl rfl hr2 Try.underlying61 rfl (by kernel_rfl) ?_ | (refine wpL_storeRow rfl _ _ _ rfl (cs := tCells t v) rfl rfl hr1 (by kernel_rfl) rfl HON.out ?_; intro w9 hg9 hr9))
        (try simp only [Exit.inBlock, Exit.then])
        refine bodyPost_ret (results_cell_row Try.results31 _ _ (w.heap.size + 1) 61 _ (0, 0) _ rfl hr9 Try.underlying61 rfl (by kernel_rfl)) rfl ?_
        have k9 : St (fun y => y = 7) colx wr colx w9 := St.one hg9 _ _ DN.out.B.c1
        exact ⟨t, v, rfl, Lib.hid ⟨HT.out, colx, by rw [← HH'.out]; exact ⟨DN.out.K.fresh1 hg9 (Nat.le_succ _), DN.out.H.st k9 (hq_ne nq7), DN.out.T.st k9 (by decide)⟩⟩⟩
      have hlt : i < n := by omega
      have hlt' : (i : Int) < n := by omega
      have ho0 := DN.out.I.1
      obtain ⟨gi, oi, capi, he, _, _, _, _, hlen⟩ := ho0.open (by omega) (by decide)
      cases he
      have q0 := later_cell p2
      have HOL : Hid (l.length = n) := Lib.hid (by rw [wcells_len] at hlen; omega)
      have HGI : Hid (colx gi = 9 ∧ w.heap.size ≤ gi) := Lib.hid ⟨DN.out.I.2 gi rfl, HGI0.out gi rfl⟩
      clear ho0 hlen
      go_upto_region 37 with fail
      clear p2
      try go_frame
      refine wp_region_idx Rb Rb_refl Rb_trans [(0,0),(0,1),(0,2),(1,3),(0,4),(2,5)] (by kernel_rfl) (by kernel_rfl) (by kernel_rfl) ?_
      simp only [pickO, List.getD_cons_succ, List.getD_cons_zero]
      refine wpCan_seg 3 (by kernel_rfl) ?_
      simp only [List.take_succ_cons, List.take_zero, List.drop_succ_cons, List.drop_zero, List.map_cons, List.map_nil]
      iterate 3 (go_big_quiet_step (fail))
      refine wpQuiet_nil ?_
      clear q0
      refine wpCan_list (k := 0) (fun KK hK => ?_) (fun _ => Rb_refl _)
      go_wp2_with fail
      refine (number_any 77 wr.drew).mono ?_
      rintro e w8 ⟨rfl, hb8⟩
      go_wp2_with fail
      refine hK _ _ (fun _ => hb8) ?_
      clear hK KK
      have hb8' : Below wr.heap.size wr w8 := (Below.refl wr.heap.size wr).drew.trans hb8
      have k8 := St.fresh hb8' (fun _ => False) colx
      have D8 : Hid (Dn m H' b col w w.heap.size (w.heap.size + 1) (w.heap.size + 1 + 1) g3 oc t v ic (.slice (some ⟨gi, oi, none⟩) n ci) n colx w8 l) := Lib.hid ⟨DN.out.K.trans (k8.mono (fun _ h => h.elim)), DN.out.H.st k8 hq_false, DN.out.B.st k8 (fun h => h), DN.out.I.st k8 (fun h => h), DN.out.T.st k8 (fun h => h)⟩
      have ho8 := D8.out.I.1
      have hlen8 : i * 2 + 2 ≤ (wcells l).length := by rw [wcells_len, HOL.out]; omega
      clear hb8 hb8' k8 DN
      refine wpCan_seg 1 (by kernel_rfl) ?_
      simp only [List.take_succ_cons, List.take_zero, List.drop_succ_cons, List.drop_zero, List.map_cons, List.map_nil]
      iterate 1 (go_big_quiet_step (fail))
      refine wpQuiet_nil ?_
      refine wpCan_list (k := 1) (fun KK hK => ?_) (fun h => by cases h)
      refine wpL_storeOwnS rfl _ _ _ rfl (cs := [.int .u8 1, .int .i64 77]) rfl rfl ?_ (by kernel_rfl) ho8 (i * 2) rfl hlen8 ?_
      · intro u hu
        simp only [List.mem_cons, List.not_mem_nil, or_false] at hu
        rcases hu with rfl | rfl <;> rfl
      intro w10 hg10 ho10
      refine hK _ _ (fun h => by cases h) ?_
      clear hK KK ho8 hlen8
      unfold wpCan
      have k10 : St (fun y => y = 9) colx w8 colx w10 := St.one hg10 _ _ HGI.out.1
      have D10 := Lib.hid (DnR.mk (v11 := .int .i64 ((i + 1 : Nat) : Int)) (i + 1) (l.set i (1, 77)) hlt rfl (⟨D8.out.K.fresh1 hg10 HGI.out.2, D8.out.H.st k10 (hq_ne nq9), D8.out.B.st k10 (by decide), ⟨by rw [← wcells_set l i (1, 77) (by rw [HOL.out]; exact hlt)]; exact ho10, D8.out.I.2⟩, D8.out.T.st k10 (by decide)⟩ : Dn m H' b col w w.heap.size (w.heap.size + 1) (w.heap.size + 1 + 1) g3 oc t v ic (.slice (some ⟨gi, oi, none⟩) n ci) n colx w10 (l.set i (1, 77))))
      clear hg10 ho10 k10 D8
      go_wp2_with fail
      have e1 : ((i : Int) + 1) = ((i + 1 : Nat) : Int) := by omega
      refine ⟨by rw [e1]; exact D10.out, by simp [intOf]; omega⟩
  · rw [hK] at p0
    obtain ⟨H', hH'⟩ : ∃ x, x = doH m H q := ⟨_, rfl⟩
    have HH' := Lib.hid hH'
    have hHH : H' = H := by rw [hH', doH]; simp [hK]
    have HTT : Hid (({ told0 with n := ofH H q.i, is := decide (0 < ofH H q.i) } : Told) = tell m H q) := Lib.hid (by rw [tell]; simp [hK])
    clear hH' hK
    have p1 : w6.cell? ⟨w.heap.size, 1, none⟩ = some (.int .i64 q.k) := by have := B6.out.r0.cell 1; rw [HOC.out] at this; exact this
    have p2 : w6.cell? ⟨w.heap.size, 2, none⟩ = some (.int .i64 q.i) := by have := B6.out.r0.cell 2; rw [HOC.out] at this; exact this
    have p7 : w6.cell? ⟨w.heap.size, 7, none⟩ = some (.int .u8 (q.x.1.toNat : Int)) := by have := B6.out.r0.cell 7; rw [HOC.out] at this; exact this
    have p8 : w6.cell? ⟨w.heap.size, 8, none⟩ = some (.int .i64 q.x.2) := by have := B6.out.r0.cell 8; rw [HOC.out] at this; exact this
    have p9 : w6.cell? ⟨w.heap.size, 9, none⟩ = some (.slice aR nR cR) := by have := B6.out.r0.cell 9; rw [HOC.out] at this; exact this
    have i0 : w6.cell? ⟨g3, 0, none⟩ = some (.int .u8 (q.o.k.toNat : Int)) := by have := B6.out.r3.cell 0; rw [HIC.out] at this; exact this
    have i1 : w6.cell? ⟨g3, 1, none⟩ = some (.int .i64 q.o.t) := by have := B6.out.r3.cell 1; rw [HIC.out] at this; exact this
    have i2 : w6.cell? ⟨g3, 2, none⟩ = some (.slice ai n ci) := by have := B6.out.r3.cell 2; rw [HIC.out] at this; exact this
    have i3 : w6.cell? ⟨g3, 3, none⟩ = some (.string (str q.o.s)) := by have := B6.out.r3.cell 3; rw [HIC.out] at this; exact this
    obtain ⟨bm, bt, ks, at_, ts, tf, hin⟩ := H6.out
    have HIN := Lib.hid hin
    clear hin
    obtain ⟨N, hN⟩ : ∃ y, y = ofH H q.i := ⟨_, rfl⟩
    rw [← hN] at HTT
    have HNN := Lib.hid hN
    clear hN
    go_wp2_with fail
    refine (of_p HIN.out q.i HQ0.out.wi N HNN).mono ?_
    rintro e w7 ⟨rfl, hb7'⟩
    have hb7 : Below w6.heap.size w6 w7 := by rw [hb7']; exact Below.refl _ _
    clear hb7' p1 p2 p7 p8 p9 i0 i1 i2 i3
    have k7 := St.fresh hb7 (fun _ => False) col6
    obtain ⟨col7, hc7⟩ : ∃ x, x = col6 := ⟨_, rfl⟩
    rw [← hc7] at k7
    have K7 : Hid (St HQ col w col7 w7) := Lib.hid (by rw [hc7]; exact K6.out.trans (St.fresh hb7 HQ col6))
    have H7 : Hid (HpAt col7 w7 b m H') := Lib.hid (by rw [hHH, hc7]; exact H6.out.fresh hb7)
    have B7 : Hid (Bx col7 w7 w.heap.size (w.heap.size + 1) (w.heap.size + 1 + 1) g3 oc told9 ic) := Lib.hid (by rw [hc7]; exact B6.out.st (St.fresh hb7 (fun _ => False) col6) (fun h => h))
    have I7 : Hid (OwnC col7 w7 9 2 (.slice ai n ci) n (wcells q.o.l)) := Lib.hid (by rw [hc7]; exact I6.out.st (St.fresh hb7 (fun _ => False) col6) (fun h => h))
    clear k7 hc7 hb7 K6 H6 B6 I6 p0
    have hr2 := B7.out.r2
    go_wp2_with (first | (refine wpL_storeAt rfl _ _ _ rfl (v := (.int .i64 N)) rfl rfl rfl rfl (by kernel_rfl) hr2 rfl ?_; intro w71 hg71 hr71) | (refine wpL_storeAt rfl _ _ _ rfl (v := (.bool (decide (0 < N)))) rfl rfl rfl rfl (by kernel_rfl) hr71 rfl ?_; intro w8 hg8 hr8))
    have hg18 : w7.grownBy w8 (some (w.heap.size + 1 + 1)) := ⟨hg8.os.trans hg71.os, hg8.tape.trans hg71.tape, hg8.output.trans hg71.output, Nat.le_trans hg71.size hg8.size, fun i hi hn => (hg8.block i (Nat.lt_of_lt_of_le hi hg71.size) hn).trans (hg71.block i hi hn)⟩
    have hD : Dn m H' b col w w.heap.size (w.heap.size + 1) (w.heap.size + 1 + 1) g3 oc ({ told0 with n := N, is := decide (0 < N) } : Told) (.slice none 0 0) ic (.slice ai n ci) n col7 w8 q.o.l := by
      have k8 : St (fun y => y = 7) col7 w7 col7 w8 := St.one hg18 _ _ B7.out.c2
      exact ⟨K7.out.fresh1 hg18 (by omega), H7.out.st k8 (hq_ne nq7), B7.out.put hg18 hr8, I7.out.st k8 (by decide), OwnC.nil _ _ _ _⟩
    have HD := Lib.hid hD
    obtain ⟨t, ht⟩ : ∃ t, t = ({ told0 with n := N, is := decide (0 < N) } : Told) := ⟨_, rfl⟩
    obtain ⟨v, hv⟩ : ∃ v, v = Value.slice none 0 0 := ⟨_, rfl⟩
    obtain ⟨colx, hcx⟩ : ∃ x, x = col7 := ⟨_, rfl⟩
    rw [← ht, ← hv, ← hcx] at HD
    have HON : Hid ((tCells t v).all (·.oneCell') = true) := Lib.hid (by rw [ht, hv]; rfl)
    have HT : Hid (t = tell m H q) := Lib.hid (ht.trans HTT.out)
    clear hD ht hv hcx K7 H7 B7 I7
    clear hg8 hr8 hr2 hg71 hr71 hg18
    have DN := Lib.hid HD.out
    go_loopw [11] (fun v11 wr => DnR m H' b col w w.heap.size (w.heap.size + 1) (w.heap.size + 1 + 1) g3 oc t v ic (.slice ai n ci) n colx v11 wr) (fun v11 _ => n - (intOf v11).toNat)
    case atStart => exact DnR.mk 0 _ (Nat.zero_le _) rfl DN.out
    case round =>
      clear DN
      obtain ⟨i, l, hi, rfl, DN⟩ := hrel
      have p2 : wr.cell? ⟨g3, 2, none⟩ = some (.slice ai n ci) := by have := DN.out.B.r3.cell 2; rw [HIC.out] at this; exact this
      by_cases hin : i = n
      · subst hin
        have hr2 := DN.out.B.r2
        have hr1 := DN.out.B.r1
        go_wp2_with (first | refine wpL_loadRow rfl _ _ rfl rfl hr2 Try.underlying61 rfl (by kernel_rfl) ?_ | (refine wpL_storeRow rfl _ _ _ rfl (cs := tCells t v) rfl rfl hr1 (by kernel_rfl) rfl HON.out ?_; intro w9 hg9 hr9))
        (try simp only [Exit.inBlock, Exit.then])
        refine bodyPost_ret (results_cell_row Try.results31 _ _ (w.heap.size + 1) 61 _ (0, 0) _ rfl hr9 Try.underlying61 rfl (by kernel_rfl)) rfl ?_
        have k9 : St (fun y => y = 7) colx wr colx w9 := St.one hg9 _ _ DN.out.B.c1
        exact ⟨t, v, rfl, Lib.hid ⟨HT.out, colx, by rw [← HH'.out]; exact ⟨DN.out.K.fresh1 hg9 (Nat.le_succ _), DN.out.H.st k9 (hq_ne nq7), DN.out.T.st k9 (by decide)⟩⟩⟩
      have hlt : i < n := by omega
      have hlt' : (i : Int) < n := by omega
      have ho0 := DN.out.I.1
      obtain ⟨gi, oi, capi, he, _, _, _, _, hlen⟩ := ho0.open (by omega) (by decide)
      cases he
      have q0 := later_cell p2
      have HOL : Hid (l.length = n) := Lib.hid (by rw [wcells_len] at hlen; omega)
      have HGI : Hid (colx gi = 9 ∧ w.heap.size ≤ gi) := Lib.hid ⟨DN.out.I.2 gi rfl, HGI0.out gi rfl⟩
      clear ho0 hlen
      go_upto_region 37 with fail
      clear p2
      try go_frame
      refine wp_region_idx Rb Rb_refl Rb_trans [(0,0),(0,1),(0,2),(1,3),(0,4),(2,5)] (by kernel_rfl) (by kernel_rfl) (by kernel_rfl) ?_
      simp only [pickO, List.getD_cons_succ, List.getD_cons_zero]
      refine wpCan_seg 3 (by kernel_rfl) ?_
      simp only [List.take_succ_cons, List.take_zero, List.drop_succ_cons, List.drop_zero, List.map_cons, List.map_nil]
      iterate 3 (go_big_quiet_step (fail))
      refine wpQuiet_nil ?_
      clear q0
      refine wpCan_list (k := 0) (fun KK hK => ?_) (fun _ => Rb_refl _)
      go_wp2_with fail
      refine (number_any 77 wr.drew).mono ?_
      rintro e w8 ⟨rfl, hb8⟩
      go_wp2_with fail
      refine hK _ _ (fun _ => hb8) ?_
      clear hK KK
      have hb8' : Below wr.heap.size wr w8 := (Below.refl wr.heap.size wr).drew.trans hb8
      have k8 := St.fresh hb8' (fun _ => False) colx
      have D8 : Hid (Dn m H' b col w w.heap.size (w.heap.size + 1) (w.heap.size + 1 + 1) g3 oc t v ic (.slice (some ⟨gi, oi, none⟩) n ci) n colx w8 l) := Lib.hid ⟨DN.out.K.trans (k8.mono (fun _ h => h.elim)), DN.out.H.st k8 hq_false, DN.out.B.st k8 (fun h => h), DN.out.I.st k8 (fun h => h), DN.out.T.st k8 (fun h => h)⟩
      have ho8 := D8.out.I.1
      have hlen8 : i * 2 + 2 ≤ (wcells l).length := by rw [wcells_len, HOL.out]; omega
      clear hb8 hb8' k8 DN
      refine wpCan_seg 1 (by kernel_rfl) ?_
      simp only [List.take_succ_cons, List.take_zero, List.drop_succ_cons, List.drop_zero, List.map_cons, List.map_nil]
      iterate 1 (go_big_quiet_step (fail))
      refine wpQuiet_nil ?_
      refine wpCan_list (k := 1) (fun KK hK => ?_) (fun h => by cases h)
      refine wpL_storeOwnS rfl _ _ _ rfl (cs := [.int .u8 1, .int .i64 77]) rfl rfl ?_ (by kernel_rfl) ho8 (i * 2) rfl hlen8 ?_
      · intro u hu
        simp only [List.mem_cons, List.not_mem_nil, or_false] at hu
        rcases hu with rfl | rfl <;> rfl
      intro w10 hg10 ho10
      refine hK _ _ (fun h => by cases h) ?_
      clear hK KK ho8 hlen8
      unfold wpCan
      have k10 : St (fun y => y = 9) colx w8 colx w10 := St.one hg10 _ _ HGI.out.1
      have D10 := Lib.hid (DnR.mk (v11 := .int .i64 ((i + 1 : Nat) : Int)) (i + 1) (l.set i (1, 77)) hlt rfl (⟨D8.out.K.fresh1 hg10 HGI.out.2, D8.out.H.st k10 (hq_ne nq9), D8.out.B.st k10 (by decide), ⟨by rw [← wcells_set l i (1, 77) (by rw [HOL.out]; exact hlt)]; exact ho10, D8.out.I.2⟩, D8.out.T.st k10 (by decide)⟩ : Dn m H' b col w w.heap.size (w.heap.size + 1) (w.heap.size + 1 + 1) g3 oc t v ic (.slice (some ⟨gi, oi, none⟩) n ci) n colx w10 (l.set i (1, 77))))
      clear hg10 ho10 k10 D8
      go_wp2_with fail
      have e1 : ((i : Int) + 1) = ((i + 1 : Nat) : Int) := by omega
      refine ⟨by rw [e1]; exact D10.out, by simp [intOf]; omega⟩
  · rw [hK] at p0
    obtain ⟨H', hH'⟩ : ∃ x, x = doH m H q := ⟨_, rfl⟩
    have HH' := Lib.hid hH'
    have hHH : H' = fillH H m q.k q.o := by rw [hH', doH]; simp [hK]
    have HTT : Hid (({ told0 with e := fillE H m q.k q.o } : Told) = tell m H q) := Lib.hid (by rw [tell]; simp [hK])
    clear hH' hK
    have p1 : w6.cell? ⟨w.heap.size, 1, none⟩ = some (.int .i64 q.k) := by have := B6.out.r0.cell 1; rw [HOC.out] at this; exact this
    have p2 : w6.cell? ⟨w.heap.size, 2, none⟩ = some (.int .i64 q.i) := by have := B6.out.r0.cell 2; rw [HOC.out] at this; exact this
    have p7 : w6.cell? ⟨w.heap.size, 7, none⟩ = some (.int .u8 (q.x.1.toNat : Int)) := by have := B6.out.r0.cell 7; rw [HOC.out] at this; exact this
    have p8 : w6.cell? ⟨w.heap.size, 8, none⟩ = some (.int .i64 q.x.2) := by have := B6.out.r0.cell 8; rw [HOC.out] at this; exact this
    have p9 : w6.cell? ⟨w.heap.size, 9, none⟩ = some (.slice aR nR cR) := by have := B6.out.r0.cell 9; rw [HOC.out] at this; exact this
    have i0 : w6.cell? ⟨g3, 0, none⟩ = some (.int .u8 (q.o.k.toNat : Int)) := by have := B6.out.r3.cell 0; rw [HIC.out] at this; exact this
    have i1 : w6.cell? ⟨g3, 1, none⟩ = some (.int .i64 q.o.t) := by have := B6.out.r3.cell 1; rw [HIC.out] at this; exact this
    have i2 : w6.cell? ⟨g3, 2, none⟩ = some (.slice ai n ci) := by have := B6.out.r3.cell 2; rw [HIC.out] at this; exact this
    have i3 : w6.cell? ⟨g3, 3, none⟩ = some (.string (str q.o.s)) := by have := B6.out.r3.cell 3; rw [HIC.out] at this; exact this
    obtain ⟨bm, bt, ks, at_, ts, tf, hin⟩ := H6.out
    have HIN := Lib.hid hin
    clear hin
    obtain ⟨E, hE⟩ : ∃ y, y = fillE H m q.k q.o := ⟨_, rfl⟩
    rw [← hE] at HTT
    have HEE := Lib.hid hE
    clear hE
    go_wp2_with fail
    refine (fill_p HIN.out HG.out hm q.k HQ0.out.wk q.o ai n ci hn (by omega) (by omega) I6.out.1.sl E HEE H' (Lib.hid hHH)).mono ?_
    rintro e w7 ⟨rfl, col7, k7, h7⟩
    clear p1 p2 p7 p8 p9 i0 i1 i2 i3
    have K7 := Lib.hid (K6.out.trans k7)
    have H7 : Hid (HpAt col7 w7 b m H') := Lib.hid h7
    have B7 := Lib.hid (B6.out.st k7 nq7)
    have I7 := Lib.hid (I6.out.st k7 nq9)
    clear k7 h7 K6 H6 B6 I6 p0
    have hr2 := B7.out.r2
    go_wp2_with (refine wpL_storeAt rfl _ _ _ rfl (v := (.int .i64 E)) rfl rfl rfl rfl (by kernel_rfl) hr2 rfl ?_; intro w8 hg8 hr8)
    have hD : Dn m H' b col w w.heap.size (w.heap.size + 1) (w.heap.size + 1 + 1) g3 oc ({ told0 with e := E } : Told) (.slice none 0 0) ic (.slice ai n ci) n col7 w8 q.o.l := by
      have k8 : St (fun y => y = 7) col7 w7 col7 w8 := St.one hg8 _ _ B7.out.c2
      exact ⟨K7.out.fresh1 hg8 (by omega), H7.out.st k8 (hq_ne nq7), B7.out.put hg8 hr8, I7.out.st k8 (by decide), OwnC.nil _ _ _ _⟩
    have HD := Lib.hid hD
    obtain ⟨t, ht⟩ : ∃ t, t = ({ told0 with e := E } : Told) := ⟨_, rfl⟩
    obtain ⟨v, hv⟩ : ∃ v, v = Value.slice none 0 0 := ⟨_, rfl⟩
    obtain ⟨colx, hcx⟩ : ∃ x, x = col7 := ⟨_, rfl⟩
    rw [← ht, ← hv, ← hcx] at HD
    have HON : Hid ((tCells t v).all (·.oneCell') = true) := Lib.hid (by rw [ht, hv]; rfl)
    have HT : Hid (t = tell m H q) := Lib.hid (ht.trans HTT.out)
    clear hD ht hv hcx K7 H7 B7 I7
    clear hg8 hr8 hr2
    have DN := Lib.hid HD.out
    go_loopw [11] (fun v11 wr => DnR m H' b col w w.heap.size (w.heap.size + 1) (w.heap.size + 1 + 1) g3 oc t v ic (.slice ai n ci) n colx v11 wr) (fun v11 _ => n - (intOf v11).toNat)
    case atStart => exact DnR.mk 0 _ (Nat.zero_le _) rfl DN.out
    case round =>
      clear DN
      obtain ⟨i, l, hi, rfl, DN⟩ := hrel
      have p2 : wr.cell? ⟨g3, 2, none⟩ = some (.slice ai n ci) := by have := DN.out.B.r3.cell 2; rw [HIC.out] at this; exact this
      by_cases hin : i = n
      · subst hin
        have hr2 := DN.out.B.r2
        have hr1 := DN.out.B.r1
        go_wp2_with (first | refine wpL_loadRow rfl _ _ rfl rfl hr2 Try.underlying61 rfl (by kernel_rfl) ?_ | (refine wpL_storeRow rfl _ _ _ rfl (cs := tCells t v) rfl rfl hr1 (by kernel_rfl) rfl HON.out ?_; intro w9 hg9 hr9))
        (try simp only [Exit.inBlock, Exit.then])
        refine bodyPost_ret (results_cell_row Try.results31 _ _ (w.heap.size + 1) 61 _ (0, 0) _ rfl hr9 Try.underlying61 rfl (by kernel_rfl)) rfl ?_
        have k9 : St (fun y => y = 7) colx wr colx w9 := St.one hg9 _ _ DN.out.B.c1
        exact ⟨t, v, rfl, Lib.hid ⟨HT.out, colx, by rw [← HH'.out]; exact ⟨DN.out.K.fresh1 hg9 (Nat.le_succ _), DN.out.H.st k9 (hq_ne nq7), DN.out.T.st k9 (by decide)⟩⟩⟩
      have hlt : i < n := by omega
      have hlt' : (i : Int) < n := by omega
      have ho0 := DN.out.I.1
      obtain ⟨gi, oi, capi, he, _, _, _, _, hlen⟩ := ho0.open (by omega) (by decide)
      cases he
      have q0 := later_cell p2
      have HOL : Hid (l.length = n) := Lib.hid (by rw [wcells_len] at hlen; omega)
      have HGI : Hid (colx gi = 9 ∧ w.heap.size ≤ gi) := Lib.hid ⟨DN.out.I.2 gi rfl, HGI0.out gi rfl⟩
      clear ho0 hlen
      go_upto_region 37 with fail
      clear p2
      try go_frame
      refine wp_region_idx Rb Rb_refl Rb_trans [(0,0),(0,1),(0,2),(1,3),(0,4),(2,5)] (by kernel_rfl) (by kernel_rfl) (by kernel_rfl) ?_
      simp only [pickO, List.getD_cons_succ, List.getD_cons_zero]
      refine wpCan_seg 3 (by kernel_rfl) ?_
      simp only [List.take_succ_cons, List.take_zero, List.drop_succ_cons, List.drop_zero, List.map_cons, List.map_nil]
      iterate 3 (go_big_quiet_step (fail))
      refine wpQuiet_nil ?_
      clear q0
      refine wpCan_list (k := 0) (fun KK hK => ?_) (fun _ => Rb_refl _)
      go_wp2_with fail
      refine (number_any 77 wr.drew).mono ?_
      rintro e w8 ⟨rfl, hb8⟩
      go_wp2_with fail
      refine hK _ _ (fun _ => hb8) ?_
      clear hK KK
      have hb8' : Below wr.heap.size wr w8 := (Below.refl wr.heap.size wr).drew.trans hb8
      have k8 := St.fresh hb8' (fun _ => False) colx
      have D8 : Hid (Dn m H' b col w w.heap.size (w.heap.size + 1) (w.heap.size + 1 + 1) g3 oc t v ic (.slice (some ⟨gi, oi, none⟩) n ci) n colx w8 l) := Lib.hid ⟨DN.out.K.trans (k8.mono (fun _ h => h.elim)), DN.out.H.st k8 hq_false, DN.out.B.st k8 (fun h => h), DN.out.I.st k8 (fun h => h), DN.out.T.st k8 (fun h => h)⟩
      have ho8 := D8.out.I.1
      have hlen8 : i * 2 + 2 ≤ (wcells l).length := by rw [wcells_len, HOL.out]; omega
      clear hb8 hb8' k8 DN
      refine wpCan_seg 1 (by kernel_rfl) ?_
      simp only [List.take_succ_cons, List.take_zero, List.drop_succ_cons, List.drop_zero, List.map_cons, List.map_nil]
      iterate 1 (go_big_quiet_step (fail))
      refine wpQuiet_nil ?_
      refine wpCan_list (k := 1) (fun KK hK => ?_) (fun h => by cases h)
      refine wpL_storeOwnS rfl _ _ _ rfl (cs := [.int .u8 1, .int .i64 77]) rfl rfl ?_ (by kernel_rfl) ho8 (i * 2) rfl hlen8 ?_
      · intro u hu
        simp only [List.mem_cons, List.not_mem_nil, or_false] at hu
        rcases hu with rfl | rfl <;> rfl
      intro w10 hg10 ho10
      refine hK _ _ (fun h => by cases h) ?_
      clear hK KK ho8 hlen8
      unfold wpCan
      have k10 : St (fun y => y = 9) colx w8 colx w10 := St.one hg10 _ _ HGI.out.1
      have D10 := Lib.hid (DnR.mk (v11 := .int .i64 ((i + 1 : Nat) : Int)) (i + 1) (l.set i (1, 77)) hlt rfl (⟨D8.out.K.fresh1 hg10 HGI.out.2, D8.out.H.st k10 (hq_ne nq9), D8.out.B.st k10 (by decide), ⟨by rw [← wcells_set l i (1, 77) (by rw [HOL.out]; exact hlt)]; exact ho10, D8.out.I.2⟩, D8.out.T.st k10 (by decide)⟩ : Dn m H' b col w w.heap.size (w.heap.size + 1) (w.heap.size + 1 + 1) g3 oc t v ic (.slice (some ⟨gi, oi, none⟩) n ci) n colx w10 (l.set i (1, 77))))
      clear hg10 ho10 k10 D8
      go_wp2_with fail
      have e1 : ((i : Int) + 1) = ((i + 1 : Nat) : Int) := by omega
      refine ⟨by rw [e1]; exact D10.out, by simp [intOf]; omega⟩
  · rw [hK] at p0
    obtain ⟨H', hH'⟩ : ∃ x, x = doH m H q := ⟨_, rfl⟩
    have HH' := Lib.hid hH'
    have hHH : H' = cleanH H q.k := by rw [hH', doH]; simp [hK]
    have HTT : Hid (({ told0 with is := (thAt H q.k).dirty } : Told) = tell m H q) := Lib.hid (by rw [tell]; simp [hK])
    clear hH' hK
    have p1 : w6.cell? ⟨w.heap.size, 1, none⟩ = some (.int .i64 q.k) := by have := B6.out.r0.cell 1; rw [HOC.out] at this; exact this
    have p2 : w6.cell? ⟨w.heap.size, 2, none⟩ = some (.int .i64 q.i) := by have := B6.out.r0.cell 2; rw [HOC.out] at this; exact this
    have p7 : w6.cell? ⟨w.heap.size, 7, none⟩ = some (.int .u8 (q.x.1.toNat : Int)) := by have := B6.out.r0.cell 7; rw [HOC.out] at this; exact this
    have p8 : w6.cell? ⟨w.heap.size, 8, none⟩ = some (.int .i64 q.x.2) := by have := B6.out.r0.cell 8; rw [HOC.out] at this; exact this
    have p9 : w6.cell? ⟨w.heap.size, 9, none⟩ = some (.slice aR nR cR) := by have := B6.out.r0.cell 9; rw [HOC.out] at this; exact this
    have i0 : w6.cell? ⟨g3, 0, none⟩ = some (.int .u8 (q.o.k.toNat : Int)) := by have := B6.out.r3.cell 0; rw [HIC.out] at this; exact this
    have i1 : w6.cell? ⟨g3, 1, none⟩ = some (.int .i64 q.o.t) := by have := B6.out.r3.cell 1; rw [HIC.out] at this; exact this
    have i2 : w6.cell? ⟨g3, 2, none⟩ = some (.slice ai n ci) := by have := B6.out.r3.cell 2; rw [HIC.out] at this; exact this
    have i3 : w6.cell? ⟨g3, 3, none⟩ = some (.string (str q.o.s)) := by have := B6.out.r3.cell 3; rw [HIC.out] at this; exact this
    obtain ⟨bm, bt, ks, at_, ts, tf, hin⟩ := H6.out
    have HIN := Lib.hid hin
    clear hin
    obtain ⟨B, hB⟩ : ∃ y, y = (thAt H q.k).dirty := ⟨_, rfl⟩
    rw [← hB] at HTT
    have HBB := Lib.hid hB
    clear hB
    go_wp2_with fail
    refine (clean_p HIN.out HG.out q.k HQ0.out.wk B HBB H' (Lib.hid hHH)).mono ?_
    rintro e w7 ⟨rfl, col7, k7, h7⟩
    clear p1 p2 p7 p8 p9 i0 i1 i2 i3
    have K7 := Lib.hid (K6.out.trans k7)
    have H7 : Hid (HpAt col7 w7 b m H') := Lib.hid h7
    have B7 := Lib.hid (B6.out.st k7 nq7)
    have I7 := Lib.hid (I6.out.st k7 nq9)
    clear k7 h7 K6 H6 B6 I6 p0
    have hr2 := B7.out.r2
    go_wp2_with (refine wpL_storeAt rfl _ _ _ rfl (v := (.bool B)) rfl rfl rfl rfl (by kernel_rfl) hr2 rfl ?_; intro w8 hg8 hr8)
    have hD : Dn m H' b col w w.heap.size (w.heap.size + 1) (w.heap.size + 1 + 1) g3 oc ({ told0 with is := B } : Told) (.slice none 0 0) ic (.slice ai n ci) n col7 w8 q.o.l := by
      have k8 : St (fun y => y = 7) col7 w7 col7 w8 := St.one hg8 _ _ B7.out.c2
      exact ⟨K7.out.fresh1 hg8 (by omega), H7.out.st k8 (hq_ne nq7), B7.out.put hg8 hr8, I7.out.st k8 (by decide), OwnC.nil _ _ _ _⟩
    have HD := Lib.hid hD
    obtain ⟨t, ht⟩ : ∃ t, t = ({ told0 with is := B } : Told) := ⟨_, rfl⟩
    obtain ⟨v, hv⟩ : ∃ v, v = Value.slice none 0 0 := ⟨_, rfl⟩
    obtain ⟨colx, hcx⟩ : ∃ x, x = col7 := ⟨_, rfl⟩
    rw [← ht, ← hv, ← hcx] at HD
    have HON : Hid ((tCells t v).all (·.oneCell') = true) := Lib.hid (by rw [ht, hv]; rfl)
    have HT : Hid (t = tell m H q) := Lib.hid (ht.trans HTT.out)
    clear hD ht hv hcx K7 H7 B7 I7
    clear hg8 hr8 hr2
    have DN := Lib.hid HD.out
    go_loopw [11] (fun v11 wr => DnR m H' b col w w.heap.size (w.heap.size + 1) (w.heap.size + 1 + 1) g3 oc t v ic (.slice ai n ci) n colx v11 wr) (fun v11 _ => n - (intOf v11).toNat)
    case atStart => exact DnR.mk 0 _ (Nat.zero_le _) rfl DN.out
    case round =>
      clear DN
      obtain ⟨i, l, hi, rfl, DN⟩ := hrel
      have p2 : wr.cell? ⟨g3, 2, none⟩ = some (.slice ai n ci) := by have := DN.out.B.r3.cell 2; rw [HIC.out] at this; exact this
      by_cases hin : i = n
      · subst hin
        have hr2 := DN.out.B.r2
        have hr1 := DN.out.B.r1
        go_wp2_with (first | refine wpL_loadRow rfl _ _ rfl rfl hr2 Try.underlying61 rfl (by kernel_rfl) ?_ | (refine wpL_storeRow rfl _ _ _ rfl (cs := tCells t v) rfl rfl hr1 (by kernel_rfl) rfl HON.out ?_; intro w9 hg9 hr9))
        (try simp only [Exit.inBlock, Exit.then])
        refine bodyPost_ret (results_cell_row Try.results31 _ _ (w.heap.size + 1) 61 _ (0, 0) _ rfl hr9 Try.underlying61 rfl (by kernel_rfl)) rfl ?_
        have k9 : St (fun y => y = 7) colx wr colx w9 := St.one hg9 _ _ DN.out.B.c1
        exact ⟨t, v, rfl, Lib.hid ⟨HT.out, colx, by rw [← HH'.out]; exact ⟨DN.out.K.fresh1 hg9 (Nat.le_succ _), DN.out.H.st k9 (hq_ne nq7), DN.out.T.st k9 (by decide)⟩⟩⟩
      have hlt : i < n := by omega
      have hlt' : (i : Int) < n := by omega
      have ho0 := DN.out.I.1
      obtain ⟨gi, oi, capi, he, _, _, _, _, hlen⟩ := ho0.open (by omega) (by decide)
      cases he
      have q0 := later_cell p2
      have HOL : Hid (l.length = n) := Lib.hid (by rw [wcells_len] at hlen; omega)
      have HGI : Hid (colx gi = 9 ∧ w.heap.size ≤ gi) := Lib.hid ⟨DN.out.I.2 gi rfl, HGI0.out gi rfl⟩
      clear ho0 hlen
      go_upto_region 37 with fail
      clear p2
      try go_frame
      refine wp_region_idx Rb Rb_refl Rb_trans [(0,0),(0,1),(0,2),(1,3),(0,4),(2,5)] (by kernel_rfl) (by kernel_rfl) (by kernel_rfl) ?_
      simp only [pickO, List.getD_cons_succ, List.getD_cons_zero]
      refine wpCan_seg 3 (by kernel_rfl) ?_
      simp only [List.take_succ_cons, List.take_zero, List.drop_succ_cons, List.drop_zero, List.map_cons, List.map_nil]
      iterate 3 (go_big_quiet_step (fail))
      refine wpQuiet_nil ?_
      clear q0
      refine wpCan_list (k := 0) (fun KK hK => ?_) (fun _ => Rb_refl _)
      go_wp2_with fail
      refine (number_any 77 wr.drew).mono ?_
      rintro e w8 ⟨rfl, hb8⟩
      go_wp2_with fail
      refine hK _ _ (fun _ => hb8) ?_
      clear hK KK
      have hb8' : Below wr.heap.size wr w8 := (Below.refl wr.heap.size wr).drew.trans hb8
      have k8 := St.fresh hb8' (fun _ => False) colx
      have D8 : Hid (Dn m H' b col w w.heap.size (w.heap.size + 1) (w.heap.size + 1 + 1) g3 oc t v ic (.slice (some ⟨gi, oi, none⟩) n ci) n colx w8 l) := Lib.hid ⟨DN.out.K.trans (k8.mono (fun _ h => h.elim)), DN.out.H.st k8 hq_false, DN.out.B.st k8 (fun h => h), DN.out.I.st k8 (fun h => h), DN.out.T.st k8 (fun h => h)⟩
      have ho8 := D8.out.I.1
      have hlen8 : i * 2 + 2 ≤ (wcells l).length := by rw [wcells_len, HOL.out]; omega
      clear hb8 hb8' k8 DN
      refine wpCan_seg 1 (by kernel_rfl) ?_
      simp only [List.take_succ_cons, List.take_zero, List.drop_succ_cons, List.drop_zero, List.map_cons, List.map_nil]
      iterate 1 (go_big_quiet_step (fail))
      refine wpQuiet_nil ?_
      refine wpCan_list (k := 1) (fun KK hK => ?_) (fun h => by cases h)
      refine wpL_storeOwnS rfl _ _ _ rfl (cs := [.int .u8 1, .int .i64 77]) rfl rfl ?_ (by kernel_rfl) ho8 (i * 2) rfl hlen8 ?_
      · intro u hu
        simp only [List.mem_cons, List.not_mem_nil, or_false] at hu
        rcases hu with rfl | rfl <;> rfl
      intro w10 hg10 ho10
      refine hK _ _ (fun h => by cases h) ?_
      clear hK KK ho8 hlen8
      unfold wpCan
      have k10 : St (fun y => y = 9) colx w8 colx w10 := St.one hg10 _ _ HGI.out.1
      have D10 := Lib.hid (DnR.mk (v11 := .int .i64 ((i + 1 : Nat) : Int)) (i + 1) (l.set i (1, 77)) hlt rfl (⟨D8.out.K.fresh1 hg10 HGI.out.2, D8.out.H.st k10 (hq_ne nq9), D8.out.B.st k10 (by decide), ⟨by rw [← wcells_set l i (1, 77) (by rw [HOL.out]; exact hlt)]; exact ho10, D8.out.I.2⟩, D8.out.T.st k10 (by decide)⟩ : Dn m H' b col w w.heap.size (w.heap.size + 1) (w.heap.size + 1 + 1) g3 oc t v ic (.slice (some ⟨gi, oi, none⟩) n ci) n colx w10 (l.set i (1, 77))))
      clear hg10 ho10 k10 D8
      go_wp2_with fail
      have e1 : ((i : Int) + 1) = ((i + 1 : Nat) : Int) := by omega
      refine ⟨by rw [e1]; exact D10.out, by simp [intOf]; omega⟩
  · rw [hK] at p0
    obtain ⟨H', hH'⟩ : ∃ x, x = doH m H q := ⟨_, rfl⟩
    have HH' := Lib.hid hH'
    have hHH : H' = collectH H q.R := by rw [hH', doH]; simp [hK]
    have HTT : Hid (({ told0 with n := (countH H : Int) - (countH (collectH H q.R) : Int) } : Told) = tell m H q) := Lib.hid (by rw [tell]; simp [hK])
    clear hH' hK
    have p1 : w6.cell? ⟨w.heap.size, 1, none⟩ = some (.int .i64 q.k) := by have := B6.out.r0.cell 1; rw [HOC.out] at this; exact this
    have p2 : w6.cell? ⟨w.heap.size, 2, none⟩ = some (.int .i64 q.i) := by have := B6.out.r0.cell 2; rw [HOC.out] at this; exact this
    have p7 : w6.cell? ⟨w.heap.size, 7, none⟩ = some (.int .u8 (q.x.1.toNat : Int)) := by have := B6.out.r0.cell 7; rw [HOC.out] at this; exact this
    have p8 : w6.cell? ⟨w.heap.size, 8, none⟩ = some (.int .i64 q.x.2) := by have := B6.out.r0.cell 8; rw [HOC.out] at this; exact this
    have p9 : w6.cell? ⟨w.heap.size, 9, none⟩ = some (.slice aR nR cR) := by have := B6.out.r0.cell 9; rw [HOC.out] at this; exact this
    have i0 : w6.cell? ⟨g3, 0, none⟩ = some (.int .u8 (q.o.k.toNat : Int)) := by have := B6.out.r3.cell 0; rw [HIC.out] at this; exact this
    have i1 : w6.cell? ⟨g3, 1, none⟩ = some (.int .i64 q.o.t) := by have := B6.out.r3.cell 1; rw [HIC.out] at this; exact this
    have i2 : w6.cell? ⟨g3, 2, none⟩ = some (.slice ai n ci) := by have := B6.out.r3.cell 2; rw [HIC.out] at this; exact this
    have i3 : w6.cell? ⟨g3, 3, none⟩ = some (.string (str q.o.s)) := by have := B6.out.r3.cell 3; rw [HIC.out] at this; exact this
    obtain ⟨bm, bt, ks, at_, ts, tf, hin⟩ := H6.out
    have HIN := Lib.hid hin
    clear hin
    rw [← hHH] at HTT
    obtain ⟨N, hN⟩ : ∃ y, y = (countH H : Int) - (countH H' : Int) := ⟨_, rfl⟩
    rw [← hN] at HTT
    have HNN := Lib.hid hN
    have hslR := HQ0.out.slR.below HBW.out
    clear hN
    go_wp2_with (at_builtin; refine wpL_appendN etI rfl _ _ rfl w6.heap.size rfl hslR rfl (ints_one _) (by omega) (by simp [maxLen]; omega) (Nat.le_refl _) ?_; intro v65 w65 ho65 hb65; obtain ⟨a65, c65, rfl⟩ := ho65.form)
    have HHH := Lib.hid hHH
    have HB65 := Lib.hid hb65
    have HS65 := Lib.hid ho65.sl
    clear hslR hHH hb65 ho65
    refine (collect_p (HIN.out.fresh HB65.out) HG.out hm (by omega) HWF.out q.R a65 nR c65 HS65.out HQ0.out.wR (by omega) H' HHH N HNN).mono ?_
    rintro e w7 ⟨rfl, col7, k7', h7⟩
    have k7 : St HQ col6 w6 col7 w7 := (St.fresh HB65.out HQ col6).trans k7'
    clear p1 p2 p7 p8 p9 i0 i1 i2 i3 k7'
    have K7 := Lib.hid (K6.out.trans k7)
    have H7 : Hid (HpAt col7 w7 b m H') := Lib.hid h7
    have B7 := Lib.hid (B6.out.st k7 nq7)
    have I7 := Lib.hid (I6.out.st k7 nq9)
    clear k7 h7 K6 H6 B6 I6 p0
    have hr2 := B7.out.r2
    go_wp2_with (refine wpL_storeAt rfl _ _ _ rfl (v := (.int .i64 N)) rfl rfl rfl rfl (by kernel_rfl) hr2 rfl ?_; intro w8 hg8 hr8)
    have hD : Dn m H' b col w w.heap.size (w.heap.size + 1) (w.heap.size + 1 + 1) g3 oc ({ told0 with n := N } : Told) (.slice none 0 0) ic (.slice ai n ci) n col7 w8 q.o.l := by
      have k8 : St (fun y => y = 7) col7 w7 col7 w8 := St.one hg8 _ _ B7.out.c2
      exact ⟨K7.out.fresh1 hg8 (by omega), H7.out.st k8 (hq_ne nq7), B7.out.put hg8 hr8, I7.out.st k8 (by decide), OwnC.nil _ _ _ _⟩
    have HD := Lib.hid hD
    obtain ⟨t, ht⟩ : ∃ t, t = ({ told0 with n := N } : Told) := ⟨_, rfl⟩
    obtain ⟨v, hv⟩ : ∃ v, v = Value.slice none 0 0 := ⟨_, rfl⟩
    obtain ⟨colx, hcx⟩ : ∃ x, x = col7 := ⟨_, rfl⟩
    rw [← ht, ← hv, ← hcx] at HD
    have HON : Hid ((tCells t v).all (·.oneCell') = true) := Lib.hid (by rw [ht, hv]; rfl)
    have HT : Hid (t = tell m H q) := Lib.hid (ht.trans HTT.out)
    clear hD ht hv hcx K7 H7 B7 I7
    clear hg8 hr8 hr2
    have DN := Lib.hid HD.out
    go_loopw [11] (fun v11 wr => DnR m H' b col w w.heap.size (w.heap.size + 1) (w.heap.size + 1 + 1) g3 oc t v ic (.slice ai n ci) n colx v11 wr) (fun v11 _ => n - (intOf v11).toNat)
    case atStart => exact DnR.mk 0 _ (Nat.zero_le _) rfl DN.out
    case round =>
      clear DN
      obtain ⟨i, l, hi, rfl, DN⟩ := hrel
      have p2 : wr.cell? ⟨g3, 2, none⟩ = some (.slice ai n ci) := by have := DN.out.B.r3.cell 2; rw [HIC.out] at this; exact this
      by_cases hin : i = n
      · subst hin
        have hr2 := DN.out.B.r2
        have hr1 := DN.out.B.r1
        go_wp2_with (first | refine wpL_loadRow rfl _ _ rfl rfl hr2 Try.underlying61 rfl (by kernel_rfl) ?_ | (refine wpL_storeRow rfl _ _ _ rfl (cs := tCells t v) rfl rfl hr1 (by kernel_rfl) rfl HON.out ?_; intro w9 hg9 hr9))
        (try simp only [Exit.inBlock, Exit.then])
        refine bodyPost_ret (results_cell_row Try.results31 _ _ (w.heap.size + 1) 61 _ (0, 0) _ rfl hr9 Try.underlying61 rfl (by kernel_rfl)) rfl ?_
        have k9 : St (fun y => y = 7) colx wr colx w9 := St.one hg9 _ _ DN.out.B.c1
        exact ⟨t, v, rfl, Lib.hid ⟨HT.out, colx, by rw [← HH'.out]; exact ⟨DN.out.K.fresh1 hg9 (Nat.le_succ _), DN.out.H.st k9 (hq_ne nq7), DN.out.T.st k9 (by decide)⟩⟩⟩
      have hlt : i < n := by omega
      have hlt' : (i : Int) < n := by omega
      have ho0 := DN.out.I.1
      obtain ⟨gi, oi, capi, he, _, _, _, _, hlen⟩ := ho0.open (by omega) (by decide)
      cases he
      have q0 := later_cell p2
      have HOL : Hid (l.length = n) := Lib.hid (by rw [wcells_len] at hlen; omega)
      have HGI : Hid (colx gi = 9 ∧ w.heap.size ≤ gi) := Lib.hid ⟨DN.out.I.2 gi rfl, HGI0.out gi rfl⟩
      clear ho0 hlen
      go_upto_region 37 with fail
      clear p2
      try go_frame
      refine wp_region_idx Rb Rb_refl Rb_trans [(0,0),(0,1),(0,2),(1,3),(0,4),(2,5)] (by kernel_rfl) (by kernel_rfl) (by kernel_rfl) ?_
      simp only [pickO, List.getD_cons_succ, List.getD_cons_zero]
      refine wpCan_seg 3 (by kernel_rfl) ?_
      simp only [List.take_succ_cons, List.take_zero, List.drop_succ_cons, List.drop_zero, List.map_cons, List.map_nil]
      iterate 3 (go_big_quiet_step (fail))
      refine wpQuiet_nil ?_
      clear q0
      refine wpCan_list (k := 0) (fun KK hK => ?_) (fun _ => Rb_refl _)
      go_wp2_with fail
      refine (number_any 77 wr.drew).mono ?_
      rintro e w8 ⟨rfl, hb8⟩
      go_wp2_with fail
      refine hK _ _ (fun _ => hb8) ?_
      clear hK KK
      have hb8' : Below wr.heap.size wr w8 := (Below.refl wr.heap.size wr).drew.trans hb8
      have k8 := St.fresh hb8' (fun _ => False) colx
      have D8 : Hid (Dn m H' b col w w.heap.size (w.heap.size + 1) (w.heap.size + 1 + 1) g3 oc t v ic (.slice (some ⟨gi, oi, none⟩) n ci) n colx w8 l) := Lib.hid ⟨DN.out.K.trans (k8.mono (fun _ h => h.elim)), DN.out.H.st k8 hq_false, DN.out.B.st k8 (fun h => h), DN.out.I.st k8 (fun h => h), DN.out.T.st k8 (fun h => h)⟩
      have ho8 := D8.out.I.1
      have hlen8 : i * 2 + 2 ≤ (wcells l).length := by rw [wcells_len, HOL.out]; omega
      clear hb8 hb8' k8 DN
      refine wpCan_seg 1 (by kernel_rfl) ?_
      simp only [List.take_succ_cons, List.take_zero, List.drop_succ_cons, List.drop_zero, List.map_cons, List.map_nil]
      iterate 1 (go_big_quiet_step (fail))
      refine wpQuiet_nil ?_
      refine wpCan_list (k := 1) (fun KK hK => ?_) (fun h => by cases h)
      refine wpL_storeOwnS rfl _ _ _ rfl (cs := [.int .u8 1, .int .i64 77]) rfl rfl ?_ (by kernel_rfl) ho8 (i * 2) rfl hlen8 ?_
      · intro u hu
        simp only [List.mem_cons, List.not_mem_nil, or_false] at hu
        rcases hu with rfl | rfl <;> rfl
      intro w10 hg10 ho10
      refine hK _ _ (fun h => by cases h) ?_
      clear hK KK ho8 hlen8
      unfold wpCan
      have k10 : St (fun y => y = 9) colx w8 colx w10 := St.one hg10 _ _ HGI.out.1
      have D10 := Lib.hid (DnR.mk (v11 := .int .i64 ((i + 1 : Nat) : Int)) (i + 1) (l.set i (1, 77)) hlt rfl (⟨D8.out.K.fresh1 hg10 HGI.out.2, D8.out.H.st k10 (hq_ne nq9), D8.out.B.st k10 (by decide), ⟨by rw [← wcells_set l i (1, 77) (by rw [HOL.out]; exact hlt)]; exact ho10, D8.out.I.2⟩, D8.out.T.st k10 (by decide)⟩ : Dn m H' b col w w.heap.size (w.heap.size + 1) (w.heap.size + 1 + 1) g3 oc t v ic (.slice (some ⟨gi, oi, none⟩) n ci) n colx w10 (l.set i (1, 77))))
      clear hg10 ho10 k10 D8
      go_wp2_with fail
      have e1 : ((i : Int) + 1) = ((i + 1 : Nat) : Int) := by omega
      refine ⟨by rw [e1]; exact D10.out, by simp [intOf]; omega⟩
  · obtain ⟨t, ht⟩ : ∃ t, t = told0 := ⟨_, rfl⟩
    have HT : Hid (t = tell m H q) := Lib.hid (by rw [ht, tell]; simp [hKK])
    obtain ⟨H', hH'⟩ : ∃ x, x = doH m H q := ⟨_, rfl⟩
    have HH' := Lib.hid hH'
    have hHH : H' = H := by rw [hH', doH]; simp [hKK]
    obtain ⟨v, hv⟩ : ∃ v, v = Value.slice none 0 0 := ⟨_, rfl⟩
    obtain ⟨colx, hcx⟩ : ∃ x, x = col6 := ⟨_, rfl⟩
    have HON : Hid ((tCells t v).all (·.oneCell') = true) := Lib.hid (by rw [ht, hv]; rfl)
    have hD : Dn m H' b col w w.heap.size (w.heap.size + 1) (w.heap.size + 1 + 1) g3 oc t v ic (.slice ai n ci) n colx w6 q.o.l := by
      rw [hcx, hHH, hv, ht]
      exact ⟨K6.out, H6.out, B6.out, I6.out, OwnC.nil _ _ _ _⟩
    clear hKK hHH hH' hcx ht hv
    go_wp2_with fail
    have DN := Lib.hid hD
    go_loopw [11] (fun v11 wr => DnR m H' b col w w.heap.size (w.heap.size + 1) (w.heap.size + 1 + 1) g3 oc t v ic (.slice ai n ci) n colx v11 wr) (fun v11 _ => n - (intOf v11).toNat)
    case atStart => exact DnR.mk 0 _ (Nat.zero_le _) rfl DN.out
    case round =>
      clear DN
      obtain ⟨i, l, hi, rfl, DN⟩ := hrel
      have p2 : wr.cell? ⟨g3, 2, none⟩ = some (.slice ai n ci) := by have := DN.out.B.r3.cell 2; rw [HIC.out] at this; exact this
      by_cases hin : i = n
      · subst hin
        have hr2 := DN.out.B.r2
        have hr1 := DN.out.B.r1
        go_wp2_with (first | refine wpL_loadRow rfl _ _ rfl rfl hr2 Try.underlying61 rfl (by kernel_rfl) ?_ | (refine wpL_storeRow rfl _ _ _ rfl (cs := tCells t v) rfl rfl hr1 (by kernel_rfl) rfl HON.out ?_; intro w9 hg9 hr9))
        (try simp only [Exit.inBlock, Exit.then])
        refine bodyPost_ret (results_cell_row Try.results31 _ _ (w.heap.size + 1) 61 _ (0, 0) _ rfl hr9 Try.underlying61 rfl (by kernel_rfl)) rfl ?_
        have k9 : St (fun y => y = 7) colx wr colx w9 := St.one hg9 _ _ DN.out.B.c1
        exact ⟨t, v, rfl, Lib.hid ⟨HT.out, colx, by rw [← HH'.out]; exact ⟨DN.out.K.fresh1 hg9 (Nat.le_succ _), DN.out.H.st k9 (hq_ne nq7), DN.out.T.st k9 (by decide)⟩⟩⟩
      have hlt : i < n := by omega
      have hlt' : (i : Int) < n := by omega
      have ho0 := DN.out.I.1
      obtain ⟨gi, oi, capi, he, _, _, _, _, hlen⟩ := ho0.open (by omega) (by decide)
      cases he
      have q0 := later_cell p2
      have HOL : Hid (l.length = n) := Lib.hid (by rw [wcells_len] at hlen; omega)
      have HGI : Hid (colx gi = 9 ∧ w.heap.size ≤ gi) := Lib.hid ⟨DN.out.I.2 gi rfl, HGI0.out gi rfl⟩
      clear ho0 hlen
      go_upto_region 37 with fail
      clear p2
      try go_frame
      refine wp_region_idx Rb Rb_refl Rb_trans [(0,0),(0,1),(0,2),(1,3),(0,4),(2,5)] (by kernel_rfl) (by kernel_rfl) (by kernel_rfl) ?_
      simp only [pickO, List.getD_cons_succ, List.getD_cons_zero]
      refine wpCan_seg 3 (by kernel_rfl) ?_
      simp only [List.take_succ_cons, List.take_zero, List.drop_succ_cons, List.drop_zero, List.map_cons, List.map_nil]
      iterate 3 (go_big_quiet_step (fail))
      refine wpQuiet_nil ?_
      clear q0
      refine wpCan_list (k := 0) (fun KK hK => ?_) (fun _ => Rb_refl _)
      go_wp2_with fail
      refine (number_any 77 wr.drew).mono ?_
      rintro e w8 ⟨rfl, hb8⟩
      go_wp2_with fail
      refine hK _ _ (fun _ => hb8) ?_
      clear hK KK
      have hb8' : Below wr.heap.size wr w8 := (Below.refl wr.heap.size wr).drew.trans hb8
      have k8 := St.fresh hb8' (fun _ => False) colx
      have D8 : Hid (Dn m H' b col w w.heap.size (w.heap.size + 1) (w.heap.size + 1 + 1) g3 oc t v ic (.slice (some ⟨gi, oi, none⟩) n ci) n colx w8 l) := Lib.hid ⟨DN.out.K.trans (k8.mono (fun _ h => h.elim)), DN.out.H.st k8 hq_false, DN.out.B.st k8 (fun h => h), DN.out.I.st k8 (fun h => h), DN.out.T.st k8 (fun h => h)⟩
      have ho8 := D8.out.I.1
      have hlen8 : i * 2 + 2 ≤ (wcells l).length := by rw [wcells_len, HOL.out]; omega
      clear hb8 hb8' k8 DN
      refine wpCan_seg 1 (by kernel_rfl) ?_
      simp only [List.take_succ_cons, List.take_zero, List.drop_succ_cons, List.drop_zero, List.map_cons, List.map_nil]
      iterate 1 (go_big_quiet_step (fail))
      refine wpQuiet_nil ?_
      refine wpCan_list (k := 1) (fun KK hK => ?_) (fun h => by cases h)
      refine wpL_storeOwnS rfl _ _ _ rfl (cs := [.int .u8 1, .int .i64 77]) rfl rfl ?_ (by kernel_rfl) ho8 (i * 2) rfl hlen8 ?_
      · intro u hu
        simp only [List.mem_cons, List.not_mem_nil, or_false] at hu
        rcases hu with rfl | rfl <;> rfl
      intro w10 hg10 ho10
      refine hK _ _ (fun h => by cases h) ?_
      clear hK KK ho8 hlen8
      unfold wpCan
      have k10 : St (fun y => y = 9) colx w8 colx w10 := St.one hg10 _ _ HGI.out.1
      have D10 := Lib.hid (DnR.mk (v11 := .int .i64 ((i + 1 : Nat) : Int)) (i + 1) (l.set i (1, 77)) hlt rfl (⟨D8.out.K.fresh1 hg10 HGI.out.2, D8.out.H.st k10 (hq_ne nq9), D8.out.B.st k10 (by decide), ⟨by rw [← wcells_set l i (1, 77) (by rw [HOL.out]; exact hlt)]; exact ho10, D8.out.I.2⟩, D8.out.T.st k10 (by decide)⟩ : Dn m H' b col w w.heap.size (w.heap.size + 1) (w.heap.size + 1 + 1) g3 oc t v ic (.slice (some ⟨gi, oi, none⟩) n ci) n colx w10 (l.set i (1, 77))))
      clear hg10 ho10 k10 D8
      go_wp2_with fail
      have e1 : ((i : Int) + 1) = ((i + 1 : Nat) : Int) := by omega
      refine ⟨by rw [e1]; exact D10.out, by simp [intOf]; omega⟩
end Go.Proofs.Ytekmgffjdheifaa
