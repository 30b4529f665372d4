/-
  Law 24's 'meant', walked. Conditions: the document's heap reads as one; what is done reads, and is small.
-/
import Derived.Test.YtekmgffjdheifaaHqV
namespace Go.Proofs.Ytekmgffjdheifaa
open Go Go.RowKit
set_option linter.unusedVariables false
set_option linter.unusedSimpArgs false
set_option maxRecDepth 100000

theorem rq7 : ¬ RQ 7 := fun h => by rcases h with h | h <;> omega
theorem rq_false : ∀ x, RQ x → ¬ (fun _ : Nat => False) x := fun _ _ h => h
structure Mx (col : Nat → Nat) (w : World) (g0 g1 g2 : Nat) (o x : List Value) : Prop where
  r0 : Row w g0 64 o
  r1 : Row w g1 61 told9
  r2 : Row w g2 61 x
  c0 : col g0 = 7
  c1 : col g1 = 7
  c2 : col g2 = 7
  n12 : g1 ≠ g2
theorem Mx.st {col col' : Nat → Nat} {w w' : World} {g0 g1 g2 : Nat} {o x : List Value} {Q : Nat → Prop} (h : Mx col w g0 g1 g2 o x) (k : St Q col w col' w') (h7 : ¬ Q 7) : Mx col' w' g0 g1 g2 o x :=
  ⟨h.r0.mods k.mods (by rw [h.c0]; exact h7), h.r1.mods k.mods (by rw [h.c1]; exact h7), h.r2.mods k.mods (by rw [h.c2]; exact h7), (k.ext _ h.r0.lt).trans h.c0, (k.ext _ h.r1.lt).trans h.c1, (k.ext _ h.r2.lt).trans h.c2, h.n12⟩
def MeantP (m : Nat) (H : List Th) (q : Opn) (col : Nat → Nat) (w : World) (r : Nat) (e : Ending) (w' : World) : Prop :=
  ∃ t v, e = .returned (.agg (tCells t v).toArray) ∧ Hid (t = tell m H q ∧ ∃ col', St RQ col w col' w' ∧ RfAt col' w' r m (doH m H q) ∧ Sl w' 2 v t.o.l.length (wcells t.o.l))
set_option maxHeartbeats 16000000 in
theorem meant_p {col : Nat → Nat} {w : World} {r m : Nat} {H : List Th} (h : RfAt col w r m H) (hg : Good H m) (hm : m ≤ 16777216) (hlen9 : H.length ≤ 100000) (hwf : WfH H) (q : Opn) (oc : List Value) (a : Option Addr) (n c : Nat) (aR : Option Addr) (nR cR : Nat)
    (hq : OpIn w oc q a n c aR nR cR) (hsm : totO q ≤ 16384) : Calls Try.prog 36 #[.pointer (some ⟨r, 0, none⟩), .agg oc.toArray] w (MeantP m H q col w r) := by
  obtain ⟨cs2, hob⟩ := hq.ob
  have hn := hob.len
  have hn9 : n ≤ 16384 := by unfold totO at hsm; omega
  have hnR9 : nR ≤ 16384 := by have := hq.lenR; unfold totO at hsm; omega
  have hs9 : q.o.s.length ≤ 16384 := by unfold totO at hsm; omega
  have hoc := hq.cs
  obtain ⟨w6, hw3⟩ : ∃ x, x = ((w.alloc (.cells oc.toArray 64)).alloc (.cells told9.toArray 61)).alloc (.cells told9.toArray 61) := ⟨_, rfl⟩
  have hb3 : Below w.heap.size w w6 := by rw [hw3]; exact (((Below.refl _ _).alloc (Nat.le_refl _) _).alloc (by simp) _).alloc (by simp; omega) _
  have hr0 : Row w6 w.heap.size 64 oc := by rw [hw3]; exact ((Row.new w oc 64).alloc _).alloc _
  have hr1 : Row w6 (w.heap.size + 1) 61 told9 := by
    rw [hw3]
    have := Row.new (w.alloc (.cells oc.toArray 64)) told9 61
    rw [World.size_alloc] at this
    exact this.alloc _
  have hr2 : Row w6 (w.heap.size + 1 + 1) 61 told9 := by
    rw [hw3]
    have := Row.new ((w.alloc (.cells oc.toArray 64)).alloc (.cells told9.toArray 61)) told9 61
    rw [World.size_alloc, World.size_alloc] at this
    exact this
  have HQ0 := Lib.hid hq
  have HOB := Lib.hid hob
  have HG : Hid (Good H m) := Lib.hid hg
  have HWF : Hid (WfH H) := Lib.hid hwf
  obtain ⟨col6, hcol6⟩ : ∃ x, x = recol col w.heap.size 7 := ⟨_, rfl⟩
  have K6 : Hid (St RQ col w col6 w6) := Lib.hid (by rw [hcol6]; exact St.new hb3 RQ col 7)
  have H6 : Hid (RfAt col6 w6 r m H) := Lib.hid (by rw [hcol6]; exact h.st (St.new hb3 (fun _ => False) col 7) rq_false)
  have M6 : Hid (Mx col6 w6 w.heap.size (w.heap.size + 1) (w.heap.size + 1 + 1) oc told9) := Lib.hid ⟨hr0, hr1, hr2, by rw [hcol6]; exact recol_ge (Nat.le_refl _), by rw [hcol6]; exact recol_ge (by omega), by rw [hcol6]; exact recol_ge (by omega), by omega⟩
  have HOC := Lib.hid hoc
  have HSL := Lib.hid (hob.sl.below hb3)
  have HSR := Lib.hid (hq.slR.below hb3)
  unfold told9 at hw3
  rw [hoc] at hw3 ⊢
  clear hq hob h hg hwf hb3 hr0 hr1 hr2 hoc hcol6
  go_enter Try.func36, Try.ntmps36
  go_upto_region 2 with fail
  rw [← hw3]
  clear hw3
  try go_frame
  have p0 : w6.cell? ⟨w.heap.size, 0, none⟩ = some (.int .i64 q.K) := by have := M6.out.r0.cell 0; rw [HOC.out] at this; exact this
  have p1 : w6.cell? ⟨w.heap.size, 1, none⟩ = some (.int .i64 q.k) := by have := M6.out.r0.cell 1; rw [HOC.out] at this; exact this
  have p2 : w6.cell? ⟨w.heap.size, 2, none⟩ = some (.int .i64 q.i) := by have := M6.out.r0.cell 2; rw [HOC.out] at this; exact this
  have p3 : w6.cell? ⟨w.heap.size, 3, none⟩ = some (.int .u8 (q.o.k.toNat : Int)) := by have := M6.out.r0.cell 3; rw [HOC.out] at this; exact this
  have p4 : w6.cell? ⟨w.heap.size, 4, none⟩ = some (.int .i64 q.o.t) := by have := M6.out.r0.cell 4; rw [HOC.out] at this; exact this
  have p5 : w6.cell? ⟨w.heap.size, 5, none⟩ = some (.slice a n c) := by have := M6.out.r0.cell 5; rw [HOC.out] at this; exact this
  have p6 : w6.cell? ⟨w.heap.size, 6, none⟩ = some (.string (str q.o.s)) := by have := M6.out.r0.cell 6; rw [HOC.out] at this; exact this
  have p7 : w6.cell? ⟨w.heap.size, 7, none⟩ = some (.int .u8 (q.x.1.toNat : Int)) := by have := M6.out.r0.cell 7; rw [HOC.out] at this; exact this
  have p8 : w6.cell? ⟨w.heap.size, 8, none⟩ = some (.int .i64 q.x.2) := by have := M6.out.r0.cell 8; rw [HOC.out] at this; exact this
  have p9 : w6.cell? ⟨w.heap.size, 9, none⟩ = some (.slice aR nR cR) := by have := M6.out.r0.cell 9; rw [HOC.out] at this; exact this
  obtain ⟨gl, ol, cl, cs, vs, hin⟩ := H6.out
  have HIN := Lib.hid hin
  clear hin
  rcases okindsZ q.K with hK | hK | hK | hK | hK | hK | hK | hK | hK | hK | hK | ⟨⟨k0, k1, k2, k3, k4, k5, k6, k7, k8, k9, k10⟩, hKK⟩
  · rw [hK] at p0
    obtain ⟨H', hH'⟩ : ∃ x, x = doH m H q := ⟨_, rfl⟩
    have HH' := Lib.hid hH'
    have hHH : H' = (allocH H m q.o) := by rw [hH', doH]; simp [hK]
    have HTT : Hid (({ told0 with n := allocN H m q.o, e := allocE H m q.o } : Told) = tell m H q) := Lib.hid (by rw [tell]; simp [hK])
    clear hH' hK
    obtain ⟨N, hN⟩ : ∃ N, N = allocN H m q.o := ⟨_, rfl⟩
    obtain ⟨E, hE⟩ : ∃ E, E = allocE H m q.o := ⟨_, rfl⟩
    rw [← hN, ← hE] at HTT
    have HNE := Lib.hid (And.intro hN hE)
    clear hN hE
    go_wp2_with fail
    refine (allocR_p HIN.out HG hm (by omega) q.o a n c hn (by omega) (by omega) HSL.out N E HNE H' (Lib.hid hHH)).mono ?_
    rintro e w7 ⟨rfl, col7, k7, h7⟩
    have K7 := Lib.hid (K6.out.trans k7)
    have H7 : Hid (RfAt col7 w7 r m H') := Lib.hid h7
    have M7 := Lib.hid (M6.out.st k7 rq7)
    clear k7 h7 K6 H6 M6 p0 p1 p2 p3 p4 p5 p6 p7 p8 p9
    have hr2 := M7.out.r2
    go_upto_region 25 with (first | (refine wpL_storeAt rfl _ _ _ rfl (v := (.int .i64 N)) rfl rfl rfl rfl (by kernel_rfl) hr2 rfl ?_; intro w71 hg71 hr71) | (refine wpL_storeAt rfl _ _ _ rfl (v := (.int .i64 E)) rfl rfl rfl rfl (by kernel_rfl) hr71 rfl ?_; intro w8 hg82 hr8))
    have hg8 : w7.grownBy w8 (some (w.heap.size + 1 + 1)) := ⟨hg82.os.trans hg71.os, hg82.tape.trans hg71.tape, hg82.output.trans hg71.output, Nat.le_trans hg71.size hg82.size, fun i hi hn => (hg82.block i (Nat.lt_of_lt_of_le hi hg71.size) hn).trans (hg71.block i hi hn)⟩
    clear hr2 hg82 hg71 hr71
    have R8 : Row w8 (w.heap.size + 1 + 1) 61 (tCells ({ told0 with n := N, e := E } : Told) (.slice none 0 0)) := hr8
    obtain ⟨t, ht⟩ : ∃ t : Told, t = ({ told0 with n := N, e := E } : Told) := ⟨_, rfl⟩
    obtain ⟨v, hv⟩ : ∃ v : Value, v = (.slice none 0 0) := ⟨_, rfl⟩
    rw [← ht, ← hv] at R8
    have HON : Hid ((tCells t v).all (·.oneCell') = true) := Lib.hid (by rw [ht, hv]; rfl)
    have HT : Hid (t = tell m H q) := Lib.hid (ht.trans HTT.out)
    have hr1 := M7.out.r1.grown hg8 (fun e => M7.out.n12 (Option.some.inj e))
    have HG8 := Lib.hid hg8
    have HTE := Lib.hid ht
    have HVE := Lib.hid hv
    clear hr8 ht hv hg8
    try go_frame
    go_wp2_with (first | refine wpL_loadRow rfl _ _ rfl rfl R8 Try.underlying61 rfl (by kernel_rfl) ?_ | (refine wpL_storeRow rfl _ _ _ rfl (cs := tCells t v) rfl rfl hr1 (by kernel_rfl) rfl HON.out ?_; intro w9 hg9 hr9))
    (try simp only [Exit.inBlock, Exit.then])
    refine bodyPost_ret (results_cell_row Try.results36 _ _ (w.heap.size + 1) 61 _ (0, 0) _ rfl hr9 Try.underlying61 rfl (by kernel_rfl)) rfl ?_
    have k8 : St (fun y => y = 7) col7 w7 col7 w8 := St.one HG8.out _ _ M7.out.c2
    have k9 : St (fun y => y = 7) col7 w8 col7 w9 := St.one hg9 _ _ M7.out.c1
    refine ⟨t, v, rfl, Lib.hid ⟨HT.out, col7, (K7.out.fresh1 HG8.out (by omega)).fresh1 hg9 (by omega), by rw [← HH'.out]; exact (H7.out.st k8 (rq_ne rq7)).st k9 (rq_ne rq7), ?_⟩⟩
    rw [HTE.out, HVE.out]
    exact Sl.nil _ _
  · rw [hK] at p0
    obtain ⟨H', hH'⟩ : ∃ x, x = doH m H q := ⟨_, rfl⟩
    have HH' := Lib.hid hH'
    have hHH : H' = H := by rw [hH', doH]; simp [hK]
    have HTT : Hid (({ told0 with o := (thAt H q.k).o, is := (thAt H q.k).is } : Told) = tell m H q) := Lib.hid (by rw [tell]; simp [hK])
    clear hH' hK
    obtain ⟨ox, hox⟩ : ∃ y, y = (thAt H q.k).o := ⟨_, rfl⟩
    obtain ⟨B, hB⟩ : ∃ y, y = (thAt H q.k).is := ⟨_, rfl⟩
    obtain ⟨nx, hnx⟩ : ∃ y, y = ox.l.length := ⟨_, rfl⟩
    rw [← hox, ← hB] at HTT
    have HOX := Lib.hid hox
    have HBB := Lib.hid hB
    have HNX := Lib.hid hnx
    clear hox hB hnx
    go_wp2_with fail
    refine (getR_p HIN.out HG.out hm q.k ox HOX B HBB nx HNX).mono ?_
    rintro e w7 ⟨vx, rfl, ho7, hb7⟩
    obtain ⟨ax, cx, rfl⟩ := ho7.form
    have HO7 := Lib.hid ho7
    have hlt6 : w.heap.size + 1 + 1 < w6.heap.size := M6.out.r2.lt
    clear ho7
    obtain ⟨col7, hc7⟩ : ∃ x, x = col6 := ⟨_, rfl⟩
    have K7 : Hid (St RQ col w col7 w7) := Lib.hid (by rw [hc7]; exact K6.out.trans (St.fresh hb7 RQ col6))
    have H7 : Hid (RfAt col7 w7 r m H') := Lib.hid (by rw [hHH, hc7]; exact H6.out.fresh hb7)
    have M7 : Hid (Mx col7 w7 w.heap.size (w.heap.size + 1) (w.heap.size + 1 + 1) oc told9) := Lib.hid (by rw [hc7]; exact M6.out.st (St.fresh hb7 (fun _ => False) col6) (fun h => h))
    clear hc7 hb7 K6 H6 M6 p0 p1 p2 p3 p4 p5 p6 p7 p8 p9
    have hr2 := M7.out.r2
    go_upto_region 25 with (first | (refine wpL_storePart rfl _ _ _ rfl (cs := [.int .u8 (ox.k.toNat : Int), .int .i64 ox.t, .slice ax nx cx, .string (str ox.s)]) rfl rfl ?_ (by kernel_rfl) hr2 (by simp [told9]) ?_; (intro u hu; simp only [List.mem_cons, List.not_mem_nil, or_false] at hu; rcases hu with rfl | rfl | rfl | rfl <;> rfl); intro w71 hg71 hr71) | (refine wpL_storeAt rfl _ _ _ rfl (v := .bool B) rfl rfl rfl rfl (by kernel_rfl) hr71 rfl ?_; intro w8 hg82 hr8))
    have hg8 : w7.grownBy w8 (some (w.heap.size + 1 + 1)) := ⟨hg82.os.trans hg71.os, hg82.tape.trans hg71.tape, hg82.output.trans hg71.output, Nat.le_trans hg71.size hg82.size, fun i hi hn => (hg82.block i (Nat.lt_of_lt_of_le hi hg71.size) hn).trans (hg71.block i hi hn)⟩
    clear hr2 hg82 hg71 hr71
    have R8 : Row w8 (w.heap.size + 1 + 1) 61 (tCells ({ told0 with o := ox, is := B } : Told) (.slice ax nx cx)) := hr8
    obtain ⟨t, ht⟩ : ∃ t : Told, t = ({ told0 with o := ox, is := B } : Told) := ⟨_, rfl⟩
    obtain ⟨v, hv⟩ : ∃ v : Value, v = (.slice ax nx cx) := ⟨_, rfl⟩
    rw [← ht, ← hv] at R8
    have HON : Hid ((tCells t v).all (·.oneCell') = true) := Lib.hid (by rw [ht, hv]; rfl)
    have HT : Hid (t = tell m H q) := Lib.hid (ht.trans HTT.out)
    have hr1 := M7.out.r1.grown hg8 (fun e => M7.out.n12 (Option.some.inj e))
    have HG8 := Lib.hid hg8
    have HTE := Lib.hid ht
    have HVE := Lib.hid hv
    clear hr8 ht hv hg8
    try go_frame
    go_wp2_with (first | refine wpL_loadRow rfl _ _ rfl rfl R8 Try.underlying61 rfl (by kernel_rfl) ?_ | (refine wpL_storeRow rfl _ _ _ rfl (cs := tCells t v) rfl rfl hr1 (by kernel_rfl) rfl HON.out ?_; intro w9 hg9 hr9))
    (try simp only [Exit.inBlock, Exit.then])
    refine bodyPost_ret (results_cell_row Try.results36 _ _ (w.heap.size + 1) 61 _ (0, 0) _ rfl hr9 Try.underlying61 rfl (by kernel_rfl)) rfl ?_
    have k8 : St (fun y => y = 7) col7 w7 col7 w8 := St.one HG8.out _ _ M7.out.c2
    have k9 : St (fun y => y = 7) col7 w8 col7 w9 := St.one hg9 _ _ M7.out.c1
    refine ⟨t, v, rfl, Lib.hid ⟨HT.out, col7, (K7.out.fresh1 HG8.out (by omega)).fresh1 hg9 (by omega), by rw [← HH'.out]; exact (H7.out.st k8 (rq_ne rq7)).st k9 (rq_ne rq7), ?_⟩⟩
    rw [HTE.out, HVE.out]
    show Sl w9 2 (.slice ax nx cx) ox.l.length (wcells ox.l)
    rw [← HNX.out]
    have o8 := HO7.out.kept HG8.out (own_ne HO7.out hlt6)
    exact (o8.kept hg9 (own_ne o8 (by omega))).sl
  · rw [hK] at p0
    obtain ⟨H', hH'⟩ : ∃ x, x = doH m H q := ⟨_, rfl⟩
    have HH' := Lib.hid hH'
    have hHH : H' = H := by rw [hH', doH]; simp [hK]
    have HTT : Hid (({ told0 with x := wordAt H q.k q.i, is := wordIs H q.k q.i } : Told) = tell m H q) := Lib.hid (by rw [tell]; simp [hK])
    clear hH' hK
    obtain ⟨B, hB⟩ : ∃ y, y = wordIs H q.k q.i := ⟨_, rfl⟩
    obtain ⟨x, hx⟩ : ∃ y, y = wordAt H q.k q.i := ⟨_, rfl⟩
    rw [← hB, ← hx] at HTT
    have HBB := Lib.hid hB
    have HXX := Lib.hid hx
    clear hB hx
    go_wp2_with fail
    refine (wordR_p HIN.out q.k q.i B HBB x HXX).mono ?_
    rintro e w7 ⟨rfl, hb7⟩
    obtain ⟨col7, hc7⟩ : ∃ x, x = col6 := ⟨_, rfl⟩
    have K7 : Hid (St RQ col w col7 w7) := Lib.hid (by rw [hc7]; exact K6.out.trans (St.fresh hb7 RQ col6))
    have H7 : Hid (RfAt col7 w7 r m H') := Lib.hid (by rw [hHH, hc7]; exact H6.out.fresh hb7)
    have M7 : Hid (Mx col7 w7 w.heap.size (w.heap.size + 1) (w.heap.size + 1 + 1) oc told9) := Lib.hid (by rw [hc7]; exact M6.out.st (St.fresh hb7 (fun _ => False) col6) (fun h => h))
    clear hc7 hb7 K6 H6 M6 p0 p1 p2 p3 p4 p5 p6 p7 p8 p9
    have hr2 := M7.out.r2
    go_upto_region 25 with (first | (refine wpL_storePart rfl _ _ _ rfl (cs := [.int .u8 (x.1.toNat : Int), .int .i64 x.2]) rfl rfl ?_ (by kernel_rfl) hr2 (by simp [told9]) ?_; (intro u hu; simp only [List.mem_cons, List.not_mem_nil, or_false] at hu; rcases hu with rfl | rfl <;> rfl); intro w71 hg71 hr71) | (refine wpL_storeAt rfl _ _ _ rfl (v := .bool B) rfl rfl rfl rfl (by kernel_rfl) hr71 rfl ?_; intro w8 hg82 hr8))
    have hg8 : w7.grownBy w8 (some (w.heap.size + 1 + 1)) := ⟨hg82.os.trans hg71.os, hg82.tape.trans hg71.tape, hg82.output.trans hg71.output, Nat.le_trans hg71.size hg82.size, fun i hi hn => (hg82.block i (Nat.lt_of_lt_of_le hi hg71.size) hn).trans (hg71.block i hi hn)⟩
    clear hr2 hg82 hg71 hr71
    have R8 : Row w8 (w.heap.size + 1 + 1) 61 (tCells ({ told0 with x := x, is := B } : Told) (.slice none 0 0)) := hr8
    obtain ⟨t, ht⟩ : ∃ t : Told, t = ({ told0 with x := x, is := B } : Told) := ⟨_, rfl⟩
    obtain ⟨v, hv⟩ : ∃ v : Value, v = (.slice none 0 0) := ⟨_, rfl⟩
    rw [← ht, ← hv] at R8
    have HON : Hid ((tCells t v).all (·.oneCell') = true) := Lib.hid (by rw [ht, hv]; rfl)
    have HT : Hid (t = tell m H q) := Lib.hid (ht.trans HTT.out)
    have hr1 := M7.out.r1.grown hg8 (fun e => M7.out.n12 (Option.some.inj e))
    have HG8 := Lib.hid hg8
    have HTE := Lib.hid ht
    have HVE := Lib.hid hv
    clear hr8 ht hv hg8
    try go_frame
    go_wp2_with (first | refine wpL_loadRow rfl _ _ rfl rfl R8 Try.underlying61 rfl (by kernel_rfl) ?_ | (refine wpL_storeRow rfl _ _ _ rfl (cs := tCells t v) rfl rfl hr1 (by kernel_rfl) rfl HON.out ?_; intro w9 hg9 hr9))
    (try simp only [Exit.inBlock, Exit.then])
    refine bodyPost_ret (results_cell_row Try.results36 _ _ (w.heap.size + 1) 61 _ (0, 0) _ rfl hr9 Try.underlying61 rfl (by kernel_rfl)) rfl ?_
    have k8 : St (fun y => y = 7) col7 w7 col7 w8 := St.one HG8.out _ _ M7.out.c2
    have k9 : St (fun y => y = 7) col7 w8 col7 w9 := St.one hg9 _ _ M7.out.c1
    refine ⟨t, v, rfl, Lib.hid ⟨HT.out, col7, (K7.out.fresh1 HG8.out (by omega)).fresh1 hg9 (by omega), by rw [← HH'.out]; exact (H7.out.st k8 (rq_ne rq7)).st k9 (rq_ne rq7), ?_⟩⟩
    rw [HTE.out, HVE.out]
    exact Sl.nil _ _
  · rw [hK] at p0
    obtain ⟨H', hH'⟩ : ∃ x, x = doH m H q := ⟨_, rfl⟩
    have HH' := Lib.hid hH'
    have hHH : H' = (setH H q.k q.i q.x) := by rw [hH', doH]; simp [hK]
    have HTT : Hid (({ told0 with is := setIs H q.k q.i q.x } : Told) = tell m H q) := Lib.hid (by rw [tell]; simp [hK])
    clear hH' hK
    obtain ⟨B, hB⟩ : ∃ y, y = setIs H q.k q.i q.x := ⟨_, rfl⟩
    rw [← hB] at HTT
    have HBB := Lib.hid hB
    clear hB
    go_wp2_with fail
    refine (setWordR_p HIN.out q.k q.i q.x B HBB H' (Lib.hid hHH)).mono ?_
    rintro e w7 ⟨rfl, col7, k7, h7⟩
    have K7 := Lib.hid (K6.out.trans k7)
    have H7 : Hid (RfAt col7 w7 r m H') := Lib.hid h7
    have M7 := Lib.hid (M6.out.st k7 rq7)
    clear k7 h7 K6 H6 M6 p0 p1 p2 p3 p4 p5 p6 p7 p8 p9
    have hr2 := M7.out.r2
    go_upto_region 25 with (refine wpL_storeAt rfl _ _ _ rfl (v := (.bool B)) rfl rfl rfl rfl (by kernel_rfl) hr2 rfl ?_; intro w8 hg8 hr8)
    clear hr2
    have R8 : Row w8 (w.heap.size + 1 + 1) 61 (tCells ({ told0 with is := B } : Told) (.slice none 0 0)) := hr8
    obtain ⟨t, ht⟩ : ∃ t : Told, t = ({ told0 with is := B } : Told) := ⟨_, rfl⟩
    obtain ⟨v, hv⟩ : ∃ v : Value, v = (.slice none 0 0) := ⟨_, rfl⟩
    rw [← ht, ← hv] at R8
    have HON : Hid ((tCells t v).all (·.oneCell') = true) := Lib.hid (by rw [ht, hv]; rfl)
    have HT : Hid (t = tell m H q) := Lib.hid (ht.trans HTT.out)
    have hr1 := M7.out.r1.grown hg8 (fun e => M7.out.n12 (Option.some.inj e))
    have HG8 := Lib.hid hg8
    have HTE := Lib.hid ht
    have HVE := Lib.hid hv
    clear hr8 ht hv hg8
    try go_frame
    go_wp2_with (first | refine wpL_loadRow rfl _ _ rfl rfl R8 Try.underlying61 rfl (by kernel_rfl) ?_ | (refine wpL_storeRow rfl _ _ _ rfl (cs := tCells t v) rfl rfl hr1 (by kernel_rfl) rfl HON.out ?_; intro w9 hg9 hr9))
    (try simp only [Exit.inBlock, Exit.then])
    refine bodyPost_ret (results_cell_row Try.results36 _ _ (w.heap.size + 1) 61 _ (0, 0) _ rfl hr9 Try.underlying61 rfl (by kernel_rfl)) rfl ?_
    have k8 : St (fun y => y = 7) col7 w7 col7 w8 := St.one HG8.out _ _ M7.out.c2
    have k9 : St (fun y => y = 7) col7 w8 col7 w9 := St.one hg9 _ _ M7.out.c1
    refine ⟨t, v, rfl, Lib.hid ⟨HT.out, col7, (K7.out.fresh1 HG8.out (by omega)).fresh1 hg9 (by omega), by rw [← HH'.out]; exact (H7.out.st k8 (rq_ne rq7)).st k9 (rq_ne rq7), ?_⟩⟩
    rw [HTE.out, HVE.out]
    exact Sl.nil _ _
  · rw [hK] at p0
    obtain ⟨H', hH'⟩ : ∃ x, x = doH m H q := ⟨_, rfl⟩
    have HH' := Lib.hid hH'
    have hHH : H' = (tieH H q.k q.i) := by rw [hH', doH]; simp [hK]
    have HTT : Hid (({ told0 with e := tieE H q.k q.i } : Told) = tell m H q) := Lib.hid (by rw [tell]; simp [hK])
    clear hH' hK
    obtain ⟨B, hB⟩ : ∃ y, y = tieE H q.k q.i := ⟨_, rfl⟩
    rw [← hB] at HTT
    have HBB := Lib.hid hB
    clear hB
    go_wp2_with fail
    refine (tieR_p HIN.out HG q.k q.i B HBB H' (Lib.hid hHH)).mono ?_
    rintro e w7 ⟨rfl, col7, k7, h7⟩
    have K7 := Lib.hid (K6.out.trans k7)
    have H7 : Hid (RfAt col7 w7 r m H') := Lib.hid h7
    have M7 := Lib.hid (M6.out.st k7 rq7)
    clear k7 h7 K6 H6 M6 p0 p1 p2 p3 p4 p5 p6 p7 p8 p9
    have hr2 := M7.out.r2
    go_upto_region 25 with (refine wpL_storeAt rfl _ _ _ rfl (v := (.int .i64 B)) rfl rfl rfl rfl (by kernel_rfl) hr2 rfl ?_; intro w8 hg8 hr8)
    clear hr2
    have R8 : Row w8 (w.heap.size + 1 + 1) 61 (tCells ({ told0 with e := B } : Told) (.slice none 0 0)) := hr8
    obtain ⟨t, ht⟩ : ∃ t : Told, t = ({ told0 with e := B } : Told) := ⟨_, rfl⟩
    obtain ⟨v, hv⟩ : ∃ v : Value, v = (.slice none 0 0) := ⟨_, rfl⟩
    rw [← ht, ← hv] at R8
    have HON : Hid ((tCells t v).all (·.oneCell') = true) := Lib.hid (by rw [ht, hv]; rfl)
    have HT : Hid (t = tell m H q) := Lib.hid (ht.trans HTT.out)
    have hr1 := M7.out.r1.grown hg8 (fun e => M7.out.n12 (Option.some.inj e))
    have HG8 := Lib.hid hg8
    have HTE := Lib.hid ht
    have HVE := Lib.hid hv
    clear hr8 ht hv hg8
    try go_frame
    go_wp2_with (first | refine wpL_loadRow rfl _ _ rfl rfl R8 Try.underlying61 rfl (by kernel_rfl) ?_ | (refine wpL_storeRow rfl _ _ _ rfl (cs := tCells t v) rfl rfl hr1 (by kernel_rfl) rfl HON.out ?_; intro w9 hg9 hr9))
    (try simp only [Exit.inBlock, Exit.then])
    refine bodyPost_ret (results_cell_row Try.results36 _ _ (w.heap.size + 1) 61 _ (0, 0) _ rfl hr9 Try.underlying61 rfl (by kernel_rfl)) rfl ?_
    have k8 : St (fun y => y = 7) col7 w7 col7 w8 := St.one HG8.out _ _ M7.out.c2
    have k9 : St (fun y => y = 7) col7 w8 col7 w9 := St.one hg9 _ _ M7.out.c1
    refine ⟨t, v, rfl, Lib.hid ⟨HT.out, col7, (K7.out.fresh1 HG8.out (by omega)).fresh1 hg9 (by omega), by rw [← HH'.out]; exact (H7.out.st k8 (rq_ne rq7)).st k9 (rq_ne rq7), ?_⟩⟩
    rw [HTE.out, HVE.out]
    exact Sl.nil _ _
  · rw [hK] at p0
    obtain ⟨H', hH'⟩ : ∃ x, x = doH m H q := ⟨_, rfl⟩
    have HH' := Lib.hid hH'
    have hHH : H' = (untieH H q.k) := by rw [hH', doH]; simp [hK]
    have HTT : Hid (({ told0 with is := untieIs H q.k } : Told) = tell m H q) := Lib.hid (by rw [tell]; simp [hK])
    clear hH' hK
    obtain ⟨B, hB⟩ : ∃ y, y = untieIs H q.k := ⟨_, rfl⟩
    rw [← hB] at HTT
    have HBB := Lib.hid hB
    clear hB
    go_wp2_with fail
    refine (untieR_p HIN.out HG q.k B HBB H' (Lib.hid hHH)).mono ?_
    rintro e w7 ⟨rfl, col7, k7, h7⟩
    have K7 := Lib.hid (K6.out.trans k7)
    have H7 : Hid (RfAt col7 w7 r m H') := Lib.hid h7
    have M7 := Lib.hid (M6.out.st k7 rq7)
    clear k7 h7 K6 H6 M6 p0 p1 p2 p3 p4 p5 p6 p7 p8 p9
    have hr2 := M7.out.r2
    go_upto_region 25 with (refine wpL_storeAt rfl _ _ _ rfl (v := (.bool B)) rfl rfl rfl rfl (by kernel_rfl) hr2 rfl ?_; intro w8 hg8 hr8)
    clear hr2
    have R8 : Row w8 (w.heap.size + 1 + 1) 61 (tCells ({ told0 with is := B } : Told) (.slice none 0 0)) := hr8
    obtain ⟨t, ht⟩ : ∃ t : Told, t = ({ told0 with is := B } : Told) := ⟨_, rfl⟩
    obtain ⟨v, hv⟩ : ∃ v : Value, v = (.slice none 0 0) := ⟨_, rfl⟩
    rw [← ht, ← hv] at R8
    have HON : Hid ((tCells t v).all (·.oneCell') = true) := Lib.hid (by rw [ht, hv]; rfl)
    have HT : Hid (t = tell m H q) := Lib.hid (ht.trans HTT.out)
    have hr1 := M7.out.r1.grown hg8 (fun e => M7.out.n12 (Option.some.inj e))
    have HG8 := Lib.hid hg8
    have HTE := Lib.hid ht
    have HVE := Lib.hid hv
    clear hr8 ht hv hg8
    try go_frame
    go_wp2_with (first | refine wpL_loadRow rfl _ _ rfl rfl R8 Try.underlying61 rfl (by kernel_rfl) ?_ | (refine wpL_storeRow rfl _ _ _ rfl (cs := tCells t v) rfl rfl hr1 (by kernel_rfl) rfl HON.out ?_; intro w9 hg9 hr9))
    (try simp only [Exit.inBlock, Exit.then])
    refine bodyPost_ret (results_cell_row Try.results36 _ _ (w.heap.size + 1) 61 _ (0, 0) _ rfl hr9 Try.underlying61 rfl (by kernel_rfl)) rfl ?_
    have k8 : St (fun y => y = 7) col7 w7 col7 w8 := St.one HG8.out _ _ M7.out.c2
    have k9 : St (fun y => y = 7) col7 w8 col7 w9 := St.one hg9 _ _ M7.out.c1
    refine ⟨t, v, rfl, Lib.hid ⟨HT.out, col7, (K7.out.fresh1 HG8.out (by omega)).fresh1 hg9 (by omega), by rw [← HH'.out]; exact (H7.out.st k8 (rq_ne rq7)).st k9 (rq_ne rq7), ?_⟩⟩
    rw [HTE.out, HVE.out]
    exact Sl.nil _ _
  · rw [hK] at p0
    obtain ⟨H', hH'⟩ : ∃ x, x = doH m H q := ⟨_, rfl⟩
    have HH' := Lib.hid hH'
    have hHH : H' = H := by rw [hH', doH]; simp [hK]
    have HTT : Hid (({ told0 with n := (thAt H q.k).oid, is := decide (0 < (thAt H q.k).oid) } : Told) = tell m H q) := Lib.hid (by rw [tell]; simp [hK])
    clear hH' hK
    obtain ⟨x, hx⟩ : ∃ y, y = (thAt H q.k).oid := ⟨_, rfl⟩
    rw [← hx] at HTT
    have HXX := Lib.hid hx
    clear hx
    go_wp2_with fail
    refine (oidR_p HIN.out HG q.k x HXX).mono ?_
    rintro e w7 ⟨rfl, rfl⟩
    obtain ⟨w7, hw7⟩ : ∃ y, y = w6 := ⟨_, rfl⟩
    have hb7 : Below w6.heap.size w6 w7 := by rw [hw7]; exact Below.refl _ _
    rw [← hw7]
    clear hw7
    obtain ⟨col7, hc7⟩ : ∃ x, x = col6 := ⟨_, rfl⟩
    have K7 : Hid (St RQ col w col7 w7) := Lib.hid (by rw [hc7]; exact K6.out.trans (St.fresh hb7 RQ col6))
    have H7 : Hid (RfAt col7 w7 r m H') := Lib.hid (by rw [hHH, hc7]; exact H6.out.fresh hb7)
    have M7 : Hid (Mx col7 w7 w.heap.size (w.heap.size + 1) (w.heap.size + 1 + 1) oc told9) := Lib.hid (by rw [hc7]; exact M6.out.st (St.fresh hb7 (fun _ => False) col6) (fun h => h))
    clear hc7 hb7 K6 H6 M6 p0 p1 p2 p3 p4 p5 p6 p7 p8 p9
    have hr2 := M7.out.r2
    go_upto_region 25 with (first | (refine wpL_storeAt rfl _ _ _ rfl (v := (.int .i64 x)) rfl rfl rfl rfl (by kernel_rfl) hr2 rfl ?_; intro w71 hg71 hr71) | (refine wpL_storeAt rfl _ _ _ rfl (v := (.bool (decide (0 < x)))) rfl rfl rfl rfl (by kernel_rfl) hr71 rfl ?_; intro w8 hg82 hr8))
    have hg8 : w7.grownBy w8 (some (w.heap.size + 1 + 1)) := ⟨hg82.os.trans hg71.os, hg82.tape.trans hg71.tape, hg82.output.trans hg71.output, Nat.le_trans hg71.size hg82.size, fun i hi hn => (hg82.block i (Nat.lt_of_lt_of_le hi hg71.size) hn).trans (hg71.block i hi hn)⟩
    clear hr2 hg82 hg71 hr71
    have R8 : Row w8 (w.heap.size + 1 + 1) 61 (tCells ({ told0 with n := x, is := decide (0 < x) } : Told) (.slice none 0 0)) := hr8
    obtain ⟨t, ht⟩ : ∃ t : Told, t = ({ told0 with n := x, is := decide (0 < x) } : Told) := ⟨_, rfl⟩
    obtain ⟨v, hv⟩ : ∃ v : Value, v = (.slice none 0 0) := ⟨_, rfl⟩
    rw [← ht, ← hv] at R8
    have HON : Hid ((tCells t v).all (·.oneCell') = true) := Lib.hid (by rw [ht, hv]; rfl)
    have HT : Hid (t = tell m H q) := Lib.hid (ht.trans HTT.out)
    have hr1 := M7.out.r1.grown hg8 (fun e => M7.out.n12 (Option.some.inj e))
    have HG8 := Lib.hid hg8
    have HTE := Lib.hid ht
    have HVE := Lib.hid hv
    clear hr8 ht hv hg8
    try go_frame
    go_wp2_with (first | refine wpL_loadRow rfl _ _ rfl rfl R8 Try.underlying61 rfl (by kernel_rfl) ?_ | (refine wpL_storeRow rfl _ _ _ rfl (cs := tCells t v) rfl rfl hr1 (by kernel_rfl) rfl HON.out ?_; intro w9 hg9 hr9))
    (try simp only [Exit.inBlock, Exit.then])
    refine bodyPost_ret (results_cell_row Try.results36 _ _ (w.heap.size + 1) 61 _ (0, 0) _ rfl hr9 Try.underlying61 rfl (by kernel_rfl)) rfl ?_
    have k8 : St (fun y => y = 7) col7 w7 col7 w8 := St.one HG8.out _ _ M7.out.c2
    have k9 : St (fun y => y = 7) col7 w8 col7 w9 := St.one hg9 _ _ M7.out.c1
    refine ⟨t, v, rfl, Lib.hid ⟨HT.out, col7, (K7.out.fresh1 HG8.out (by omega)).fresh1 hg9 (by omega), by rw [← HH'.out]; exact (H7.out.st k8 (rq_ne rq7)).st k9 (rq_ne rq7), ?_⟩⟩
    rw [HTE.out, HVE.out]
    exact Sl.nil _ _
  · rw [hK] at p0
    obtain ⟨H', hH'⟩ : ∃ x, x = doH m H q := ⟨_, rfl⟩
    have HH' := Lib.hid hH'
    have hHH : H' = H := by rw [hH', doH]; simp [hK]
    have HTT : Hid (({ told0 with n := ofH H q.i, is := decide (0 < ofH H q.i) } : Told) = tell m H q) := Lib.hid (by rw [tell]; simp [hK])
    clear hH' hK
    obtain ⟨x, hx⟩ : ∃ y, y = ofH H q.i := ⟨_, rfl⟩
    rw [← hx] at HTT
    have HXX := Lib.hid hx
    clear hx
    go_wp2_with fail
    refine (ofR_p HIN.out (Lib.hid (by rw [HG.out.zero]; rfl)) q.i x HXX).mono ?_
    rintro e w7 ⟨rfl, rfl⟩
    obtain ⟨w7, hw7⟩ : ∃ y, y = w6 := ⟨_, rfl⟩
    have hb7 : Below w6.heap.size w6 w7 := by rw [hw7]; exact Below.refl _ _
    rw [← hw7]
    clear hw7
    obtain ⟨col7, hc7⟩ : ∃ x, x = col6 := ⟨_, rfl⟩
    have K7 : Hid (St RQ col w col7 w7) := Lib.hid (by rw [hc7]; exact K6.out.trans (St.fresh hb7 RQ col6))
    have H7 : Hid (RfAt col7 w7 r m H') := Lib.hid (by rw [hHH, hc7]; exact H6.out.fresh hb7)
    have M7 : Hid (Mx col7 w7 w.heap.size (w.heap.size + 1) (w.heap.size + 1 + 1) oc told9) := Lib.hid (by rw [hc7]; exact M6.out.st (St.fresh hb7 (fun _ => False) col6) (fun h => h))
    clear hc7 hb7 K6 H6 M6 p0 p1 p2 p3 p4 p5 p6 p7 p8 p9
    have hr2 := M7.out.r2
    go_upto_region 25 with (first | (refine wpL_storeAt rfl _ _ _ rfl (v := (.int .i64 x)) rfl rfl rfl rfl (by kernel_rfl) hr2 rfl ?_; intro w71 hg71 hr71) | (refine wpL_storeAt rfl _ _ _ rfl (v := (.bool (decide (0 < x)))) rfl rfl rfl rfl (by kernel_rfl) hr71 rfl ?_; intro w8 hg82 hr8))
    have hg8 : w7.grownBy w8 (some (w.heap.size + 1 + 1)) := ⟨hg82.os.trans hg71.os, hg82.tape.trans hg71.tape, hg82.output.trans hg71.output, Nat.le_trans hg71.size hg82.size, fun i hi hn => (hg82.block i (Nat.lt_of_lt_of_le hi hg71.size) hn).trans (hg71.block i hi hn)⟩
    clear hr2 hg82 hg71 hr71
    have R8 : Row w8 (w.heap.size + 1 + 1) 61 (tCells ({ told0 with n := x, is := decide (0 < x) } : Told) (.slice none 0 0)) := hr8
    obtain ⟨t, ht⟩ : ∃ t : Told, t = ({ told0 with n := x, is := decide (0 < x) } : Told) := ⟨_, rfl⟩
    obtain ⟨v, hv⟩ : ∃ v : Value, v = (.slice none 0 0) := ⟨_, rfl⟩
    rw [← ht, ← hv] at R8
    have HON : Hid ((tCells t v).all (·.oneCell') = true) := Lib.hid (by rw [ht, hv]; rfl)
    have HT : Hid (t = tell m H q) := Lib.hid (ht.trans HTT.out)
    have hr1 := M7.out.r1.grown hg8 (fun e => M7.out.n12 (Option.some.inj e))
    have HG8 := Lib.hid hg8
    have HTE := Lib.hid ht
    have HVE := Lib.hid hv
    clear hr8 ht hv hg8
    try go_frame
    go_wp2_with (first | refine wpL_loadRow rfl _ _ rfl rfl R8 Try.underlying61 rfl (by kernel_rfl) ?_ | (refine wpL_storeRow rfl _ _ _ rfl (cs := tCells t v) rfl rfl hr1 (by kernel_rfl) rfl HON.out ?_; intro w9 hg9 hr9))
    (try simp only [Exit.inBlock, Exit.then])
    refine bodyPost_ret (results_cell_row Try.results36 _ _ (w.heap.size + 1) 61 _ (0, 0) _ rfl hr9 Try.underlying61 rfl (by kernel_rfl)) rfl ?_
    have k8 : St (fun y => y = 7) col7 w7 col7 w8 := St.one HG8.out _ _ M7.out.c2
    have k9 : St (fun y => y = 7) col7 w8 col7 w9 := St.one hg9 _ _ M7.out.c1
    refine ⟨t, v, rfl, Lib.hid ⟨HT.out, col7, (K7.out.fresh1 HG8.out (by omega)).fresh1 hg9 (by omega), by rw [← HH'.out]; exact (H7.out.st k8 (rq_ne rq7)).st k9 (rq_ne rq7), ?_⟩⟩
    rw [HTE.out, HVE.out]
    exact Sl.nil _ _
  · rw [hK] at p0
    obtain ⟨H', hH'⟩ : ∃ x, x = doH m H q := ⟨_, rfl⟩
    have HH' := Lib.hid hH'
    have hHH : H' = (fillH H m q.k q.o) := by rw [hH', doH]; simp [hK]
    have HTT : Hid (({ told0 with e := fillE H m q.k q.o } : Told) = tell m H q) := Lib.hid (by rw [tell]; simp [hK])
    clear hH' hK
    obtain ⟨E, hE⟩ : ∃ E, E = fillE H m q.k q.o := ⟨_, rfl⟩
    rw [← hE] at HTT
    have HEE := Lib.hid hE
    clear hE
    go_wp2_with fail
    refine (fillR_p HIN.out HG hm q.k q.o a n c hn (by omega) (by omega) HSL.out E HEE H' (Lib.hid hHH)).mono ?_
    rintro e w7 ⟨rfl, col7, k7, h7⟩
    have K7 := Lib.hid (K6.out.trans k7)
    have H7 : Hid (RfAt col7 w7 r m H') := Lib.hid h7
    have M7 := Lib.hid (M6.out.st k7 rq7)
    clear k7 h7 K6 H6 M6 p0 p1 p2 p3 p4 p5 p6 p7 p8 p9
    have hr2 := M7.out.r2
    go_upto_region 25 with (refine wpL_storeAt rfl _ _ _ rfl (v := (.int .i64 E)) rfl rfl rfl rfl (by kernel_rfl) hr2 rfl ?_; intro w8 hg8 hr8)
    clear hr2
    have R8 : Row w8 (w.heap.size + 1 + 1) 61 (tCells ({ told0 with e := E } : Told) (.slice none 0 0)) := hr8
    obtain ⟨t, ht⟩ : ∃ t : Told, t = ({ told0 with e := E } : Told) := ⟨_, rfl⟩
    obtain ⟨v, hv⟩ : ∃ v : Value, v = (.slice none 0 0) := ⟨_, rfl⟩
    rw [← ht, ← hv] at R8
    have HON : Hid ((tCells t v).all (·.oneCell') = true) := Lib.hid (by rw [ht, hv]; rfl)
    have HT : Hid (t = tell m H q) := Lib.hid (ht.trans HTT.out)
    have hr1 := M7.out.r1.grown hg8 (fun e => M7.out.n12 (Option.some.inj e))
    have HG8 := Lib.hid hg8
    have HTE := Lib.hid ht
    have HVE := Lib.hid hv
    clear hr8 ht hv hg8
    try go_frame
    go_wp2_with (first | refine wpL_loadRow rfl _ _ rfl rfl R8 Try.underlying61 rfl (by kernel_rfl) ?_ | (refine wpL_storeRow rfl _ _ _ rfl (cs := tCells t v) rfl rfl hr1 (by kernel_rfl) rfl HON.out ?_; intro w9 hg9 hr9))
    (try simp only [Exit.inBlock, Exit.then])
    refine bodyPost_ret (results_cell_row Try.results36 _ _ (w.heap.size + 1) 61 _ (0, 0) _ rfl hr9 Try.underlying61 rfl (by kernel_rfl)) rfl ?_
    have k8 : St (fun y => y = 7) col7 w7 col7 w8 := St.one HG8.out _ _ M7.out.c2
    have k9 : St (fun y => y = 7) col7 w8 col7 w9 := St.one hg9 _ _ M7.out.c1
    refine ⟨t, v, rfl, Lib.hid ⟨HT.out, col7, (K7.out.fresh1 HG8.out (by omega)).fresh1 hg9 (by omega), by rw [← HH'.out]; exact (H7.out.st k8 (rq_ne rq7)).st k9 (rq_ne rq7), ?_⟩⟩
    rw [HTE.out, HVE.out]
    exact Sl.nil _ _
  · rw [hK] at p0
    obtain ⟨H', hH'⟩ : ∃ x, x = doH m H q := ⟨_, rfl⟩
    have HH' := Lib.hid hH'
    have hHH : H' = (cleanH H q.k) := by rw [hH', doH]; simp [hK]
    have HTT : Hid (({ told0 with is := (thAt H q.k).dirty } : Told) = tell m H q) := Lib.hid (by rw [tell]; simp [hK])
    clear hH' hK
    obtain ⟨B, hB⟩ : ∃ y, y = (thAt H q.k).dirty := ⟨_, rfl⟩
    rw [← hB] at HTT
    have HBB := Lib.hid hB
    clear hB
    go_wp2_with fail
    refine (cleanR_p HIN.out HG q.k B HBB H' (Lib.hid hHH)).mono ?_
    rintro e w7 ⟨rfl, col7, k7, h7⟩
    have K7 := Lib.hid (K6.out.trans k7)
    have H7 : Hid (RfAt col7 w7 r m H') := Lib.hid h7
    have M7 := Lib.hid (M6.out.st k7 rq7)
    clear k7 h7 K6 H6 M6 p0 p1 p2 p3 p4 p5 p6 p7 p8 p9
    have hr2 := M7.out.r2
    go_upto_region 25 with (refine wpL_storeAt rfl _ _ _ rfl (v := (.bool B)) rfl rfl rfl rfl (by kernel_rfl) hr2 rfl ?_; intro w8 hg8 hr8)
    clear hr2
    have R8 : Row w8 (w.heap.size + 1 + 1) 61 (tCells ({ told0 with is := B } : Told) (.slice none 0 0)) := hr8
    obtain ⟨t, ht⟩ : ∃ t : Told, t = ({ told0 with is := B } : Told) := ⟨_, rfl⟩
    obtain ⟨v, hv⟩ : ∃ v : Value, v = (.slice none 0 0) := ⟨_, rfl⟩
    rw [← ht, ← hv] at R8
    have HON : Hid ((tCells t v).all (·.oneCell') = true) := Lib.hid (by rw [ht, hv]; rfl)
    have HT : Hid (t = tell m H q) := Lib.hid (ht.trans HTT.out)
    have hr1 := M7.out.r1.grown hg8 (fun e => M7.out.n12 (Option.some.inj e))
    have HG8 := Lib.hid hg8
    have HTE := Lib.hid ht
    have HVE := Lib.hid hv
    clear hr8 ht hv hg8
    try go_frame
    go_wp2_with (first | refine wpL_loadRow rfl _ _ rfl rfl R8 Try.underlying61 rfl (by kernel_rfl) ?_ | (refine wpL_storeRow rfl _ _ _ rfl (cs := tCells t v) rfl rfl hr1 (by kernel_rfl) rfl HON.out ?_; intro w9 hg9 hr9))
    (try simp only [Exit.inBlock, Exit.then])
    refine bodyPost_ret (results_cell_row Try.results36 _ _ (w.heap.size + 1) 61 _ (0, 0) _ rfl hr9 Try.underlying61 rfl (by kernel_rfl)) rfl ?_
    have k8 : St (fun y => y = 7) col7 w7 col7 w8 := St.one HG8.out _ _ M7.out.c2
    have k9 : St (fun y => y = 7) col7 w8 col7 w9 := St.one hg9 _ _ M7.out.c1
    refine ⟨t, v, rfl, Lib.hid ⟨HT.out, col7, (K7.out.fresh1 HG8.out (by omega)).fresh1 hg9 (by omega), by rw [← HH'.out]; exact (H7.out.st k8 (rq_ne rq7)).st k9 (rq_ne rq7), ?_⟩⟩
    rw [HTE.out, HVE.out]
    exact Sl.nil _ _
  · rw [hK] at p0
    obtain ⟨H', hH'⟩ : ∃ x, x = doH m H q := ⟨_, rfl⟩
    have HH' := Lib.hid hH'
    have hHH : H' = (collectH H q.R) := by rw [hH', doH]; simp [hK]
    have HTT : Hid (({ told0 with n := (countH H : Int) - (countH (collectH H q.R) : Int) } : Told) = tell m H q) := Lib.hid (by rw [tell]; simp [hK])
    clear hH' hK
    obtain ⟨N, hN⟩ : ∃ N, N = (countH H : Int) - (countH (collectH H q.R) : Int) := ⟨_, rfl⟩
    rw [← hN] at HTT
    have HNN : Hid (N = (countH H : Int) - (countH H' : Int)) := Lib.hid (by rw [hHH]; exact hN)
    clear hN
    go_wp2_with fail
    refine (collectR_p HIN.out HG HWF hm (by omega) q.R aR nR cR HSR.out (by omega) H' (Lib.hid hHH) N HNN).mono ?_
    rintro e w7 ⟨rfl, col7, k7, h7⟩
    have K7 := Lib.hid (K6.out.trans k7)
    have H7 : Hid (RfAt col7 w7 r m H') := Lib.hid h7
    have M7 := Lib.hid (M6.out.st k7 rq7)
    clear k7 h7 K6 H6 M6 p0 p1 p2 p3 p4 p5 p6 p7 p8 p9
    have hr2 := M7.out.r2
    go_upto_region 25 with (refine wpL_storeAt rfl _ _ _ rfl (v := (.int .i64 N)) rfl rfl rfl rfl (by kernel_rfl) hr2 rfl ?_; intro w8 hg8 hr8)
    clear hr2
    have R8 : Row w8 (w.heap.size + 1 + 1) 61 (tCells ({ told0 with n := N } : Told) (.slice none 0 0)) := hr8
    obtain ⟨t, ht⟩ : ∃ t : Told, t = ({ told0 with n := N } : Told) := ⟨_, rfl⟩
    obtain ⟨v, hv⟩ : ∃ v : Value, v = (.slice none 0 0) := ⟨_, rfl⟩
    rw [← ht, ← hv] at R8
    have HON : Hid ((tCells t v).all (·.oneCell') = true) := Lib.hid (by rw [ht, hv]; rfl)
    have HT : Hid (t = tell m H q) := Lib.hid (ht.trans HTT.out)
    have hr1 := M7.out.r1.grown hg8 (fun e => M7.out.n12 (Option.some.inj e))
    have HG8 := Lib.hid hg8
    have HTE := Lib.hid ht
    have HVE := Lib.hid hv
    clear hr8 ht hv hg8
    try go_frame
    go_wp2_with (first | refine wpL_loadRow rfl _ _ rfl rfl R8 Try.underlying61 rfl (by kernel_rfl) ?_ | (refine wpL_storeRow rfl _ _ _ rfl (cs := tCells t v) rfl rfl hr1 (by kernel_rfl) rfl HON.out ?_; intro w9 hg9 hr9))
    (try simp only [Exit.inBlock, Exit.then])
    refine bodyPost_ret (results_cell_row Try.results36 _ _ (w.heap.size + 1) 61 _ (0, 0) _ rfl hr9 Try.underlying61 rfl (by kernel_rfl)) rfl ?_
    have k8 : St (fun y => y = 7) col7 w7 col7 w8 := St.one HG8.out _ _ M7.out.c2
    have k9 : St (fun y => y = 7) col7 w8 col7 w9 := St.one hg9 _ _ M7.out.c1
    refine ⟨t, v, rfl, Lib.hid ⟨HT.out, col7, (K7.out.fresh1 HG8.out (by omega)).fresh1 hg9 (by omega), by rw [← HH'.out]; exact (H7.out.st k8 (rq_ne rq7)).st k9 (rq_ne rq7), ?_⟩⟩
    rw [HTE.out, HVE.out]
    exact Sl.nil _ _
  · obtain ⟨H', hH'⟩ : ∃ x, x = doH m H q := ⟨_, rfl⟩
    have HH' := Lib.hid hH'
    have hHH : H' = H := by rw [hH', doH]; simp [hKK]
    have HTT : Hid (told0 = tell m H q) := Lib.hid (by rw [tell]; simp [hKK])
    clear hH' hKK
    go_upto_region 25 with fail
    obtain ⟨w7, hw7⟩ : ∃ y, y = w6 := ⟨_, rfl⟩
    have hb7 : Below w6.heap.size w6 w7 := by rw [hw7]; exact Below.refl _ _
    rw [← hw7]
    clear hw7
    obtain ⟨col7, hc7⟩ : ∃ x, x = col6 := ⟨_, rfl⟩
    have K7 : Hid (St RQ col w col7 w7) := Lib.hid (by rw [hc7]; exact K6.out.trans (St.fresh hb7 RQ col6))
    have H7 : Hid (RfAt col7 w7 r m H') := Lib.hid (by rw [hHH, hc7]; exact H6.out.fresh hb7)
    have M7 : Hid (Mx col7 w7 w.heap.size (w.heap.size + 1) (w.heap.size + 1 + 1) oc told9) := Lib.hid (by rw [hc7]; exact M6.out.st (St.fresh hb7 (fun _ => False) col6) (fun h => h))
    clear hc7 hb7 K6 H6 M6 p0 p1 p2 p3 p4 p5 p6 p7 p8 p9
    obtain ⟨w8, hw8⟩ : ∃ y, y = w7 := ⟨_, rfl⟩
    have hg8 : w7.grownBy w8 (some (w.heap.size + 1 + 1)) := by rw [hw8]; exact ⟨rfl, rfl, rfl, Nat.le_refl _, fun _ _ _ => rfl⟩
    have hr8 : Row w8 (w.heap.size + 1 + 1) 61 told9 := by rw [hw8]; exact M7.out.r2
    rw [← hw8]
    clear hw8
    have R8 : Row w8 (w.heap.size + 1 + 1) 61 (tCells told0 (.slice none 0 0)) := hr8
    obtain ⟨t, ht⟩ : ∃ t : Told, t = told0 := ⟨_, rfl⟩
    obtain ⟨v, hv⟩ : ∃ v : Value, v = (.slice none 0 0) := ⟨_, rfl⟩
    rw [← ht, ← hv] at R8
    have HON : Hid ((tCells t v).all (·.oneCell') = true) := Lib.hid (by rw [ht, hv]; rfl)
    have HT : Hid (t = tell m H q) := Lib.hid (ht.trans HTT.out)
    have hr1 := M7.out.r1.grown hg8 (fun e => M7.out.n12 (Option.some.inj e))
    have HG8 := Lib.hid hg8
    have HTE := Lib.hid ht
    have HVE := Lib.hid hv
    clear hr8 ht hv hg8
    try go_frame
    go_wp2_with (first | refine wpL_loadRow rfl _ _ rfl rfl R8 Try.underlying61 rfl (by kernel_rfl) ?_ | (refine wpL_storeRow rfl _ _ _ rfl (cs := tCells t v) rfl rfl hr1 (by kernel_rfl) rfl HON.out ?_; intro w9 hg9 hr9))
    (try simp only [Exit.inBlock, Exit.then])
    refine bodyPost_ret (results_cell_row Try.results36 _ _ (w.heap.size + 1) 61 _ (0, 0) _ rfl hr9 Try.underlying61 rfl (by kernel_rfl)) rfl ?_
    have k8 : St (fun y => y = 7) col7 w7 col7 w8 := St.one HG8.out _ _ M7.out.c2
    have k9 : St (fun y => y = 7) col7 w8 col7 w9 := St.one hg9 _ _ M7.out.c1
    refine ⟨t, v, rfl, Lib.hid ⟨HT.out, col7, (K7.out.fresh1 HG8.out (by omega)).fresh1 hg9 (by omega), by rw [← HH'.out]; exact (H7.out.st k8 (rq_ne rq7)).st k9 (rq_ne rq7), ?_⟩⟩
    rw [HTE.out, HVE.out]
    exact Sl.nil _ _
end Go.Proofs.Ytekmgffjdheifaa
