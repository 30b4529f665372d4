/-
  A heap's Alloc. Conditions: the heap reads as one; objects of 2^20 words and bytes of text at most.
-/
import Derived.Test.YtekmgffjdheifaaHpC
namespace Go.Proofs.Ytekmgffjdheifaa
open Go.RowKit
set_option linter.unusedVariables false
set_option linter.unusedSimpArgs false
set_option maxRecDepth 100000

section
variable {col col' : Nat → Nat} {w w' : World} {b m bm bt : Nat} {H : List Th} {ks ts : List Int} {at_ : Int → Option Nat} {tf : Int → Int}
theorem allocE_zero {o : Ob} (hE : allocE H m o = 0) : mayO o = true ∧ (o.k = 8 → ofH H o.t = 0) ∧ usedH H + sizeO o ≤ m := by
  unfold allocE at hE
  split at hE
  · cases hE
  rename_i hm
  split at hE
  · cases hE
  rename_i ht
  split at hE
  · cases hE
  rename_i hu
  refine ⟨by cases e : mayO o with | true => rfl | false => exact absurd e hm, fun h8 => ?_, by omega⟩
  have := ofH_nn H o.t
  by_cases hz : 0 < ofH H o.t
  · exact absurd ⟨h8, hz⟩ ht
  · omega
theorem nodup_few : ∀ (N : Nat) (l : List Int), l.Nodup → (∀ x ∈ l, 1 ≤ x ∧ x ≤ N) → l.length ≤ N
  | 0, l, _, h => by
    cases l with
    | nil => exact Nat.le_refl _
    | cons x l => have := h x (by simp); omega
  | N + 1, l, hn, h => by
    have ih := nodup_few N (l.erase ((N : Int) + 1)) (hn.erase _) (fun x hx => by
      obtain ⟨h1, h2⟩ := (List.Nodup.mem_erase_iff hn).1 hx
      have := h x h2
      omega)
    by_cases hm : ((N : Int) + 1) ∈ l
    · rw [List.length_erase_of_mem hm] at ih
      omega
    · rw [List.erase_of_not_mem hm] at ih
      omega
theorem HpIn.few (h : HpIn col w b m H bm bt ks at_ ts tf) (hg : Good H m) : ts.length ≤ 16384 :=
  nodup_few 16384 ts h.tm.nodup (fun x hx => by
    obtain ⟨h1, h2⟩ := hg.ofPos ((h.tk x).1 hx)
    have := hg.oid (ofH H x)
    omega)
/-- one thing more -/
theorem HpIn.grow (h : HpIn col w b m H bm bt ks at_ ts tf) (hg : Good H m) {o : Ob} (hE : allocE H m o = 0) (km : St (fun y => y = 5) col w col' w') {g : Nat} {ts' : List Int} {tf' : Int → Int}
    (row : Row w' b 80 [.int .i64 (m : Nat), .int .i64 (usedH H + sizeO o : Nat), .int .i64 (H.length : Nat), .map (some bm), .map (some bt)])
    (mp : MapIs ptrE Try.prog 3 w' bm (putK ks (H.length : Nat)) (upd at_ (H.length : Nat) (some g))) (tm : MapIs intE Try.prog 3 w' bt ts' tf') (hx : ThAt (hc (H.length : Nat)) col' w' g (newTh o))
    (ht8 : o.k = 8 → ts' = putK ts o.t ∧ tf' = upd tf o.t (H.length : Nat)) (ht0 : o.k ≠ 8 → ts' = ts ∧ tf' = tf) : HpAt col' w' b m (allocH H m o) := by
  obtain ⟨e1, e2, e3⟩ := allocE_zero hE
  have hg' := alloc_good hg hE
  have hlen := hg.len
  have hend : thAt H (H.length : Nat) = noTh := thAt_ge (Int.le_refl _)
  have hof : (∀ y, ofH (H ++ [newTh o]) y = if o.k = 8 then upd (ofH H) o.t (H.length : Nat) y else ofH H y) := fun y => by
    by_cases h8 : o.k = 8
    · rw [if_pos h8]
      refine of_more hg hg' (by have := may_stub e1 h8; omega) (e2 h8) (k := (H.length : Nat)) (by rw [hend]; rfl) (fun j => ?_) y
      rw [thAt_snoc]
      split
      · show (if o.k = 8 then o.t else 0) = o.t
        exact if_pos h8
      · rfl
    · rw [if_neg h8]
      refine of_same hg hg' (fun j => ?_) y
      rw [thAt_snoc]
      split
      · rename_i hj
        rw [hj, hend]
        show (if o.k = 8 then o.t else 0) = 0
        exact if_neg h8
      · rfl
  have hnot : ((H.length : Nat) : Int) ∉ ks := fun hm => by
    have := (h.keys _).1 hm
    rw [hend] at this
    cases this
  refine ⟨bm, bt, putK ks (H.length : Nat), upd at_ (H.length : Nat) (some g), ts', tf', ?_⟩
  rw [allocH, if_pos hE]
  refine ⟨?_, (km.ext b h.row.lt).trans h.cb, (km.ext bm h.mp.lt).trans h.cm, (km.ext bt h.tm.lt).trans h.ct, mp, tm, h.nm, h.nt, h.nn, fun k => ?_, fun k hk => ?_, fun x => ?_, fun x => ?_⟩
  · have ez : sz (newTh o) = sizeO o := rfl
    rw [usedH_snoc, ez, List.length_append, List.length_singleton, show (((H.length + 1 : Nat) : Int) - 1) = (H.length : Nat) by omega]
    exact row
  · rw [thAt_snoc, mem_putK, h.keys k]
    split
    · rename_i hk
      exact ⟨fun _ => rfl, fun _ => .inr hk⟩
    · rename_i hk
      exact ⟨fun h => h.resolve_right hk, .inl⟩
  · rw [thAt_snoc]
    by_cases e : k = (H.length : Nat)
    · rw [if_pos e]
      subst e
      exact ⟨g, upd_same _ _ _, hx⟩
    · rw [if_neg e]
      have hk' := (mem_putK.1 hk).resolve_right e
      obtain ⟨gj, h1, h2⟩ := h.th k hk'
      exact ⟨gj, (upd_other e).trans h1, h2.st km (fun h => by unfold hc at h; omega)⟩
  · rw [hof]
    by_cases h8 : o.k = 8
    · rw [(ht8 h8).1, if_pos h8, mem_putK, h.tk x]
      unfold upd
      split
      · rename_i hx
        exact ⟨fun _ => by omega, fun _ => .inr hx⟩
      · rename_i hx
        exact ⟨fun h => h.resolve_right hx, .inl⟩
    · rw [(ht0 h8).1, if_neg h8]
      exact h.tk x
  · rw [hof]
    by_cases h8 : o.k = 8
    · rw [(ht8 h8).2, if_pos h8]
      unfold upd
      split
      · rfl
      · exact h.tv x
    · rw [(ht0 h8).2, if_neg h8]
      exact h.tv x
end
theorem later_tlook {col : Nat → Nat} {w : World} {b m bm bt : Nat} {H : List Th} {ks ts : List Int} {at_ : Int → Option Nat} {tf : Int → Int} (h : HpIn col w b m H bm bt ks at_ ts tf) {x : Int} (hx : (Lit.int .i64 x).wf = true) {v : Value} (hv : .tuple #[.int .i64 (ofH H x), .bool (decide (0 < ofH H x))] = v) :
    ∀ y : Later Rb w.drew, (Instr.lookup 78 (.map (some bt)) (.int .i64 x) true).run Try.prog y.w = .ok v y.w := fun y => by
  rw [← hv]
  exact ((h.fresh (Below.refl _ _).drew).fresh y.later).tlook hx
def AllocP (H : List Th) (m : Nat) (o : Ob) (col : Nat → Nat) (w : World) (b : Nat) (e : Ending) (w' : World) : Prop :=
  ∃ N E, e = .returned (.tuple #[.int .i64 N, .int .i64 E]) ∧ Hid (N = allocN H m o ∧ E = allocE H m o ∧ ∃ col', St HQ col w col' w' ∧ HpAt col' w' b m (allocH H m o))
theorem alloc_nil (v : Value) (hv : ∃ cs, v = .agg cs) (w : World) (cs : Array Value) : Calls Try.prog 13 #[.pointer none, .agg cs] w fun e w' => e = .returned (.tuple #[.int .i64 0, .int .i64 2]) ∧ Below w.heap.size w w' := by
  go_enter Try.func13, Try.ntmps13
  go_wp2_with fail
  go_ret2
  exact ⟨rfl, (Below.refl _ _).alloc (Nat.le_refl _) _⟩
set_option maxHeartbeats 8000000 in
theorem alloc_p {col : Nat → Nat} {w : World} {b m bm bt : Nat} {H : List Th} {ks ts : List Int} {at_ : Int → Option Nat} {tf : Int → Int} (h : HpIn col w b m H bm bt ks at_ ts tf) (hg : Good H m) (hm : m ≤ 16777216) (hlen9 : H.length ≤ 1000000)
    (o : Ob) (a : Option Addr) (n c : Nat) (hn : o.l.length = n) (hn9 : n ≤ 1048576) (hs9 : o.s.length ≤ 1048576) (hl : Sl w 2 (.slice a n c) n (wcells o.l)) (ht : (Lit.int .i64 o.t).wf = true) :
    Calls Try.prog 13 #[.pointer (some ⟨b, 0, none⟩), .agg #[.int .u8 (o.k.toNat : Int), .int .i64 o.t, .slice a n c, .string (str o.s)]] w (AllocP H m o col w b) := by
  obtain ⟨w1, hw1⟩ : ∃ x, x = w.alloc (.cells #[.int .u8 (o.k.toNat : Int), .int .i64 o.t, .slice a n c, .string (str o.s)] 25) := ⟨_, rfl⟩
  have hb1 : Below w.heap.size w w1 := by rw [hw1]; exact (Below.refl _ _).alloc (Nat.le_refl _) _
  have hr1 : Row w1 w.heap.size 25 [.int .u8 (o.k.toNat : Int), .int .i64 o.t, .slice a n c, .string (str o.s)] := by rw [hw1]; exact Row.new w _ _
  have HR1 := Lib.hid hr1
  have HL1 := Lib.hid (hl.below hb1)
  have HB1 := Lib.hid hb1
  have HH := Lib.hid h
  have c0 := hr1.cell 0
  have c1 := hr1.cell 1
  have c2 := hr1.cell 2
  have c3 := hr1.cell 3
  simp only [List.getElem?_cons_zero, List.getElem?_cons_succ] at c0 c1 c2 c3
  clear hl h hb1 hr1
  go_enter Try.func13, Try.ntmps13
  go_upto_region 1 with fail
  rw [← hw1]
  clear hw1
  try go_frame
  go_wp2_with fail
  obtain ⟨X, hX⟩ : ∃ X, X = mayO o := ⟨_, rfl⟩
  refine (mayO_p o a n c w1 hn HL1.out X (Lib.hid hX)).mono ?_
  rintro e w2 ⟨rfl, hb2⟩
  have HX := Lib.hid hX
  clear hX
  cases X with
  | false =>
    go_wp2_with fail
    go_ret2
    have hE : allocE H m o = 1 := by rw [allocE, if_pos HX.out.symm]
    exact ⟨0, 1, rfl, Lib.hid ⟨by rw [allocN, hE]; rfl, hE.symm, col, St.fresh (HB1.out.trans (hb2.mono HB1.out.size)) _ _, by rw [allocH, hE]; exact ⟨bm, bt, ks, at_, ts, tf, HH.out.fresh (HB1.out.trans (hb2.mono HB1.out.size))⟩⟩⟩
  | true =>
  obtain ⟨ns, hns⟩ : ∃ x, x = o.s.length := ⟨_, rfl⟩
  have HNS := Lib.hid hns
  rw [← hns] at hs9
  obtain ⟨Z, hZ⟩ : ∃ x, x = sizeO o := ⟨_, rfl⟩
  have HZ := Lib.hid hZ
  have hZ9 : Z ≤ 2097153 := by rw [hZ, sizeO]; split <;> omega
  obtain ⟨u, hu⟩ : ∃ x, x = usedH H := ⟨_, rfl⟩
  have HUU := Lib.hid hu
  have hu9 : u ≤ 16777216 := by have := hg.room; omega
  obtain ⟨nL, hnL⟩ : ∃ x, x = H.length - 1 := ⟨_, rfl⟩
  have HLN : Hid ((H.length : Int) - 1 = (nL : Int)) := Lib.hid (by have := hg.len; omega)
  have HLS : Hid ((H.length : Int) = (nL : Int) + 1) := Lib.hid (by have := hg.len; omega)
  have hnL9 : nL ≤ 1000000 := by omega
  clear hns hZ hu hnL
  have HB2 := Lib.hid (HB1.out.trans (hb2.mono HB1.out.size))
  have HR2 := Lib.hid (HR1.out.after hb2)
  have HL2 := Lib.hid (HL1.out.below hb2)
  clear HB1 HR1 HL1 c0 c1 c2 c3 hb2
  have c0 : w2.cell? ⟨w.heap.size, 0, none⟩ = some (.int .u8 (o.k.toNat : Int)) := HR2.out.cell 0
  have c1 : w2.cell? ⟨w.heap.size, 1, none⟩ = some (.int .i64 o.t) := HR2.out.cell 1
  have c2 : w2.cell? ⟨w.heap.size, 2, none⟩ = some (.slice a n c) := HR2.out.cell 2
  have c3 : w2.cell? ⟨w.heap.size, 3, none⟩ = some (.string (str o.s)) := HR2.out.cell 3
  go_wp2_with fail
  refine (cloneO_any o.k.toNat o.t a n c o.l (str o.s) w2 HL2.out (by omega)).mono ?_
  rintro e w3 ⟨v, rfl, ho3, hb3⟩
  obtain ⟨av, cv, rfl⟩ := ho3.form
  have HB3 := Lib.hid (HB2.out.trans (hb3.mono HB2.out.size))
  have HR3 := Lib.hid (HR2.out.after hb3)
  have HO3 := Lib.hid (ho3.mono HB2.out.size)
  clear HB2 HR2 HL2 c0 c1 c2 c3 hb3 ho3
  go_upto_region 6 with fail
  obtain ⟨w4, hw4⟩ : ∃ x, x = w3.alloc (.cells #[.int .u8 (o.k.toNat : Int), .int .i64 o.t, .slice av n cv, .string (str o.s), .int .i64 0, .bool false] 85) := ⟨_, rfl⟩
  rw [← hw4]
  have hb4 : Below w3.heap.size w3 w4 := by rw [hw4]; exact (Below.refl _ _).alloc (Nat.le_refl _) _
  have hr4 : Row w4 w3.heap.size 85 [.int .u8 (o.k.toNat : Int), .int .i64 o.t, .slice av n cv, .string (str o.s), .int .i64 0, .bool false] := by rw [hw4]; exact Row.new w3 _ _
  have HRW := Lib.hid (HR3.out.after hb4)
  have HOW := Lib.hid (HO3.out.below hb4)
  have HBW := Lib.hid (HB3.out.trans (hb4.mono HB3.out.size))
  have HR4 := Lib.hid hr4
  have HGL : Hid (w.heap.size < w3.heap.size) := Lib.hid HR3.out.lt
  have HG : Hid (w.heap.size ≤ w3.heap.size ∧ ∀ x, (Value.slice av n cv).ownBlock = some x → x ≠ w3.heap.size) := Lib.hid ⟨HB3.out.size, fun x hx e => by have := HO3.out.lives x hx; omega⟩
  clear hw4 hb4 hr4 HR3 HO3 HB3
  try go_frame
  have p0 : (w4).cell? ⟨w.heap.size, 0, none⟩ = some (.int .u8 (o.k.toNat : Int)) := HRW.out.cell 0
  have p1 : (w4).cell? ⟨w.heap.size, 1, none⟩ = some (.int .i64 o.t) := HRW.out.cell 1
  have p2 : (w4).cell? ⟨w.heap.size, 2, none⟩ = some (.slice a n c) := HRW.out.cell 2
  have p3 : (w4).cell? ⟨w.heap.size, 3, none⟩ = some (.string (str o.s)) := HRW.out.cell 3
  by_cases k8 : o.k.toNat = 8
  · have e8 : ((o.k.toNat : Int) == 8) = true := by rw [k8]; rfl
    have hk8 : o.k = 8 := u8_eq.2 k8
    have HK8 := Lib.hid hk8
    have HMS := Lib.hid (may_stub HX.out.symm hk8)
    clear hk8 k8
    go_upto_region 7 with fail
    obtain ⟨Y, hY⟩ : ∃ x, x = ofH H o.t := ⟨_, rfl⟩
    obtain ⟨Y2, hY2⟩ : ∃ x, x = decide (0 < ofH H o.t) := ⟨_, rfl⟩
    have q0 := later_cell p1
    have q1 := later_cell (HH.out.fresh HBW.out).c4
    have q2 := later_tlook (HH.out.fresh HBW.out) ht (v := .tuple #[.int .i64 Y, .bool Y2]) (by rw [hY, hY2])
    have HY2 := Lib.hid hY2
    clear hY hY2
    try go_frame
    refine wp_region_idx Rb Rb_refl Rb_trans [(0,0),(0,1),(0,2),(0,3),(0,4),(0,5),(0,6),(0,7),(0,8),(0,9),(0,10),(0,11)] (by kernel_rfl) (by kernel_rfl) (by kernel_rfl) ?_
    simp only [pickO, List.getD_cons_succ, List.getD_cons_zero]
    refine wpCan_seg 12 (by kernel_rfl) ?_
    simp only [List.take_succ_cons, List.take_zero, List.drop_succ_cons, List.drop_zero, List.map_cons, List.map_nil]
    iterate 12 (go_big_quiet_step (fail))
    refine wpQuiet_nil ?_
    clear q0 q1 q2 p0 p1 p2 p3
    unfold wpCan
    have hbd : Below w4.heap.size w4 w4.drew := (Below.refl _ _).drew
    obtain ⟨w5, hw5⟩ : ∃ x, x = w4.drew := ⟨_, rfl⟩
    rw [← hw5] at hbd ⊢
    have hsz5 : w4.heap.size ≤ w5.heap.size := hbd.size
    replace HRW := Lib.hid (HRW.out.after hbd)
    replace HOW := Lib.hid (HOW.out.below hbd)
    replace HBW := Lib.hid (HBW.out.trans (hbd.mono HBW.out.size))
    have hr5 : Row w5 w3.heap.size 85 [.int .u8 (o.k.toNat : Int), .int .i64 o.t, .slice av n cv, .string (str o.s), .int .i64 0, .bool false] := HR4.out.after hbd
    clear hw5 HR4 hbd
    cases Y2 with
    | true =>
      go_wp2_with fail
      go_ret2
      have hE : allocE H m o = 3 := by rw [allocE, if_neg (by rw [← HX.out]; exact Bool.noConfusion), if_pos ⟨HK8.out, of_decide_eq_true HY2.out.symm⟩]
      exact ⟨0, 3, rfl, Lib.hid ⟨by rw [allocN, hE]; rfl, hE.symm, col, St.fresh HBW.out _ _, by rw [allocH, hE]; exact ⟨bm, bt, ks, at_, ts, tf, HH.out.fresh HBW.out⟩⟩⟩
    | false =>
      have HU8 : Hid (¬ (o.k = 8 ∧ 0 < ofH H o.t)) := Lib.hid (fun h => of_decide_eq_false HY2.out.symm h.2)
      have p1 : w5.cell? ⟨w.heap.size, 1, none⟩ = some (.int .i64 o.t) := HRW.out.cell 1
      go_upto_region 11 with (refine wpL_storeAt rfl _ _ _ rfl (v := .int .i64 o.t) rfl rfl rfl rfl (by kernel_rfl) hr5 rfl ?_; intro w6 hg6 hr6)
      have hne0 : w.heap.size ≠ w3.heap.size := Nat.ne_of_lt HGL.out
      have HTW : Hid (Row w6 w3.heap.size 85 (thRow (.slice av n cv) (newTh o))) := Lib.hid (by
        show Row w6 w3.heap.size 85 [_, _, _, _, .int .i64 (if o.k = 8 then o.t else 0), _]
        rw [if_pos HK8.out]
        exact hr6)
      replace HRW := Lib.hid (HRW.out.grown hg6 (fun e => hne0 (Option.some.inj e)))
      replace HOW := Lib.hid (HOW.out.kept hg6 (by cases hv : (Value.slice av n cv).ownBlock with | none => exact .inl rfl | some x => exact .inr (fun e => HG.out.2 x hv (Option.some.inj e))))
      replace HBW := Lib.hid (below_grown HBW.out hg6 HG.out.1 HBW.out.size)
      clear hr5 hr6 hg6 p1 HY2
      go_upto_region 11 with fail
      have p0 : (w6).cell? ⟨w.heap.size, 0, none⟩ = some (.int .u8 (o.k.toNat : Int)) := HRW.out.cell 0
      have p1 : (w6).cell? ⟨w.heap.size, 1, none⟩ = some (.int .i64 o.t) := HRW.out.cell 1
      have p2 : (w6).cell? ⟨w.heap.size, 2, none⟩ = some (.slice a n c) := HRW.out.cell 2
      have p3 : (w6).cell? ⟨w.heap.size, 3, none⟩ = some (.string (str o.s)) := HRW.out.cell 3
      have q0 := later_cell p0
      have q1 := later_cell p1
      have q2 := later_cell p2
      have q3 := later_cell p3
      have q4 := later_cell (HH.out.fresh HBW.out).c0
      have q6 : (w6).cell? ⟨b, 1, none⟩ = some (.int .i64 (u : Nat)) := by rw [HUU.out]; exact (HH.out.fresh HBW.out).c1
      have q5 := later_cell q6
      clear q6
      clear p0 p1 p2 p3
      try go_frame
      refine wp_region_idx Rb Rb_refl Rb_trans [(0,0),(0,2),(0,3),(0,4),(0,5),(0,6),(0,7),(0,8),(0,9),(0,10),(1,1),(0,11)] (by kernel_rfl) (by kernel_rfl) (by kernel_rfl) ?_
      simp only [pickO, List.getD_cons_succ, List.getD_cons_zero]
      refine wpCan_seg 10 (by kernel_rfl) ?_
      simp only [List.take_succ_cons, List.take_zero, List.drop_succ_cons, List.drop_zero, List.map_cons, List.map_nil]
      iterate 10 (go_big_quiet_step (fail))
      refine wpQuiet_nil ?_
      clear q0 q1 q2 q3 q4 q5
      refine wpCan_list (k := 0) (fun KK hK => ?_) (fun _ => Rb_refl _)
      go_wp2_with fail
      refine (size_any o a n c ns (w6).drew hn HNS.out.symm (by omega) (by omega) Z HZ).mono ?_
      rintro e w11 ⟨rfl, hb11⟩
      go_wp2_with fail
      refine hK _ _ (fun _ => hb11) ?_
      clear hK KK
      refine wpCan_seg 1 (by kernel_rfl) ?_
      simp only [List.take_succ_cons, List.take_zero, List.drop_succ_cons, List.drop_zero, List.map_cons, List.map_nil]
      iterate 1 (go_big_quiet_step (fail))
      refine wpQuiet_nil ?_
      unfold wpCan
      have hb11' : Below (w6).heap.size w6 w11 := (Below.refl (w6).heap.size w6).drew.trans hb11
      have HB11 := Lib.hid (HBW.out.trans (hb11'.mono HBW.out.size))
      have HT11 := Lib.hid (HTW.out.after hb11')
      have HO11 := Lib.hid (HOW.out.below hb11')
      have HR11 := Lib.hid (HRW.out.after hb11')
      clear hb11 hb11' HBW HTW HOW HRW
      by_cases hfull : m < u + Z
      · have hfull' : (m : Int) - (u : Int) < (Z : Int) := by omega
        go_wp2_with fail
        go_ret2
        have hE : allocE H m o = 6 := by rw [allocE, if_neg (by rw [← HX.out]; exact Bool.noConfusion), if_neg HU8.out, if_pos (by rw [← HUU.out, ← HZ.out]; exact hfull)]
        exact ⟨0, 6, rfl, Lib.hid ⟨by rw [allocN, hE]; rfl, hE.symm, col, St.fresh HB11.out _ _, by rw [allocH, hE]; exact ⟨bm, bt, ks, at_, ts, tf, HH.out.fresh HB11.out⟩⟩⟩
      have hfull' : (Z : Int) ≤ (m : Int) - (u : Int) := by omega
      have HE : Hid (allocE H m o = 0) := Lib.hid (by rw [allocE, if_neg (by rw [← HX.out]; exact Bool.noConfusion), if_neg HU8.out, if_neg (by rw [← HUU.out, ← HZ.out]; exact hfull)])
      have hrow : Row w11 b 80 [.int .i64 (m : Nat), .int .i64 (u : Nat), .int .i64 (nL : Nat), .map (some bm), .map (some bt)] := by
        have := (HH.out.fresh HB11.out).row
        rw [← HUU.out, HLN.out] at this
        exact this
      have d2 : w11.cell? ⟨b, 2, none⟩ = some (.int .i64 (nL : Nat)) := hrow.cell 2
      go_upto_region 14 with (refine wpL_storeAt rfl _ _ _ rfl (v := .int .i64 ((nL : Int) + 1)) rfl (by first | rfl | go_num) rfl rfl (by kernel_rfl) hrow rfl ?_; intro w13 hg13 hr13)
      have hr13' : Row w13 b 80 [.int .i64 (m : Nat), .int .i64 (u : Nat), .int .i64 ((nL : Int) + 1), .map (some bm), .map (some bt)] := hr13
      have hbl : b < w.heap.size := HH.out.row.lt
      have K13 := Lib.hid (Mods.grown hg13)
      have hne : w.heap.size ≠ b := by omega
      have hng : w3.heap.size ≠ b := by have := HG.out.1; omega
      have HR13 := Lib.hid (HR11.out.grown hg13 (fun e => hne (Option.some.inj e)))
      have HT13 := Lib.hid (HT11.out.grown hg13 (fun e => hng (Option.some.inj e)))
      have HO13 := Lib.hid (HO11.out.kept hg13 (own_ne HO11.out hbl))
      have HM13 := Lib.hid ((HH.out.fresh HB11.out).mp.kept hg13 (fun e => HH.out.nm (Option.some.inj e)))
      have HI13 := Lib.hid ((HH.out.fresh HB11.out).tm.kept hg13 (fun e => HH.out.nt (Option.some.inj e)))
      have q0 := later_cell (hr13'.cell 1 : w13.cell? ⟨b, 1, none⟩ = some (.int .i64 (u : Nat)))
      have q1 := later_cell (HR13.out.cell 0 : w13.cell? ⟨w.heap.size, 0, none⟩ = some (.int .u8 (o.k.toNat : Int)))
      have q2 := later_cell (HR13.out.cell 1 : w13.cell? ⟨w.heap.size, 1, none⟩ = some (.int .i64 o.t))
      have q3 := later_cell (HR13.out.cell 2 : w13.cell? ⟨w.heap.size, 2, none⟩ = some (.slice a n c))
      have q4 := later_cell (HR13.out.cell 3 : w13.cell? ⟨w.heap.size, 3, none⟩ = some (.string (str o.s)))
      have HRW13 := Lib.hid hr13'
      clear hrow d2 hr13 hr13' hg13 HR11 HT11 HO11
      try go_frame
      refine wp_region_idx Rb Rb_refl Rb_trans [(0,0),(0,1),(0,2),(0,3),(0,4),(1,5),(0,6),(0,7),(0,8),(2,9)] (by kernel_rfl) (by kernel_rfl) (by kernel_rfl) ?_
      simp only [pickO, List.getD_cons_succ, List.getD_cons_zero]
      refine wpCan_seg 5 (by kernel_rfl) ?_
      simp only [List.take_succ_cons, List.take_zero, List.drop_succ_cons, List.drop_zero, List.map_cons, List.map_nil]
      iterate 5 (go_big_quiet_step (fail))
      refine wpQuiet_nil ?_
      clear q0 q1 q2 q3 q4
      refine wpCan_list (k := 0) (fun KK hK => ?_) (fun _ => Rb_refl _)
      go_wp2_with fail
      refine (size_any o a n c ns w13.drew hn HNS.out.symm (by omega) (by omega) Z HZ).mono ?_
      rintro e w14 ⟨rfl, hb14⟩
      go_wp2_with fail
      refine hK _ _ (fun _ => hb14) ?_
      clear hK KK
      have hb14' : Below w13.heap.size w13 w14 := (Below.refl w13.heap.size w13).drew.trans hb14
      have HB14 := Lib.hid hb14'
      have hrow := HRW13.out.after hb14'
      clear hb14 hb14' HR13
      refine wpCan_seg 3 (by kernel_rfl) ?_
      simp only [List.take_succ_cons, List.take_zero, List.drop_succ_cons, List.drop_zero, List.map_cons, List.map_nil]
      iterate 3 (go_big_quiet_step (fail))
      refine wpQuiet_nil ?_
      refine wpCan_list (k := 1) (fun KK hK => ?_) (fun h => by cases h)
      refine wpL_storeAt rfl _ _ _ rfl (v := .int .i64 ((u : Int) + (Z : Int))) rfl rfl rfl rfl (by kernel_rfl) hrow rfl ?_
      intro w15 hg15 hr15
      refine hK _ _ (fun h => by cases h) ?_
      clear hK KK
      unfold wpCan
      have HR15 : Hid (Row w15 b 80 [.int .i64 (m : Nat), .int .i64 ((u : Int) + (Z : Int)), .int .i64 ((nL : Int) + 1), .map (some bm), .map (some bt)]) := Lib.hid hr15
      have K15 := Lib.hid ((K13.out.trans (Mods.fresh HB14.out _)).trans (Mods.grown hg15))
      have HT15 := Lib.hid ((HT13.out.after HB14.out).grown hg15 (fun e => hng (Option.some.inj e)))
      have HO15 := Lib.hid ((HO13.out.below HB14.out).kept hg15 (own_ne HO13.out hbl))
      have HM15 := Lib.hid ((HM13.out.below HB14.out).kept hg15 (fun e => HH.out.nm (Option.some.inj e)))
      have HI15 := Lib.hid ((HI13.out.below HB14.out).kept hg15 (fun e => HH.out.nt (Option.some.inj e)))
      clear hrow hg15 hr15 HB14 HRW13 K13 HT13 HO13 HM13 HI13
      go_upto_region 15 with fail
      have q0 := later_cell (HR15.out.cell 3 : w15.cell? ⟨b, 3, none⟩ = some (.map (some bm)))
      have q1 := later_cell (HR15.out.cell 2 : w15.cell? ⟨b, 2, none⟩ = some (.int .i64 ((nL : Int) + 1)))
      have hmp := HM15.out.below (Below.refl w15.heap.size w15).drew
      have hks : ks.length < maxLen := by
        have h1 := HH.out.count
        have h2 : countH H ≤ H.length := List.countP_le_length
        simp only [maxLen]
        omega
      have hkey : (Lit.int .i64 ((nL : Int) + 1)).wf = true := wf_lit (by omega) (by omega)
      try go_frame
      refine wp_region_idx Rb Rb_refl Rb_trans [(0,0),(0,1),(0,2),(0,3),(0,4),(0,5),(0,6),(0,7),(0,8),(2,9)] (by kernel_rfl) (by kernel_rfl) (by kernel_rfl) ?_
      simp only [pickO, List.getD_cons_succ, List.getD_cons_zero]
      refine wpCan_seg 9 (by kernel_rfl) ?_
      simp only [List.take_succ_cons, List.take_zero, List.drop_succ_cons, List.drop_zero, List.map_cons, List.map_nil]
      iterate 9 (go_big_quiet_step (fail))
      refine wpQuiet_nil ?_
      clear q0 q1
      refine wpCan_list (k := 1) (fun KK hK => ?_) (fun h => by cases h)
      refine wpL_put hmp keyInt mapTh hks rfl _ _ _ rfl rfl rfl hkey (some w3.heap.size) rfl ?_
      intro w16 hm16 hg16
      refine hK _ _ (fun h => by cases h) ?_
      clear hK KK hmp hks
      unfold wpCan
      have hbd : Below w15.heap.size w15 w15.drew := (Below.refl _ _).drew
      have hnm : bm ≠ b := HH.out.nm
      have hbm : bm < w.heap.size := HH.out.mp.lt
      have hgm : w3.heap.size ≠ bm := by have := HG.out.1; omega
      have HR16 := Lib.hid ((HR15.out.after hbd).grown hg16 (fun e => hnm (Option.some.inj e).symm))
      have K16 : Hid (Mods (fun g => g = b ∨ g = bm ∨ g = bt) w11 w16) := Lib.hid (((K15.out.mono (fun g e => .inl (Option.some.inj e).symm)).trans (Mods.fresh hbd _)).trans ((Mods.grown hg16).mono (fun g e => .inr (.inl (Option.some.inj e).symm))))
      have HT16 := Lib.hid ((HT15.out.after hbd).grown hg16 (fun e => hgm (Option.some.inj e)))
      have HO16 := Lib.hid ((HO15.out.below hbd).kept hg16 (own_ne HO15.out hbm))
      have HI16 := Lib.hid ((HI15.out.below hbd).kept hg16 (fun e => HH.out.nn (Option.some.inj e).symm))
      have HM16 := Lib.hid hm16
      clear hm16 hg16 hbd HR15 K15 HT15 HO15 HM15 HI15
      have hrl : HR16.out = HR16.out := rfl
      clear hrl
      have e2 : w16.cell? ⟨b, 2, none⟩ = some (.int .i64 ((nL : Int) + 1)) := HR16.out.cell 2
      have e3 : w16.cell? ⟨w3.heap.size, 4, none⟩ = some (.int .i64 (newTh o).oid) := HT16.out.cell 4
      rw [show (newTh o).oid = o.t from if_pos HK8.out] at e3
      have hot : 0 < o.t := by have := HMS.out.1; omega
      have q0 := later_cell (HR16.out.cell 4 : w16.cell? ⟨b, 4, none⟩ = some (.map (some bt)))
      have q1 := later_cell e2
      have q2 := later_cell e3
      have hti := HI16.out.below (Below.refl w16.heap.size w16).drew
      have hts : ts.length < maxLen := by
        have := HH.out.few hg
        simp only [maxLen]
        omega
      go_upto_region 17 with fail
      clear e2 e3
      try go_frame
      refine wp_region_idx Rb Rb_refl Rb_trans [(0,0),(0,1),(0,2),(0,3),(0,4),(0,5),(0,6),(0,7),(0,8),(0,9),(0,10),(0,11),(0,12),(2,13)] (by kernel_rfl) (by kernel_rfl) (by kernel_rfl) ?_
      simp only [pickO, List.getD_cons_succ, List.getD_cons_zero]
      refine wpCan_seg 13 (by kernel_rfl) ?_
      simp only [List.take_succ_cons, List.take_zero, List.drop_succ_cons, List.drop_zero, List.map_cons, List.map_nil]
      iterate 13 (go_big_quiet_step (fail))
      refine wpQuiet_nil ?_
      clear q0 q1 q2
      refine wpCan_list (k := 1) (fun KK hK => ?_) (fun h => by cases h)
      refine wpL_put hti keyInt mapTi hts rfl _ _ _ rfl rfl rfl ht ((nL : Int) + 1) rfl ?_
      intro w17 hi17 hg17
      refine hK _ _ (fun h => by cases h) ?_
      clear hK KK hti hts
      unfold wpCan
      have hbd : Below w16.heap.size w16 w16.drew := (Below.refl _ _).drew
      have hnt : bt ≠ b := HH.out.nt
      have hbt : bt < w.heap.size := HH.out.tm.lt
      have hgt : w3.heap.size ≠ bt := by have := HG.out.1; omega
      have HR17 := Lib.hid ((HR16.out.after hbd).grown hg17 (fun e => hnt (Option.some.inj e).symm))
      have K17 : Hid (Mods (fun g => g = b ∨ g = bm ∨ g = bt) w11 w17) := Lib.hid ((K16.out.trans (Mods.fresh hbd _)).trans ((Mods.grown hg17).mono (fun g e => .inr (.inr (Option.some.inj e).symm))))
      have HT17 := Lib.hid ((HT16.out.after hbd).grown hg17 (fun e => hgt (Option.some.inj e)))
      have HO17 := Lib.hid ((HO16.out.below hbd).kept hg17 (own_ne HO16.out hbt))
      have HM17 := Lib.hid ((HM16.out.below hbd).kept hg17 (fun e => HH.out.nn (Option.some.inj e)))
      have HI17 := Lib.hid hi17
      clear hi17 hg17 hbd HR16 K16 HT16 HO16 HM16 HI16
      have e2 : w17.cell? ⟨b, 2, none⟩ = some (.int .i64 ((nL : Int) + 1)) := HR17.out.cell 2
      go_wp2_with fail
      go_ret2
      have hE := HE.out
      refine ⟨(nL : Int) + 1, 0, rfl, Lib.hid ⟨by rw [allocN, if_pos hE]; exact HLS.out.symm, hE.symm, recol col w.heap.size (hc (H.length : Nat)), ?_, ?_⟩⟩
      · refine (St.new HB11.out _ _ _).trans ⟨(K17.out).mono fun g hg => ?_, fun _ _ => rfl⟩
        refine .inl ?_
        rcases hg with rfl | rfl | rfl
        · exact (recol_lt HH.out.row.lt).trans HH.out.cb
        · exact (recol_lt HH.out.mp.lt).trans HH.out.cm
        · exact (recol_lt HH.out.tm.lt).trans HH.out.ct
      · refine HH.out.grow hg hE ((St.new HB11.out _ _ _).trans ⟨(K17.out).mono fun g hg => ?_, fun _ _ => rfl⟩) ?_ (by rw [HLS.out]; exact HM17.out) HI17.out ⟨.slice av n cv, HT17.out, recol_ge HG.out.1, ⟨by have := (HO17.out).mono (Nat.zero_le _); rw [show (newTh o).o.l.length = n from hn]; exact this, fun g hg => recol_ge ((HO17.out).lt g hg)⟩, HG.out.2⟩ (fun _ => ⟨rfl, by rw [HLS.out]⟩) (fun h => absurd HK8.out h)
        · rcases hg with rfl | rfl | rfl
          · exact (recol_lt HH.out.row.lt).trans HH.out.cb
          · exact (recol_lt HH.out.mp.lt).trans HH.out.cm
          · exact (recol_lt HH.out.tm.lt).trans HH.out.ct
        · have e1 : ((u : Int) + (Z : Int)) = ((usedH H + sizeO o : Nat) : Int) := by rw [← HUU.out, ← HZ.out]; omega
          have := HR17.out
          rw [e1, ← HLS.out] at this
          exact this
  · have e8 : ((o.k.toNat : Int) == 8) = false := by rw [beq_eq_false_iff_ne]; omega
    have hk8 : o.k ≠ 8 := fun e => k8 (by rw [e]; rfl)
    have HK8 := Lib.hid hk8
    have HTW : Hid (Row w4 w3.heap.size 85 (thRow (.slice av n cv) (newTh o))) := Lib.hid (by
      have := HR4.out
      show Row w4 w3.heap.size 85 [_, _, _, _, .int .i64 (if o.k = 8 then o.t else 0), _]
      rw [if_neg hk8]
      exact this)
    have HU8 : Hid (¬ (o.k = 8 ∧ 0 < ofH H o.t)) := Lib.hid (fun h => HK8.out h.1)
    clear HR4 hk8 k8
    go_upto_region 11 with fail
    have p0 : (w4).cell? ⟨w.heap.size, 0, none⟩ = some (.int .u8 (o.k.toNat : Int)) := HRW.out.cell 0
    have p1 : (w4).cell? ⟨w.heap.size, 1, none⟩ = some (.int .i64 o.t) := HRW.out.cell 1
    have p2 : (w4).cell? ⟨w.heap.size, 2, none⟩ = some (.slice a n c) := HRW.out.cell 2
    have p3 : (w4).cell? ⟨w.heap.size, 3, none⟩ = some (.string (str o.s)) := HRW.out.cell 3
    have q0 := later_cell p0
    have q1 := later_cell p1
    have q2 := later_cell p2
    have q3 := later_cell p3
    have q4 := later_cell (HH.out.fresh HBW.out).c0
    have q6 : (w4).cell? ⟨b, 1, none⟩ = some (.int .i64 (u : Nat)) := by rw [HUU.out]; exact (HH.out.fresh HBW.out).c1
    have q5 := later_cell q6
    clear q6
    clear p0 p1 p2 p3
    try go_frame
    refine wp_region_idx Rb Rb_refl Rb_trans [(0,0),(0,2),(0,3),(0,4),(0,5),(0,6),(0,7),(0,8),(0,9),(0,10),(1,1),(0,11)] (by kernel_rfl) (by kernel_rfl) (by kernel_rfl) ?_
    simp only [pickO, List.getD_cons_succ, List.getD_cons_zero]
    refine wpCan_seg 10 (by kernel_rfl) ?_
    simp only [List.take_succ_cons, List.take_zero, List.drop_succ_cons, List.drop_zero, List.map_cons, List.map_nil]
    iterate 10 (go_big_quiet_step (fail))
    refine wpQuiet_nil ?_
    clear q0 q1 q2 q3 q4 q5
    refine wpCan_list (k := 0) (fun KK hK => ?_) (fun _ => Rb_refl _)
    go_wp2_with fail
    refine (size_any o a n c ns (w4).drew hn HNS.out.symm (by omega) (by omega) Z HZ).mono ?_
    rintro e w11 ⟨rfl, hb11⟩
    go_wp2_with fail
    refine hK _ _ (fun _ => hb11) ?_
    clear hK KK
    refine wpCan_seg 1 (by kernel_rfl) ?_
    simp only [List.take_succ_cons, List.take_zero, List.drop_succ_cons, List.drop_zero, List.map_cons, List.map_nil]
    iterate 1 (go_big_quiet_step (fail))
    refine wpQuiet_nil ?_
    unfold wpCan
    have hb11' : Below (w4).heap.size w4 w11 := (Below.refl (w4).heap.size w4).drew.trans hb11
    have HB11 := Lib.hid (HBW.out.trans (hb11'.mono HBW.out.size))
    have HT11 := Lib.hid (HTW.out.after hb11')
    have HO11 := Lib.hid (HOW.out.below hb11')
    have HR11 := Lib.hid (HRW.out.after hb11')
    clear hb11 hb11' HBW HTW HOW HRW
    by_cases hfull : m < u + Z
    · have hfull' : (m : Int) - (u : Int) < (Z : Int) := by omega
      go_wp2_with fail
      go_ret2
      have hE : allocE H m o = 6 := by rw [allocE, if_neg (by rw [← HX.out]; exact Bool.noConfusion), if_neg HU8.out, if_pos (by rw [← HUU.out, ← HZ.out]; exact hfull)]
      exact ⟨0, 6, rfl, Lib.hid ⟨by rw [allocN, hE]; rfl, hE.symm, col, St.fresh HB11.out _ _, by rw [allocH, hE]; exact ⟨bm, bt, ks, at_, ts, tf, HH.out.fresh HB11.out⟩⟩⟩
    have hfull' : (Z : Int) ≤ (m : Int) - (u : Int) := by omega
    have HE : Hid (allocE H m o = 0) := Lib.hid (by rw [allocE, if_neg (by rw [← HX.out]; exact Bool.noConfusion), if_neg HU8.out, if_neg (by rw [← HUU.out, ← HZ.out]; exact hfull)])
    have hrow : Row w11 b 80 [.int .i64 (m : Nat), .int .i64 (u : Nat), .int .i64 (nL : Nat), .map (some bm), .map (some bt)] := by
      have := (HH.out.fresh HB11.out).row
      rw [← HUU.out, HLN.out] at this
      exact this
    have d2 : w11.cell? ⟨b, 2, none⟩ = some (.int .i64 (nL : Nat)) := hrow.cell 2
    go_upto_region 14 with (refine wpL_storeAt rfl _ _ _ rfl (v := .int .i64 ((nL : Int) + 1)) rfl (by first | rfl | go_num) rfl rfl (by kernel_rfl) hrow rfl ?_; intro w13 hg13 hr13)
    have hr13' : Row w13 b 80 [.int .i64 (m : Nat), .int .i64 (u : Nat), .int .i64 ((nL : Int) + 1), .map (some bm), .map (some bt)] := hr13
    have hbl : b < w.heap.size := HH.out.row.lt
    have K13 := Lib.hid (Mods.grown hg13)
    have hne : w.heap.size ≠ b := by omega
    have hng : w3.heap.size ≠ b := by have := HG.out.1; omega
    have HR13 := Lib.hid (HR11.out.grown hg13 (fun e => hne (Option.some.inj e)))
    have HT13 := Lib.hid (HT11.out.grown hg13 (fun e => hng (Option.some.inj e)))
    have HO13 := Lib.hid (HO11.out.kept hg13 (own_ne HO11.out hbl))
    have HM13 := Lib.hid ((HH.out.fresh HB11.out).mp.kept hg13 (fun e => HH.out.nm (Option.some.inj e)))
    have HI13 := Lib.hid ((HH.out.fresh HB11.out).tm.kept hg13 (fun e => HH.out.nt (Option.some.inj e)))
    have q0 := later_cell (hr13'.cell 1 : w13.cell? ⟨b, 1, none⟩ = some (.int .i64 (u : Nat)))
    have q1 := later_cell (HR13.out.cell 0 : w13.cell? ⟨w.heap.size, 0, none⟩ = some (.int .u8 (o.k.toNat : Int)))
    have q2 := later_cell (HR13.out.cell 1 : w13.cell? ⟨w.heap.size, 1, none⟩ = some (.int .i64 o.t))
    have q3 := later_cell (HR13.out.cell 2 : w13.cell? ⟨w.heap.size, 2, none⟩ = some (.slice a n c))
    have q4 := later_cell (HR13.out.cell 3 : w13.cell? ⟨w.heap.size, 3, none⟩ = some (.string (str o.s)))
    have HRW13 := Lib.hid hr13'
    clear hrow d2 hr13 hr13' hg13 HR11 HT11 HO11
    try go_frame
    refine wp_region_idx Rb Rb_refl Rb_trans [(0,0),(0,1),(0,2),(0,3),(0,4),(1,5),(0,6),(0,7),(0,8),(2,9)] (by kernel_rfl) (by kernel_rfl) (by kernel_rfl) ?_
    simp only [pickO, List.getD_cons_succ, List.getD_cons_zero]
    refine wpCan_seg 5 (by kernel_rfl) ?_
    simp only [List.take_succ_cons, List.take_zero, List.drop_succ_cons, List.drop_zero, List.map_cons, List.map_nil]
    iterate 5 (go_big_quiet_step (fail))
    refine wpQuiet_nil ?_
    clear q0 q1 q2 q3 q4
    refine wpCan_list (k := 0) (fun KK hK => ?_) (fun _ => Rb_refl _)
    go_wp2_with fail
    refine (size_any o a n c ns w13.drew hn HNS.out.symm (by omega) (by omega) Z HZ).mono ?_
    rintro e w14 ⟨rfl, hb14⟩
    go_wp2_with fail
    refine hK _ _ (fun _ => hb14) ?_
    clear hK KK
    have hb14' : Below w13.heap.size w13 w14 := (Below.refl w13.heap.size w13).drew.trans hb14
    have HB14 := Lib.hid hb14'
    have hrow := HRW13.out.after hb14'
    clear hb14 hb14' HR13
    refine wpCan_seg 3 (by kernel_rfl) ?_
    simp only [List.take_succ_cons, List.take_zero, List.drop_succ_cons, List.drop_zero, List.map_cons, List.map_nil]
    iterate 3 (go_big_quiet_step (fail))
    refine wpQuiet_nil ?_
    refine wpCan_list (k := 1) (fun KK hK => ?_) (fun h => by cases h)
    refine wpL_storeAt rfl _ _ _ rfl (v := .int .i64 ((u : Int) + (Z : Int))) rfl rfl rfl rfl (by kernel_rfl) hrow rfl ?_
    intro w15 hg15 hr15
    refine hK _ _ (fun h => by cases h) ?_
    clear hK KK
    unfold wpCan
    have HR15 : Hid (Row w15 b 80 [.int .i64 (m : Nat), .int .i64 ((u : Int) + (Z : Int)), .int .i64 ((nL : Int) + 1), .map (some bm), .map (some bt)]) := Lib.hid hr15
    have K15 := Lib.hid ((K13.out.trans (Mods.fresh HB14.out _)).trans (Mods.grown hg15))
    have HT15 := Lib.hid ((HT13.out.after HB14.out).grown hg15 (fun e => hng (Option.some.inj e)))
    have HO15 := Lib.hid ((HO13.out.below HB14.out).kept hg15 (own_ne HO13.out hbl))
    have HM15 := Lib.hid ((HM13.out.below HB14.out).kept hg15 (fun e => HH.out.nm (Option.some.inj e)))
    have HI15 := Lib.hid ((HI13.out.below HB14.out).kept hg15 (fun e => HH.out.nt (Option.some.inj e)))
    clear hrow hg15 hr15 HB14 HRW13 K13 HT13 HO13 HM13 HI13
    go_upto_region 15 with fail
    have q0 := later_cell (HR15.out.cell 3 : w15.cell? ⟨b, 3, none⟩ = some (.map (some bm)))
    have q1 := later_cell (HR15.out.cell 2 : w15.cell? ⟨b, 2, none⟩ = some (.int .i64 ((nL : Int) + 1)))
    have hmp := HM15.out.below (Below.refl w15.heap.size w15).drew
    have hks : ks.length < maxLen := by
      have h1 := HH.out.count
      have h2 : countH H ≤ H.length := List.countP_le_length
      simp only [maxLen]
      omega
    have hkey : (Lit.int .i64 ((nL : Int) + 1)).wf = true := wf_lit (by omega) (by omega)
    try go_frame
    refine wp_region_idx Rb Rb_refl Rb_trans [(0,0),(0,1),(0,2),(0,3),(0,4),(0,5),(0,6),(0,7),(0,8),(2,9)] (by kernel_rfl) (by kernel_rfl) (by kernel_rfl) ?_
    simp only [pickO, List.getD_cons_succ, List.getD_cons_zero]
    refine wpCan_seg 9 (by kernel_rfl) ?_
    simp only [List.take_succ_cons, List.take_zero, List.drop_succ_cons, List.drop_zero, List.map_cons, List.map_nil]
    iterate 9 (go_big_quiet_step (fail))
    refine wpQuiet_nil ?_
    clear q0 q1
    refine wpCan_list (k := 1) (fun KK hK => ?_) (fun h => by cases h)
    refine wpL_put hmp keyInt mapTh hks rfl _ _ _ rfl rfl rfl hkey (some w3.heap.size) rfl ?_
    intro w16 hm16 hg16
    refine hK _ _ (fun h => by cases h) ?_
    clear hK KK hmp hks
    unfold wpCan
    have hbd : Below w15.heap.size w15 w15.drew := (Below.refl _ _).drew
    have hnm : bm ≠ b := HH.out.nm
    have hbm : bm < w.heap.size := HH.out.mp.lt
    have hgm : w3.heap.size ≠ bm := by have := HG.out.1; omega
    have HR16 := Lib.hid ((HR15.out.after hbd).grown hg16 (fun e => hnm (Option.some.inj e).symm))
    have K16 : Hid (Mods (fun g => g = b ∨ g = bm ∨ g = bt) w11 w16) := Lib.hid (((K15.out.mono (fun g e => .inl (Option.some.inj e).symm)).trans (Mods.fresh hbd _)).trans ((Mods.grown hg16).mono (fun g e => .inr (.inl (Option.some.inj e).symm))))
    have HT16 := Lib.hid ((HT15.out.after hbd).grown hg16 (fun e => hgm (Option.some.inj e)))
    have HO16 := Lib.hid ((HO15.out.below hbd).kept hg16 (own_ne HO15.out hbm))
    have HI16 := Lib.hid ((HI15.out.below hbd).kept hg16 (fun e => HH.out.nn (Option.some.inj e).symm))
    have HM16 := Lib.hid hm16
    clear hm16 hg16 hbd HR15 K15 HT15 HO15 HM15 HI15
    have hrl : HR16.out = HR16.out := rfl
    clear hrl
    have e2 : w16.cell? ⟨b, 2, none⟩ = some (.int .i64 ((nL : Int) + 1)) := HR16.out.cell 2
    have e3 : w16.cell? ⟨w3.heap.size, 4, none⟩ = some (.int .i64 (newTh o).oid) := HT16.out.cell 4
    rw [show (newTh o).oid = 0 from if_neg HK8.out] at e3
    go_wp2_with fail
    go_ret2
    have hE := HE.out
    refine ⟨(nL : Int) + 1, 0, rfl, Lib.hid ⟨by rw [allocN, if_pos hE]; exact HLS.out.symm, hE.symm, recol col w.heap.size (hc (H.length : Nat)), ?_, ?_⟩⟩
    · refine (St.new HB11.out _ _ _).trans ⟨(K16.out).mono fun g hg => ?_, fun _ _ => rfl⟩
      refine .inl ?_
      rcases hg with rfl | rfl | rfl
      · exact (recol_lt HH.out.row.lt).trans HH.out.cb
      · exact (recol_lt HH.out.mp.lt).trans HH.out.cm
      · exact (recol_lt HH.out.tm.lt).trans HH.out.ct
    · refine HH.out.grow hg hE ((St.new HB11.out _ _ _).trans ⟨(K16.out).mono fun g hg => ?_, fun _ _ => rfl⟩) ?_ (by rw [HLS.out]; exact HM16.out) HI16.out ⟨.slice av n cv, HT16.out, recol_ge HG.out.1, ⟨by have := (HO16.out).mono (Nat.zero_le _); rw [show (newTh o).o.l.length = n from hn]; exact this, fun g hg => recol_ge ((HO16.out).lt g hg)⟩, HG.out.2⟩ (fun h => absurd h HK8.out) (fun _ => ⟨rfl, rfl⟩)
      · rcases hg with rfl | rfl | rfl
        · exact (recol_lt HH.out.row.lt).trans HH.out.cb
        · exact (recol_lt HH.out.mp.lt).trans HH.out.cm
        · exact (recol_lt HH.out.tm.lt).trans HH.out.ct
      · have e1 : ((u : Int) + (Z : Int)) = ((usedH H + sizeO o : Nat) : Int) := by rw [← HUU.out, ← HZ.out]; omega
        have := HR16.out
        rw [e1, ← HLS.out] at this
        exact this
end Go.Proofs.Ytekmgffjdheifaa
