/-
  HeapDirty walked. Conditions: what is handed in reads.
-/
import Derived.Test.YtekmgffjdheifaaHpY
namespace Go.Proofs.Ytekmgffjdheifaa
open Go Go.RowKit
set_option linter.unusedVariables false
set_option linter.unusedSimpArgs false
set_option maxRecDepth 100000

theorem etBo : ET Try.prog 54 4 (.bool false) 1 1 := ⟨Try.underlying54, by kernel_rfl, rfl, by decide⟩
/-- which of the first handles are dirty -/
def dsOf (H : List Th) : List Bool := (List.range 101).map fun (j : Nat) => (thAt H j).dirty
theorem dsOf_len (H : List Th) : (dsOf H).length = 101 := by simp [dsOf]
theorem dsOf_get (H : List Th) {j : Nat} (h : j < 101) : (dsOf H).getD j false = (thAt H j).dirty := by
  rw [getD_lt (by rw [dsOf_len]; exact h)]
  simp [dsOf]
theorem dsOf_new : List.replicate 101 (Value.bool false) = bos (dsOf newH) := by
  rw [bos_replicate]
  refine congrArg bos (List.ext_getElem (by simp [dsOf_len]) fun j h1 h2 => ?_)
  rw [List.getElem_replicate]
  simp [dsOf, newH_at, noTh]
theorem dsOf_same {H H' : List Th} (h : ∀ j, (thAt H' j).dirty = (thAt H j).dirty) : dsOf H' = dsOf H := by
  unfold dsOf
  exact List.map_congr_left fun j _ => h j
theorem dsOf_put {H H' : List Th} {k : Int} {i : Nat} {v : Bool} (e : k = i) (hk : (thAt H' k).dirty = v) (h : ∀ j, j ≠ k → (thAt H' j).dirty = (thAt H j).dirty) : dsOf H' = (dsOf H).set i v := by
  subst e
  refine List.ext_getElem (by simp [dsOf_len]) fun j h1 h2 => ?_
  rw [List.getElem_set]
  simp only [dsOf, List.getElem_map, List.getElem_range]
  split
  · rename_i e; rw [← e, hk]
  · rename_i e; exact h _ (by omega)
theorem put_dirty {H : List Th} {k : Int} {x : Th} (hk : (thAt H k).is = true) : (thAt (putTh H k x) k) = x ∧ ∀ j, j ≠ k → thAt (putTh H k x) j = thAt H j := by
  obtain ⟨i, rfl, hi, _⟩ := thAt_is hk
  refine ⟨by rw [thAt_put (by omega) (by omega), if_pos rfl], fun j hj => by rw [thAt_put (by omega) (by omega), if_neg hj]⟩
section
variable {H : List Th} {m : Nat} {q : Opn}
theorem dirty3 (h0 : q.K = 3) (hi : (tell m H q).is = true) : (tell m H q).is = setIs H q.k q.i q.x ∧ (thAt (doH m H q) q.k).dirty = decide (0 < (thAt (doH m H q) q.k).oid) ∧ ∀ j, j ≠ q.k → (thAt (doH m H q) j).dirty = (thAt H j).dirty := by
  have e1 : (tell m H q).is = setIs H q.k q.i q.x := by unfold tell; simp [h0]
  have e2 : doH m H q = setH H q.k q.i q.x := by unfold doH; simp [h0]
  have e3 : setIs H q.k q.i q.x = true := e1.symm.trans hi
  have hs : (thAt H q.k).is = true := by unfold setIs at e3; simp at e3; exact e3.1.1.1
  rw [e2, setH, if_pos e3]
  obtain ⟨p1, p2⟩ := put_dirty (x := setTh (thAt H q.k) q.i q.x) hs
  exact ⟨e1, by rw [p1]; rfl, fun j hj => by rw [p2 j hj]⟩
theorem dirty9 (hg : Good H m) (h0 : q.K = 9) : (tell m H q).is = (thAt H q.k).dirty ∧ (thAt (doH m H q) q.k).dirty = false ∧ ∀ j, j ≠ q.k → (thAt (doH m H q) j).dirty = (thAt H j).dirty := by
  have e1 : (tell m H q).is = (thAt H q.k).dirty := by unfold tell; simp [h0]
  have e2 : doH m H q = cleanH H q.k := by unfold doH; simp [h0]
  refine ⟨e1, ?_⟩
  rw [e2, cleanH]
  cases hd : (thAt H q.k).dirty with
  | false => rw [if_neg (by simp)]; exact ⟨hd, fun _ _ => rfl⟩
  | true =>
    rw [if_pos rfl]
    obtain ⟨p1, p2⟩ := put_dirty (x := { thAt H q.k with dirty := false }) (hg.isOf (hg.dirt _ hd))
    exact ⟨by rw [p1], fun j hj => by rw [p2 j hj]⟩
theorem dirty5 (h0 : q.K = 5) (hi : (tell m H q).is = true) : (thAt (doH m H q) q.k).dirty = false ∧ ∀ j, j ≠ q.k → (thAt (doH m H q) j).dirty = (thAt H j).dirty := by
  have e1 : (tell m H q).is = untieIs H q.k := by unfold tell; simp [h0]
  have e2 : doH m H q = untieH H q.k := by unfold doH; simp [h0]
  have e3 : untieIs H q.k = true := e1.symm.trans hi
  have hs : (thAt H q.k).is = true := by unfold untieIs at e3; simp at e3; exact e3.1.1
  rw [e2, untieH, if_pos e3]
  obtain ⟨p1, p2⟩ := put_dirty (x := tieTh (thAt H q.k) 0) hs
  exact ⟨by rw [p1]; rfl, fun j hj => by rw [p2 j hj]⟩
theorem dirty4 (h0 : q.K = 4) (hi : (tell m H q).e = 0) : (thAt (doH m H q) q.k).dirty = false ∧ ∀ j, j ≠ q.k → (thAt (doH m H q) j).dirty = (thAt H j).dirty := by
  have e1 : (tell m H q).e = tieE H q.k q.i := by unfold tell; simp [h0]
  have e2 : doH m H q = tieH H q.k q.i := by unfold doH; simp [h0]
  have e3 : tieE H q.k q.i = 0 := e1.symm.trans hi
  have hs : (thAt H q.k).is = true := by
    cases e : (thAt H q.k).is with
    | true => rfl
    | false => unfold tieE at e3; rw [if_pos e] at e3; cases e3
  rw [e2, tieH, if_pos e3]
  obtain ⟨p1, p2⟩ := put_dirty (x := tieTh (thAt H q.k) q.i) hs
  exact ⟨by rw [p1]; rfl, fun j hj => by rw [p2 j hj]⟩
theorem dirty0 (hg : Good H m) (h3 : q.K = 3 → (tell m H q).is = false) (h9 : q.K ≠ 9) (h5 : q.K = 5 → (tell m H q).is = false) (h4 : q.K = 4 → (tell m H q).e ≠ 0) : ∀ j, (thAt (doH m H q) j).dirty = (thAt H j).dirty := by
  intro j
  by_cases k0 : q.K = 0
  · have e2 : doH m H q = allocH H m q.o := by unfold doH; simp [k0]
    rw [e2]
    unfold allocH
    split
    · rw [thAt_snoc]
      split
      · rename_i e; rw [e, thAt_ge (Int.le_refl _)]; rfl
      · rfl
    · rfl
  by_cases k3 : q.K = 3
  · have e1 : (tell m H q).is = setIs H q.k q.i q.x := by unfold tell; simp [k3]
    have e2 : doH m H q = setH H q.k q.i q.x := by unfold doH; simp [k3]
    rw [e2, setH, ← e1, h3 k3]; rfl
  by_cases k4 : q.K = 4
  · have e1 : (tell m H q).e = tieE H q.k q.i := by unfold tell; simp [k4]
    have e2 : doH m H q = tieH H q.k q.i := by unfold doH; simp [k4]
    rw [e2, tieH, ← e1, if_neg (h4 k4)]
  by_cases k5 : q.K = 5
  · have e1 : (tell m H q).is = untieIs H q.k := by unfold tell; simp [k5]
    have e2 : doH m H q = untieH H q.k := by unfold doH; simp [k5]
    rw [e2, untieH, ← e1, h5 k5]; rfl
  by_cases k8 : q.K = 8
  · have e2 : doH m H q = fillH H m q.k q.o := by unfold doH; simp [k8]
    rw [e2, fillH]
    split
    · rename_i hE
      obtain ⟨p1, p2⟩ := put_dirty (x := { thAt H q.k with o := q.o }) (fillE_zero hE).1
      by_cases e : j = q.k
      · rw [e, p1]
      · rw [p2 j e]
    · rfl
  by_cases k10 : q.K = 10
  · have e2 : doH m H q = collectH H q.R := by unfold doH; simp [k10]
    classical
    rw [e2, collectH_at]
    split
    · rfl
    · rename_i hl
      cases hd : (thAt H j).dirty with
      | false => rfl
      | true =>
        have his := hg.isOf (hg.dirt _ hd)
        exact absurd (Live.root (List.mem_append.2 (.inr ((mem_dirtyL H j).2 ⟨his, hd⟩))) his) hl
  have e2 : doH m H q = H := by unfold doH; simp [k0, k3, k4, k5, k8, k10, h9]
  rw [e2]
/-- a handle out of the table's reach changes nothing in it -/
theorem dirty_far (hg : Good H m) (hlen : H.length ≤ 101) (hk : ¬ (1 ≤ q.k ∧ q.k ≤ 100)) : ∀ j, (thAt (doH m H q) j).dirty = (thAt H j).dirty := by
  have hno : (thAt H q.k).is = false := by
    cases e : (thAt H q.k).is with
    | false => rfl
    | true =>
      obtain ⟨i, hi, hl, _⟩ := thAt_is e
      have := hg.pos e
      omega
  by_cases k9 : q.K = 9
  · have e2 : doH m H q = cleanH H q.k := by unfold doH; simp [k9]
    intro j
    rw [e2, cleanH, hg.non _ hno]
    rfl
  refine dirty0 hg (fun h => ?_) k9 (fun h => ?_) (fun h => ?_)
  · have e1 : (tell m H q).is = setIs H q.k q.i q.x := by unfold tell; simp [h]
    rw [e1, setIs, hno]; rfl
  · have e1 : (tell m H q).is = untieIs H q.k := by unfold tell; simp [h]
    rw [e1, untieIs, hno]; rfl
  · have e1 : (tell m H q).e = tieE H q.k q.i := by unfold tell; simp [h]
    rw [e1, tieE, if_pos hno]; decide
end
/-- the dirty ones below q, rising -/
def wantTo (H : List Th) (q : Nat) : List Int := ((List.range q).filter fun (i : Nat) => (thAt H i).dirty).map Int.ofNat
theorem wantTo_next (H : List Th) (q : Nat) : wantTo H (q + 1) = wantTo H q ++ if (thAt H q).dirty then [(q : Int)] else [] := by
  unfold wantTo
  rw [List.range_succ, List.filter_append, List.map_append]
  congr 1
  cases h : (thAt H q).dirty <;> simp [List.filter_cons, h]
theorem wantTo_one {H : List Th} {m : Nat} (hg : Good H m) : wantTo H 1 = [] := by
  have : (thAt H 0).dirty = false := by rw [hg.zero]; rfl
  have h1 := wantTo_next H 0
  rw [show ((0 : Nat) : Int) = 0 from rfl, this] at h1
  simpa [wantTo] using h1
theorem wantTo_len (H : List Th) (q : Nat) : (wantTo H q).length ≤ q := by
  unfold wantTo
  rw [List.length_map]
  exact Nat.le_trans (List.length_filter_le _ _) (by simp)
theorem wantTo_all {H : List Th} {m : Nat} (hg : Good H m) (hlen : H.length ≤ 101) : wantTo H 101 = dirtyL H := by
  have hn : (wantTo H 101).Nodup := map_nodup (List.Pairwise.filter _ List.nodup_range)
  have hr : (wantTo H 101).Pairwise (· ≤ ·) := by
    unfold wantTo
    refine List.pairwise_map.2 (List.Pairwise.filter _ ?_)
    exact (List.pairwise_lt_range (n := 101)).imp (fun h => by have := h; simp only [Int.ofNat_eq_natCast]; omega)
  have h := dirty_all (H := H) hn (fun k => by
    unfold wantTo
    simp only [List.mem_map, List.mem_filter, List.mem_range]
    constructor
    · rintro ⟨i, ⟨_, hd⟩, rfl⟩
      exact ⟨hg.isOf (hg.dirt _ hd), hd⟩
    · rintro ⟨hi, hd⟩
      obtain ⟨i, rfl, hl, _⟩ := thAt_is hi
      exact ⟨i, ⟨by omega, hd⟩, rfl⟩)
  rw [← h, rise_eq (List.Perm.refl _) hr]
attribute [local irreducible] dsOf wantTo
def DtR (b : Nat) (w0 : World) (n gd od : Nat) (v6 : Value) (w : World) : Prop :=
  ∃ (i : Nat) (H : List Th) (col : Nat → Nat), i ≤ n ∧ v6 = .int .i64 (i : Nat) ∧ Hid (Pl 1048576 b w0 H (i + 1) col w ∧ OwnC col w 9 1 (.slice (some ⟨gd, od, none⟩) 101 101) 101 (bos (dsOf H)))
theorem DtR.mk {b : Nat} {w0 : World} {n gd od : Nat} {v6 : Value} {w : World} (i : Nat) (H : List Th) (col : Nat → Nat) (h1 : i ≤ n) (h2 : v6 = .int .i64 (i : Nat)) (h3 : Pl 1048576 b w0 H (i + 1) col w ∧ OwnC col w 9 1 (.slice (some ⟨gd, od, none⟩) 101 101) 101 (bos (dsOf H))) : DtR b w0 n gd od v6 w := ⟨i, H, col, h1, h2, Lib.hid h3⟩
def WtR (w6 : World) (H : List Th) (v11 v12 : Value) (w : World) : Prop :=
  ∃ (j : Nat) (a : Option Addr) (n c : Nat), 1 ≤ j ∧ j ≤ 101 ∧ v12 = .int .i64 (j : Nat) ∧ v11 = .slice a n c ∧ Hid (n = (wantTo H j).length ∧ Own w w6.heap.size 1 (.slice a n c) n (ints (wantTo H j)) ∧ Below w6.heap.size w6 w)
theorem WtR.mk {w6 : World} {H : List Th} {v11 v12 : Value} {w : World} (j : Nat) (a : Option Addr) (n c : Nat) (h0 : 1 ≤ j) (h1 : j ≤ 101) (h2 : v12 = .int .i64 (j : Nat)) (h3 : v11 = .slice a n c) (h4 : n = (wantTo H j).length ∧ Own w w6.heap.size 1 (.slice a n c) n (ints (wantTo H j)) ∧ Below w6.heap.size w6 w) : WtR w6 H v11 v12 w := ⟨j, a, n, c, h0, h1, h2, h3, Lib.hid h4⟩
theorem pl_oid {m b : Nat} {w0 : World} {H : List Th} {n : Nat} {col : Nat → Nat} {w : World} (h : Pl m b w0 H n col w) (k : Int) (hk : (Lit.int .i64 k).wf = true) (x : Int) (hx : Hid (x = (thAt H k).oid)) :
    Calls Try.prog 20 #[.pointer (some ⟨b, 0, none⟩), .int .i64 k] w fun e w' => e = .returned (.tuple #[.int .i64 x, .bool (decide (0 < x))]) ∧ Below w.heap.size w w' := by
  obtain ⟨bm, bt, ks, at_, ts, tf, hH⟩ := h.A
  exact oid_p hH h.L.good k hk x hx
theorem pl_dirty {m b : Nat} {w0 : World} {H : List Th} {n : Nat} {col : Nat → Nat} {w : World} (h : Pl m b w0 H n col w) (hn : n ≤ 1000000) (N : Nat) (hN : Hid (N = (dirtyL H).length)) :
    Calls Try.prog 22 #[.pointer (some ⟨b, 0, none⟩)] w fun e w' => ∃ a c, e = .returned (.slice a N c) ∧ Own w' w.heap.size 1 (.slice a N c) N (ints (dirtyL H)) ∧ Below w.heap.size w w' := by
  obtain ⟨bm, bt, ks, at_, ts, tf, hH⟩ := h.A
  exact dirty_p hH h.L.good (Nat.le_trans h.L.len hn) _ (Lib.hid rfl) N hN
set_option maxHeartbeats 8000000 in
theorem heapDirty_walk (a : Option Addr) (n c : Nat) (L : List Opn) (w : World) (h : OpsIn w a n c L) :
    Calls Try.prog 7 #[.slice a n c] w fun e w' => e = .returned (.bool true) ∧ Below w.heap.size w w' := by
  have HN := Lib.hid h.len
  have hb9 := h.bnd
  have HI := Lib.hid h
  clear h
  go_enter Try.func7, Try.ntmps7
  go_wp2_with fail
  refine (vast_any a n c L w HI.out).mono ?_
  rintro e w1 ⟨B, rfl, HB, hb1⟩
  cases B with
  | true =>
    go_wp2_with fail
    refine (works_any w1).mono ?_
    rintro e w2 ⟨rfl, hb2⟩
    go_wp2_with fail
    go_ret
    exact ⟨rfl, hb1.trans (hb2.mono hb1.size)⟩
  | false =>
    have HF := Lib.hid (HB.out rfl)
    have hn1 : n ≤ 100 := by have := HF.out.1; rw [HN.out] at this; exact this
    clear HB
    go_wp2_with fail
    refine (Pl.starts (m := 1048576) (w0 := w) (by decide) w1 hb1).mono ?_
    rintro e w2 ⟨b, rfl, col2, P2⟩
    clear hb1
    go_upto_block 0 with (at_make; refine wpL_make etBo rfl rfl _ _ rfl 101 w2.heap.size rfl rfl rfl rfl (by decide) (by decide) (Nat.le_refl _) ?_; intro v3 w3 ho3 hb3 hg3; obtain ⟨gd, od, rfl, hgm⟩ := hg3)
    obtain ⟨col3, hcol3⟩ : ∃ x, x = recol col2 w2.heap.size 9 := ⟨_, rfl⟩
    have P3 : Hid (Pl 1048576 b w newH 1 col3 w3) := Lib.hid (by rw [hcol3]; exact P2.out.paint hb3 9)
    have D3 : Hid (OwnC col3 w3 9 1 (.slice (some ⟨gd, od, none⟩) 101 101) 101 (bos (dsOf newH))) := Lib.hid (by rw [hcol3, ← dsOf_new]; exact OwnC.new ho3)
    clear hcol3 ho3 hb3 hgm P2
    try go_frame
    go_wp2_with fail
    go_loopw [6] (fun v6 wr => DtR b w n gd od v6 wr) (fun v6 _ => n - (intOf v6).toNat)
    case atStart => exact DtR.mk 0 _ _ (Nat.zero_le _) rfl ⟨P3.out, D3.out⟩
    case round =>
      clear P3 D3
      obtain ⟨i, H, col, hi, rfl, P⟩ := hrel
      by_cases hin : i = n
      · subst hin
        go_wp2_with fail
        refine (works_any wr).mono ?_
        rintro e w3 ⟨rfl, hb3⟩
        go_wp2_with fail
        go_ret
        exact ⟨rfl, P.out.1.below.trans (hb3.mono P.out.1.below.size)⟩
      have hlt : i < n := by omega
      have hlt' : (i : Int) < n := by omega
      obtain ⟨b1, o1, q, aO, nO, cO, aR, nR, cR, rfl, hq, hc⟩ := ops_at HI.out i hlt
      have HC := Lib.hid hc
      have HT := Lib.hid (show totO q ≤ 16384 by rw [hq]; exact HF.out.2 i (by rw [HN.out]; exact hlt))
      clear hq hc
      have OC := Lib.hid (HC.out.below P.out.1.below)
      obtain ⟨d0, d1, d2, d3, d4, d5, d6, d7, d8, d9⟩ := OC.out.all
      go_wp2_with fail
      refine (pl_does P.out.1 (by omega) (by decide) OC.out HT.out).mono ?_
      rintro e w4 ⟨t, aT, nT, cT, rfl, Ht, col5, H4⟩
      have P4 := Lib.hid H4.out.1
      have D4 := Lib.hid (P.out.2.st H4.out.2.1 nq9)
      have HG := Lib.hid (show Good H 1048576 ∧ H.length ≤ 101 ∧ (Lit.int .i64 q.k).wf = true from ⟨P.out.1.L.good, by have := P.out.1.L.len; omega, OC.out.oq.wk⟩)
      clear P H4 OC d0 d1 d2 d3 d4 d5 d6 d7 d8 d9
      obtain ⟨o', x', n', is', E⟩ := t
      go_upto_region 12 with (refine wpL_storeRow rfl _ _ _ rfl (cs := [.int .u8 (o'.k.toNat : Int), .int .i64 o'.t, .slice aT nT cT, .string (str o'.s), .int .u8 (x'.1.toNat : Int), .int .i64 x'.2, .int .i64 n', .bool is', .int .i64 E]) rfl rfl (Row.new _ _ _) (by kernel_rfl) rfl rfl ?_; intro w5 hg5 hr5)
      have hb5 : Below w4.heap.size w4 w5 := below_grown ((Below.refl _ _).alloc (Nat.le_refl _) _) hg5 (Nat.le_refl _) (by simp)
      have P5 := Lib.hid (P4.out.down hb5)
      have D5 := Lib.hid (D4.out.st (St.fresh hb5 (fun _ => False) col5) (fun h => h))
      have F3 := Lib.hid (show w5.cell? ⟨w4.heap.size, 7, none⟩ = some (.bool is') from hr5.cell 7)
      have F4 := Lib.hid (show w5.cell? ⟨w4.heap.size, 8, none⟩ = some (.int .i64 E) from hr5.cell 8)
      clear P4 D4 hg5 hr5 hb5
      by_cases hr : 1 ≤ q.k ∧ q.k ≤ 100
      · obtain ⟨kN, hkN⟩ : ∃ kN : Nat, q.k = kN := ⟨q.k.toNat, by omega⟩
        have HKN := Lib.hid hkN
        have hk1 : (1 : Int) ≤ (kN : Int) := by omega
        have hk2 : (kN : Int) ≤ 100 := by omega
        rw [hkN]
        clear hkN hr
        obtain ⟨x, hx⟩ : ∃ x, x = (thAt (doH 1048576 H q) (kN : Nat)).oid := ⟨_, rfl⟩
        have HX := Lib.hid hx
        clear hx
        go_wp2_with fail
        refine (pl_oid P5.out (kN : Nat) (wf64 (by omega) (by omega)) x HX).mono ?_
        rintro e w6 ⟨rfl, hb6⟩
        have P6 := Lib.hid (P5.out.down hb6)
        have D6 := Lib.hid (D5.out.st (St.fresh hb6 (fun _ => False) col5) (fun h => h))
        have f3 := (hb6.cell (lt_of_cell F3.out)).trans F3.out
        have f4 := (hb6.cell (lt_of_cell F4.out)).trans F4.out
        have OC := Lib.hid (HC.out.below P6.out.below)
        obtain ⟨d0, d1, d2, d3, d4, d5, d6, d7, d8, d9⟩ := OC.out.all
        have HIS : Hid ((tell 1048576 H q).is = is' ∧ (tell 1048576 H q).e = E) := Lib.hid (by rw [← Ht.out.1]; exact ⟨rfl, rfl⟩)
        clear P5 D5 hb6 F3 F4 d1 d2 d3 d4 d5 d6 d7 d8 d9 OC
        generalize hqK : q.K = K at d0
        have HQK := Lib.hid hqK
        clear hqK
        by_cases k3 : K = 3
        · subst k3
          cases is' with
          | true =>
            have HDS : Hid (dsOf (doH 1048576 H q) = (dsOf H).set kN (decide (0 < x))) := Lib.hid (by
              obtain ⟨_, h2, h3⟩ := dirty3 (m := 1048576) (H := H) HQK.out HIS.out.1
              exact dsOf_put HKN.out (by rw [h2, HX.out, HKN.out]) h3)
            have hob := D6.out.1
            have hlen : kN < (bos (dsOf H)).length := by rw [bos_length, dsOf_len]; omega
            obtain ⟨xs, hxs⟩ : ∃ xs, xs = bos (dsOf H) := ⟨_, rfl⟩
            rw [← hxs] at hob hlen
            have HXS := Lib.hid hxs
            clear hxs
            go_upto_region 15 with fail
            go_upto_region 22 with (refine wpL_storeOwn (g := 0) rfl _ _ _ rfl (v := .bool (decide (0 < x))) rfl rfl rfl rfl (by kernel_rfl) hob kN rfl hlen ?_; intro w10 hg10 ho10)
            have k10 : St (fun y => y = 9) col5 _ col5 w10 := St.own hg10 _ _ (fun g hg => D6.out.2 g hg)
            have P := Lib.hid (show Pl 1048576 b w (doH 1048576 H q) (i + 1 + 1) col5 w10 from ⟨P6.out.K.trans (k10.mono (fun x hx => by rw [hx]; show (9 : Nat) ≠ 0; decide)), P6.out.A.st k10 (hq_ne nq9), P6.out.L⟩)
            have D : Hid (OwnC col5 w10 9 1 (.slice (some ⟨gd, od, none⟩) 101 101) 101 (bos (dsOf (doH 1048576 H q)))) := Lib.hid ⟨by rw [HDS.out, ← bos_set, ← HXS.out]; exact ho10, D6.out.2⟩
            clear k10 hg10 ho10 hob hlen HXS P6 D6 HDS
            have HN9 : Hid ((doH 1048576 H q).length ≤ 101) := Lib.hid (by have := P.out.L.len; omega)
            generalize doH 1048576 H q = H' at P D HN9
            go_wp2_with fail
            go_loopw [11, 12] (fun v11 v12 wr => WtR w10 H' v11 v12 wr) (fun _ v12 _ => 101 - (intOf v12).toNat)
            case atStart => exact WtR.mk 1 none 0 0 (by decide) (by decide) rfl rfl ⟨by rw [wantTo_one P.out.L.good]; rfl, by rw [wantTo_one P.out.L.good]; exact Own.nil _ _ _, Below.refl _ _⟩
            case round =>
              obtain ⟨j, aw, nw, cw, hj1, hj, rfl, rfl, HW⟩ := hrel
              by_cases hj101 : j = 101
              · subst hj101
                have HA := Lib.hid (wantTo_all P.out.L.good HN9.out)
                have PW := Lib.hid (P.out.down HW.out.2.2)
                have DW := Lib.hid (D.out.st (St.fresh HW.out.2.2 (fun _ => False) _) (fun h => h))
                have HNW : Hid (nw = (dirtyL H').length) := Lib.hid (by rw [HW.out.1, HA.out])
                have SW : Hid (Sl wr 1 (.slice aw nw cw) nw (ints (dirtyL H'))) := Lib.hid (by have := HW.out.2.1.sl; rwa [HA.out] at this)
                clear HW P D
                go_wp2_with fail
                refine (pl_dirty PW.out (by omega) nw HNW).mono ?_
                rintro e w8 ⟨a8, c8, rfl, ho8, hb8⟩
                have S8 := Lib.hid ho8.sl
                have HB8 := Lib.hid hb8
                clear ho8 hb8
                go_wp2_with fail
                refine (sameList_t (dirtyL H') a8 nw c8 aw cw w8 S8.out (SW.out.below HB8.out)).mono ?_
                rintro e w9 ⟨rfl, hb9'⟩
                have HB9 := Lib.hid (HB8.out.trans (hb9'.mono HB8.out.size))
                clear hb9'
                go_wp2_with fail
                exact ⟨DtR.mk (i + 1) H' _ hlt (by go_num) ⟨PW.out.down HB9.out, DW.out.st (St.fresh HB9.out (fun _ => False) _) (fun h => h)⟩, by simp [intOf]; omega⟩
              have hj' : (j : Int) ≤ 100 := by omega
              have hcj : wr.cell? ⟨gd, od + j, none⟩ = some (.bool (thAt H' j).dirty) := by
                have h1 := D.out.1.get j (by rw [bos_length, dsOf_len]; omega)
                rw [bos_get _ _ (by rw [dsOf_len]; omega), dsOf_get _ (by omega)] at h1
                exact (HW.out.2.2.cell (lt_of_cell h1)).trans h1
              have HX := Lib.hid (wantTo_next H' j)
              have hnl : nw ≤ 101 := by rw [HW.out.1]; exact Nat.le_trans (wantTo_len _ _) hj
              generalize (thAt H' j).dirty = B at hcj HX
              cases B with
              | false =>
                go_wp2_with fail
                exact ⟨WtR.mk (j + 1) aw nw cw (by omega) (by omega) (by go_num) rfl ⟨by rw [HX.out, HW.out.1]; simp, by rw [HX.out]; simpa using HW.out.2.1, HW.out.2.2⟩, by simp [intOf]; omega⟩
              | true =>
                have ho8 := HW.out.2.1.alloc (.cells #[.int .i64 (j : Nat)] 3)
                have hs8 : Sl (wr.alloc (.cells #[.int .i64 (j : Nat)] 3)) 1 (.slice (some ⟨wr.heap.size, 0, none⟩) 1 1) 1 [.int .i64 (j : Nat)] := Sl.one wr _ _
                have hb8 : Below (w10).heap.size w10 (wr.alloc (.cells #[.int .i64 (j : Nat)] 3)) := HW.out.2.2.alloc HW.out.2.2.size _
                go_wp2_with (at_builtin; refine wpL_append etI rfl _ _ rfl ho8 rfl hs8 rfl (by simp [Value.oneCell']) (by omega) (by simp [maxLen]; omega) (by have := HW.out.2.2.size; simp; omega) ?_; intro v9 w9 ho9 hg9; obtain ⟨a9, c9, rfl⟩ := ho9.form)
                have hb9' := hb8.grown hg9 hb8.size (fun k e => by have := ho8.lt k e; omega)
                exact ⟨WtR.mk (j + 1) a9 (nw + 1) c9 (by omega) (by omega) (by go_num) rfl ⟨by rw [HX.out, HW.out.1]; simp, by rw [HX.out]; simpa [ints] using ho9, hb9'⟩, by simp [intOf]; omega⟩
          | false =>
            have P := P6
            have D : Hid (OwnC col5 w6 9 1 (.slice (some ⟨gd, od, none⟩) 101 101) 101 (bos (dsOf (doH 1048576 H q)))) := Lib.hid (by rw [dsOf_same (dirty0 HG.out.1 (by exact fun _ => HIS.out.1) (by rw [HQK.out]; decide) (by intro h; rw [HQK.out] at h; cases h) (by intro h; rw [HQK.out] at h; cases h))]; exact D6.out)
            clear P6 D6
            go_upto_region 22 with fail
            clear f3 f4 d0
            have HN9 : Hid ((doH 1048576 H q).length ≤ 101) := Lib.hid (by have := P.out.L.len; omega)
            generalize doH 1048576 H q = H' at P D HN9
            go_wp2_with fail
            go_loopw [11, 12] (fun v11 v12 wr => WtR w6 H' v11 v12 wr) (fun _ v12 _ => 101 - (intOf v12).toNat)
            case atStart => exact WtR.mk 1 none 0 0 (by decide) (by decide) rfl rfl ⟨by rw [wantTo_one P.out.L.good]; rfl, by rw [wantTo_one P.out.L.good]; exact Own.nil _ _ _, Below.refl _ _⟩
            case round =>
              obtain ⟨j, aw, nw, cw, hj1, hj, rfl, rfl, HW⟩ := hrel
              by_cases hj101 : j = 101
              · subst hj101
                have HA := Lib.hid (wantTo_all P.out.L.good HN9.out)
                have PW := Lib.hid (P.out.down HW.out.2.2)
                have DW := Lib.hid (D.out.st (St.fresh HW.out.2.2 (fun _ => False) _) (fun h => h))
                have HNW : Hid (nw = (dirtyL H').length) := Lib.hid (by rw [HW.out.1, HA.out])
                have SW : Hid (Sl wr 1 (.slice aw nw cw) nw (ints (dirtyL H'))) := Lib.hid (by have := HW.out.2.1.sl; rwa [HA.out] at this)
                clear HW P D
                go_wp2_with fail
                refine (pl_dirty PW.out (by omega) nw HNW).mono ?_
                rintro e w8 ⟨a8, c8, rfl, ho8, hb8⟩
                have S8 := Lib.hid ho8.sl
                have HB8 := Lib.hid hb8
                clear ho8 hb8
                go_wp2_with fail
                refine (sameList_t (dirtyL H') a8 nw c8 aw cw w8 S8.out (SW.out.below HB8.out)).mono ?_
                rintro e w9 ⟨rfl, hb9'⟩
                have HB9 := Lib.hid (HB8.out.trans (hb9'.mono HB8.out.size))
                clear hb9'
                go_wp2_with fail
                exact ⟨DtR.mk (i + 1) H' _ hlt (by go_num) ⟨PW.out.down HB9.out, DW.out.st (St.fresh HB9.out (fun _ => False) _) (fun h => h)⟩, by simp [intOf]; omega⟩
              have hj' : (j : Int) ≤ 100 := by omega
              have hcj : wr.cell? ⟨gd, od + j, none⟩ = some (.bool (thAt H' j).dirty) := by
                have h1 := D.out.1.get j (by rw [bos_length, dsOf_len]; omega)
                rw [bos_get _ _ (by rw [dsOf_len]; omega), dsOf_get _ (by omega)] at h1
                exact (HW.out.2.2.cell (lt_of_cell h1)).trans h1
              have HX := Lib.hid (wantTo_next H' j)
              have hnl : nw ≤ 101 := by rw [HW.out.1]; exact Nat.le_trans (wantTo_len _ _) hj
              generalize (thAt H' j).dirty = B at hcj HX
              cases B with
              | false =>
                go_wp2_with fail
                exact ⟨WtR.mk (j + 1) aw nw cw (by omega) (by omega) (by go_num) rfl ⟨by rw [HX.out, HW.out.1]; simp, by rw [HX.out]; simpa using HW.out.2.1, HW.out.2.2⟩, by simp [intOf]; omega⟩
              | true =>
                have ho8 := HW.out.2.1.alloc (.cells #[.int .i64 (j : Nat)] 3)
                have hs8 : Sl (wr.alloc (.cells #[.int .i64 (j : Nat)] 3)) 1 (.slice (some ⟨wr.heap.size, 0, none⟩) 1 1) 1 [.int .i64 (j : Nat)] := Sl.one wr _ _
                have hb8 : Below (w6).heap.size w6 (wr.alloc (.cells #[.int .i64 (j : Nat)] 3)) := HW.out.2.2.alloc HW.out.2.2.size _
                go_wp2_with (at_builtin; refine wpL_append etI rfl _ _ rfl ho8 rfl hs8 rfl (by simp [Value.oneCell']) (by omega) (by simp [maxLen]; omega) (by have := HW.out.2.2.size; simp; omega) ?_; intro v9 w9 ho9 hg9; obtain ⟨a9, c9, rfl⟩ := ho9.form)
                have hb9' := hb8.grown hg9 hb8.size (fun k e => by have := ho8.lt k e; omega)
                exact ⟨WtR.mk (j + 1) a9 (nw + 1) c9 (by omega) (by omega) (by go_num) rfl ⟨by rw [HX.out, HW.out.1]; simp, by rw [HX.out]; simpa [ints] using ho9, hb9'⟩, by simp [intOf]; omega⟩
        have k3' : (K == 3) = false := by simpa using k3
        by_cases k9 : K = 9
        · subst k9
          have HDS : Hid (dsOf (doH 1048576 H q) = (dsOf H).set kN false) := Lib.hid (by
              obtain ⟨_, h2, h3⟩ := dirty9 HG.out.1 HQK.out
              exact dsOf_put HKN.out h2 h3)
          have hcd : w6.cell? ⟨gd, od + kN, none⟩ = some (.bool is') := by
            have h1 := D6.out.1.get kN (by rw [bos_length, dsOf_len]; omega)
            rw [bos_get _ _ (by rw [dsOf_len]; omega), dsOf_get _ (by omega)] at h1
            obtain ⟨h2, _⟩ := dirty9 HG.out.1 HQK.out
            rw [h1, ← HIS.out.1, h2, HKN.out]
          cases is' with
          | true =>
            go_upto_region 17 with fail
            go_quiet (fail)
            rename_i nq
            obtain ⟨w7, hw7⟩ : ∃ x, x = w6.drewN nq := ⟨_, rfl⟩
            rw [← hw7]
            have hb7 : Below w6.heap.size w6 w7 := by rw [hw7]; exact below_drewN (Below.refl _ _) nq
            have P6 := Lib.hid (P6.out.down hb7)
            have D6 := Lib.hid (D6.out.st (St.fresh hb7 (fun _ => False) col5) (fun h => h))
            clear hw7 hb7 f3 f4 d0 hcd
            have hob := D6.out.1
            have hlen : kN < (bos (dsOf H)).length := by rw [bos_length, dsOf_len]; omega
            obtain ⟨xs, hxs⟩ : ∃ xs, xs = bos (dsOf H) := ⟨_, rfl⟩
            rw [← hxs] at hob hlen
            have HXS := Lib.hid hxs
            clear hxs
            go_upto_region 19 with fail
            go_upto_region 22 with (refine wpL_storeOwn (g := 0) rfl _ _ _ rfl (v := .bool false) rfl rfl rfl rfl (by kernel_rfl) hob kN rfl hlen ?_; intro w10 hg10 ho10)
            have k10 : St (fun y => y = 9) col5 _ col5 w10 := St.own hg10 _ _ (fun g hg => D6.out.2 g hg)
            have P := Lib.hid (show Pl 1048576 b w (doH 1048576 H q) (i + 1 + 1) col5 w10 from ⟨P6.out.K.trans (k10.mono (fun x hx => by rw [hx]; show (9 : Nat) ≠ 0; decide)), P6.out.A.st k10 (hq_ne nq9), P6.out.L⟩)
            have D : Hid (OwnC col5 w10 9 1 (.slice (some ⟨gd, od, none⟩) 101 101) 101 (bos (dsOf (doH 1048576 H q)))) := Lib.hid ⟨by rw [HDS.out, ← bos_set, ← HXS.out]; exact ho10, D6.out.2⟩
            clear k10 hg10 ho10 hob hlen HXS P6 D6 HDS
            have HN9 : Hid ((doH 1048576 H q).length ≤ 101) := Lib.hid (by have := P.out.L.len; omega)
            generalize doH 1048576 H q = H' at P D HN9
            go_wp2_with fail
            go_loopw [11, 12] (fun v11 v12 wr => WtR w10 H' v11 v12 wr) (fun _ v12 _ => 101 - (intOf v12).toNat)
            case atStart => exact WtR.mk 1 none 0 0 (by decide) (by decide) rfl rfl ⟨by rw [wantTo_one P.out.L.good]; rfl, by rw [wantTo_one P.out.L.good]; exact Own.nil _ _ _, Below.refl _ _⟩
            case round =>
              obtain ⟨j, aw, nw, cw, hj1, hj, rfl, rfl, HW⟩ := hrel
              by_cases hj101 : j = 101
              · subst hj101
                have HA := Lib.hid (wantTo_all P.out.L.good HN9.out)
                have PW := Lib.hid (P.out.down HW.out.2.2)
                have DW := Lib.hid (D.out.st (St.fresh HW.out.2.2 (fun _ => False) _) (fun h => h))
                have HNW : Hid (nw = (dirtyL H').length) := Lib.hid (by rw [HW.out.1, HA.out])
                have SW : Hid (Sl wr 1 (.slice aw nw cw) nw (ints (dirtyL H'))) := Lib.hid (by have := HW.out.2.1.sl; rwa [HA.out] at this)
                clear HW P D
                go_wp2_with fail
                refine (pl_dirty PW.out (by omega) nw HNW).mono ?_
                rintro e w8 ⟨a8, c8, rfl, ho8, hb8⟩
                have S8 := Lib.hid ho8.sl
                have HB8 := Lib.hid hb8
                clear ho8 hb8
                go_wp2_with fail
                refine (sameList_t (dirtyL H') a8 nw c8 aw cw w8 S8.out (SW.out.below HB8.out)).mono ?_
                rintro e w9 ⟨rfl, hb9'⟩
                have HB9 := Lib.hid (HB8.out.trans (hb9'.mono HB8.out.size))
                clear hb9'
                go_wp2_with fail
                exact ⟨DtR.mk (i + 1) H' _ hlt (by go_num) ⟨PW.out.down HB9.out, DW.out.st (St.fresh HB9.out (fun _ => False) _) (fun h => h)⟩, by simp [intOf]; omega⟩
              have hj' : (j : Int) ≤ 100 := by omega
              have hcj : wr.cell? ⟨gd, od + j, none⟩ = some (.bool (thAt H' j).dirty) := by
                have h1 := D.out.1.get j (by rw [bos_length, dsOf_len]; omega)
                rw [bos_get _ _ (by rw [dsOf_len]; omega), dsOf_get _ (by omega)] at h1
                exact (HW.out.2.2.cell (lt_of_cell h1)).trans h1
              have HX := Lib.hid (wantTo_next H' j)
              have hnl : nw ≤ 101 := by rw [HW.out.1]; exact Nat.le_trans (wantTo_len _ _) hj
              generalize (thAt H' j).dirty = B at hcj HX
              cases B with
              | false =>
                go_wp2_with fail
                exact ⟨WtR.mk (j + 1) aw nw cw (by omega) (by omega) (by go_num) rfl ⟨by rw [HX.out, HW.out.1]; simp, by rw [HX.out]; simpa using HW.out.2.1, HW.out.2.2⟩, by simp [intOf]; omega⟩
              | true =>
                have ho8 := HW.out.2.1.alloc (.cells #[.int .i64 (j : Nat)] 3)
                have hs8 : Sl (wr.alloc (.cells #[.int .i64 (j : Nat)] 3)) 1 (.slice (some ⟨wr.heap.size, 0, none⟩) 1 1) 1 [.int .i64 (j : Nat)] := Sl.one wr _ _
                have hb8 : Below (w10).heap.size w10 (wr.alloc (.cells #[.int .i64 (j : Nat)] 3)) := HW.out.2.2.alloc HW.out.2.2.size _
                go_wp2_with (at_builtin; refine wpL_append etI rfl _ _ rfl ho8 rfl hs8 rfl (by simp [Value.oneCell']) (by omega) (by simp [maxLen]; omega) (by have := HW.out.2.2.size; simp; omega) ?_; intro v9 w9 ho9 hg9; obtain ⟨a9, c9, rfl⟩ := ho9.form)
                have hb9' := hb8.grown hg9 hb8.size (fun k e => by have := ho8.lt k e; omega)
                exact ⟨WtR.mk (j + 1) a9 (nw + 1) c9 (by omega) (by omega) (by go_num) rfl ⟨by rw [HX.out, HW.out.1]; simp, by rw [HX.out]; simpa [ints] using ho9, hb9'⟩, by simp [intOf]; omega⟩
          | false =>
            go_upto_region 17 with fail
            go_quiet (fail)
            rename_i nq
            obtain ⟨w7, hw7⟩ : ∃ x, x = w6.drewN nq := ⟨_, rfl⟩
            rw [← hw7]
            have hb7 : Below w6.heap.size w6 w7 := by rw [hw7]; exact below_drewN (Below.refl _ _) nq
            have P6 := Lib.hid (P6.out.down hb7)
            have D6 := Lib.hid (D6.out.st (St.fresh hb7 (fun _ => False) col5) (fun h => h))
            clear hw7 hb7 f3 f4 d0 hcd
            have hob := D6.out.1
            have hlen : kN < (bos (dsOf H)).length := by rw [bos_length, dsOf_len]; omega
            obtain ⟨xs, hxs⟩ : ∃ xs, xs = bos (dsOf H) := ⟨_, rfl⟩
            rw [← hxs] at hob hlen
            have HXS := Lib.hid hxs
            clear hxs
            go_upto_region 19 with fail
            go_upto_region 22 with (refine wpL_storeOwn (g := 0) rfl _ _ _ rfl (v := .bool false) rfl rfl rfl rfl (by kernel_rfl) hob kN rfl hlen ?_; intro w10 hg10 ho10)
            have k10 : St (fun y => y = 9) col5 _ col5 w10 := St.own hg10 _ _ (fun g hg => D6.out.2 g hg)
            have P := Lib.hid (show Pl 1048576 b w (doH 1048576 H q) (i + 1 + 1) col5 w10 from ⟨P6.out.K.trans (k10.mono (fun x hx => by rw [hx]; show (9 : Nat) ≠ 0; decide)), P6.out.A.st k10 (hq_ne nq9), P6.out.L⟩)
            have D : Hid (OwnC col5 w10 9 1 (.slice (some ⟨gd, od, none⟩) 101 101) 101 (bos (dsOf (doH 1048576 H q)))) := Lib.hid ⟨by rw [HDS.out, ← bos_set, ← HXS.out]; exact ho10, D6.out.2⟩
            clear k10 hg10 ho10 hob hlen HXS P6 D6 HDS
            have HN9 : Hid ((doH 1048576 H q).length ≤ 101) := Lib.hid (by have := P.out.L.len; omega)
            generalize doH 1048576 H q = H' at P D HN9
            go_wp2_with fail
            go_loopw [11, 12] (fun v11 v12 wr => WtR w10 H' v11 v12 wr) (fun _ v12 _ => 101 - (intOf v12).toNat)
            case atStart => exact WtR.mk 1 none 0 0 (by decide) (by decide) rfl rfl ⟨by rw [wantTo_one P.out.L.good]; rfl, by rw [wantTo_one P.out.L.good]; exact Own.nil _ _ _, Below.refl _ _⟩
            case round =>
              obtain ⟨j, aw, nw, cw, hj1, hj, rfl, rfl, HW⟩ := hrel
              by_cases hj101 : j = 101
              · subst hj101
                have HA := Lib.hid (wantTo_all P.out.L.good HN9.out)
                have PW := Lib.hid (P.out.down HW.out.2.2)
                have DW := Lib.hid (D.out.st (St.fresh HW.out.2.2 (fun _ => False) _) (fun h => h))
                have HNW : Hid (nw = (dirtyL H').length) := Lib.hid (by rw [HW.out.1, HA.out])
                have SW : Hid (Sl wr 1 (.slice aw nw cw) nw (ints (dirtyL H'))) := Lib.hid (by have := HW.out.2.1.sl; rwa [HA.out] at this)
                clear HW P D
                go_wp2_with fail
                refine (pl_dirty PW.out (by omega) nw HNW).mono ?_
                rintro e w8 ⟨a8, c8, rfl, ho8, hb8⟩
                have S8 := Lib.hid ho8.sl
                have HB8 := Lib.hid hb8
                clear ho8 hb8
                go_wp2_with fail
                refine (sameList_t (dirtyL H') a8 nw c8 aw cw w8 S8.out (SW.out.below HB8.out)).mono ?_
                rintro e w9 ⟨rfl, hb9'⟩
                have HB9 := Lib.hid (HB8.out.trans (hb9'.mono HB8.out.size))
                clear hb9'
                go_wp2_with fail
                exact ⟨DtR.mk (i + 1) H' _ hlt (by go_num) ⟨PW.out.down HB9.out, DW.out.st (St.fresh HB9.out (fun _ => False) _) (fun h => h)⟩, by simp [intOf]; omega⟩
              have hj' : (j : Int) ≤ 100 := by omega
              have hcj : wr.cell? ⟨gd, od + j, none⟩ = some (.bool (thAt H' j).dirty) := by
                have h1 := D.out.1.get j (by rw [bos_length, dsOf_len]; omega)
                rw [bos_get _ _ (by rw [dsOf_len]; omega), dsOf_get _ (by omega)] at h1
                exact (HW.out.2.2.cell (lt_of_cell h1)).trans h1
              have HX := Lib.hid (wantTo_next H' j)
              have hnl : nw ≤ 101 := by rw [HW.out.1]; exact Nat.le_trans (wantTo_len _ _) hj
              generalize (thAt H' j).dirty = B at hcj HX
              cases B with
              | false =>
                go_wp2_with fail
                exact ⟨WtR.mk (j + 1) aw nw cw (by omega) (by omega) (by go_num) rfl ⟨by rw [HX.out, HW.out.1]; simp, by rw [HX.out]; simpa using HW.out.2.1, HW.out.2.2⟩, by simp [intOf]; omega⟩
              | true =>
                have ho8 := HW.out.2.1.alloc (.cells #[.int .i64 (j : Nat)] 3)
                have hs8 : Sl (wr.alloc (.cells #[.int .i64 (j : Nat)] 3)) 1 (.slice (some ⟨wr.heap.size, 0, none⟩) 1 1) 1 [.int .i64 (j : Nat)] := Sl.one wr _ _
                have hb8 : Below (w10).heap.size w10 (wr.alloc (.cells #[.int .i64 (j : Nat)] 3)) := HW.out.2.2.alloc HW.out.2.2.size _
                go_wp2_with (at_builtin; refine wpL_append etI rfl _ _ rfl ho8 rfl hs8 rfl (by simp [Value.oneCell']) (by omega) (by simp [maxLen]; omega) (by have := HW.out.2.2.size; simp; omega) ?_; intro v9 w9 ho9 hg9; obtain ⟨a9, c9, rfl⟩ := ho9.form)
                have hb9' := hb8.grown hg9 hb8.size (fun k e => by have := ho8.lt k e; omega)
                exact ⟨WtR.mk (j + 1) a9 (nw + 1) c9 (by omega) (by omega) (by go_num) rfl ⟨by rw [HX.out, HW.out.1]; simp, by rw [HX.out]; simpa [ints] using ho9, hb9'⟩, by simp [intOf]; omega⟩
        have k9' : (K == 9) = false := by simpa using k9
        by_cases k5 : K = 5
        · subst k5
          cases is' with
          | true =>
            have HDS : Hid (dsOf (doH 1048576 H q) = (dsOf H).set kN false) := Lib.hid (by
              obtain ⟨h2, h3⟩ := dirty5 (m := 1048576) (H := H) HQK.out HIS.out.1
              exact dsOf_put HKN.out h2 h3)
            have hob := D6.out.1
            have hlen : kN < (bos (dsOf H)).length := by rw [bos_length, dsOf_len]; omega
            obtain ⟨xs, hxs⟩ : ∃ xs, xs = bos (dsOf H) := ⟨_, rfl⟩
            rw [← hxs] at hob hlen
            have HXS := Lib.hid hxs
            clear hxs
            go_upto_region 21 with fail
            go_upto_region 22 with (refine wpL_storeOwn (g := 0) rfl _ _ _ rfl (v := .bool false) rfl rfl rfl rfl (by kernel_rfl) hob kN rfl hlen ?_; intro w10 hg10 ho10)
            have k10 : St (fun y => y = 9) col5 _ col5 w10 := St.own hg10 _ _ (fun g hg => D6.out.2 g hg)
            have P := Lib.hid (show Pl 1048576 b w (doH 1048576 H q) (i + 1 + 1) col5 w10 from ⟨P6.out.K.trans (k10.mono (fun x hx => by rw [hx]; show (9 : Nat) ≠ 0; decide)), P6.out.A.st k10 (hq_ne nq9), P6.out.L⟩)
            have D : Hid (OwnC col5 w10 9 1 (.slice (some ⟨gd, od, none⟩) 101 101) 101 (bos (dsOf (doH 1048576 H q)))) := Lib.hid ⟨by rw [HDS.out, ← bos_set, ← HXS.out]; exact ho10, D6.out.2⟩
            clear k10 hg10 ho10 hob hlen HXS P6 D6 HDS
            have HN9 : Hid ((doH 1048576 H q).length ≤ 101) := Lib.hid (by have := P.out.L.len; omega)
            generalize doH 1048576 H q = H' at P D HN9
            go_wp2_with fail
            go_loopw [11, 12] (fun v11 v12 wr => WtR w10 H' v11 v12 wr) (fun _ v12 _ => 101 - (intOf v12).toNat)
            case atStart => exact WtR.mk 1 none 0 0 (by decide) (by decide) rfl rfl ⟨by rw [wantTo_one P.out.L.good]; rfl, by rw [wantTo_one P.out.L.good]; exact Own.nil _ _ _, Below.refl _ _⟩
            case round =>
              obtain ⟨j, aw, nw, cw, hj1, hj, rfl, rfl, HW⟩ := hrel
              by_cases hj101 : j = 101
              · subst hj101
                have HA := Lib.hid (wantTo_all P.out.L.good HN9.out)
                have PW := Lib.hid (P.out.down HW.out.2.2)
                have DW := Lib.hid (D.out.st (St.fresh HW.out.2.2 (fun _ => False) _) (fun h => h))
                have HNW : Hid (nw = (dirtyL H').length) := Lib.hid (by rw [HW.out.1, HA.out])
                have SW : Hid (Sl wr 1 (.slice aw nw cw) nw (ints (dirtyL H'))) := Lib.hid (by have := HW.out.2.1.sl; rwa [HA.out] at this)
                clear HW P D
                go_wp2_with fail
                refine (pl_dirty PW.out (by omega) nw HNW).mono ?_
                rintro e w8 ⟨a8, c8, rfl, ho8, hb8⟩
                have S8 := Lib.hid ho8.sl
                have HB8 := Lib.hid hb8
                clear ho8 hb8
                go_wp2_with fail
                refine (sameList_t (dirtyL H') a8 nw c8 aw cw w8 S8.out (SW.out.below HB8.out)).mono ?_
                rintro e w9 ⟨rfl, hb9'⟩
                have HB9 := Lib.hid (HB8.out.trans (hb9'.mono HB8.out.size))
                clear hb9'
                go_wp2_with fail
                exact ⟨DtR.mk (i + 1) H' _ hlt (by go_num) ⟨PW.out.down HB9.out, DW.out.st (St.fresh HB9.out (fun _ => False) _) (fun h => h)⟩, by simp [intOf]; omega⟩
              have hj' : (j : Int) ≤ 100 := by omega
              have hcj : wr.cell? ⟨gd, od + j, none⟩ = some (.bool (thAt H' j).dirty) := by
                have h1 := D.out.1.get j (by rw [bos_length, dsOf_len]; omega)
                rw [bos_get _ _ (by rw [dsOf_len]; omega), dsOf_get _ (by omega)] at h1
                exact (HW.out.2.2.cell (lt_of_cell h1)).trans h1
              have HX := Lib.hid (wantTo_next H' j)
              have hnl : nw ≤ 101 := by rw [HW.out.1]; exact Nat.le_trans (wantTo_len _ _) hj
              generalize (thAt H' j).dirty = B at hcj HX
              cases B with
              | false =>
                go_wp2_with fail
                exact ⟨WtR.mk (j + 1) aw nw cw (by omega) (by omega) (by go_num) rfl ⟨by rw [HX.out, HW.out.1]; simp, by rw [HX.out]; simpa using HW.out.2.1, HW.out.2.2⟩, by simp [intOf]; omega⟩
              | true =>
                have ho8 := HW.out.2.1.alloc (.cells #[.int .i64 (j : Nat)] 3)
                have hs8 : Sl (wr.alloc (.cells #[.int .i64 (j : Nat)] 3)) 1 (.slice (some ⟨wr.heap.size, 0, none⟩) 1 1) 1 [.int .i64 (j : Nat)] := Sl.one wr _ _
                have hb8 : Below (w10).heap.size w10 (wr.alloc (.cells #[.int .i64 (j : Nat)] 3)) := HW.out.2.2.alloc HW.out.2.2.size _
                go_wp2_with (at_builtin; refine wpL_append etI rfl _ _ rfl ho8 rfl hs8 rfl (by simp [Value.oneCell']) (by omega) (by simp [maxLen]; omega) (by have := HW.out.2.2.size; simp; omega) ?_; intro v9 w9 ho9 hg9; obtain ⟨a9, c9, rfl⟩ := ho9.form)
                have hb9' := hb8.grown hg9 hb8.size (fun k e => by have := ho8.lt k e; omega)
                exact ⟨WtR.mk (j + 1) a9 (nw + 1) c9 (by omega) (by omega) (by go_num) rfl ⟨by rw [HX.out, HW.out.1]; simp, by rw [HX.out]; simpa [ints] using ho9, hb9'⟩, by simp [intOf]; omega⟩
          | false =>
            have P := P6
            have D : Hid (OwnC col5 w6 9 1 (.slice (some ⟨gd, od, none⟩) 101 101) 101 (bos (dsOf (doH 1048576 H q)))) := Lib.hid (by rw [dsOf_same (dirty0 HG.out.1 (by intro h; rw [HQK.out] at h; cases h) (by rw [HQK.out]; decide) (by exact fun _ => HIS.out.1) (by intro h; rw [HQK.out] at h; cases h))]; exact D6.out)
            clear P6 D6
            go_upto_region 22 with fail
            clear f3 f4 d0
            have HN9 : Hid ((doH 1048576 H q).length ≤ 101) := Lib.hid (by have := P.out.L.len; omega)
            generalize doH 1048576 H q = H' at P D HN9
            go_wp2_with fail
            go_loopw [11, 12] (fun v11 v12 wr => WtR w6 H' v11 v12 wr) (fun _ v12 _ => 101 - (intOf v12).toNat)
            case atStart => exact WtR.mk 1 none 0 0 (by decide) (by decide) rfl rfl ⟨by rw [wantTo_one P.out.L.good]; rfl, by rw [wantTo_one P.out.L.good]; exact Own.nil _ _ _, Below.refl _ _⟩
            case round =>
              obtain ⟨j, aw, nw, cw, hj1, hj, rfl, rfl, HW⟩ := hrel
              by_cases hj101 : j = 101
              · subst hj101
                have HA := Lib.hid (wantTo_all P.out.L.good HN9.out)
                have PW := Lib.hid (P.out.down HW.out.2.2)
                have DW := Lib.hid (D.out.st (St.fresh HW.out.2.2 (fun _ => False) _) (fun h => h))
                have HNW : Hid (nw = (dirtyL H').length) := Lib.hid (by rw [HW.out.1, HA.out])
                have SW : Hid (Sl wr 1 (.slice aw nw cw) nw (ints (dirtyL H'))) := Lib.hid (by have := HW.out.2.1.sl; rwa [HA.out] at this)
                clear HW P D
                go_wp2_with fail
                refine (pl_dirty PW.out (by omega) nw HNW).mono ?_
                rintro e w8 ⟨a8, c8, rfl, ho8, hb8⟩
                have S8 := Lib.hid ho8.sl
                have HB8 := Lib.hid hb8
                clear ho8 hb8
                go_wp2_with fail
                refine (sameList_t (dirtyL H') a8 nw c8 aw cw w8 S8.out (SW.out.below HB8.out)).mono ?_
                rintro e w9 ⟨rfl, hb9'⟩
                have HB9 := Lib.hid (HB8.out.trans (hb9'.mono HB8.out.size))
                clear hb9'
                go_wp2_with fail
                exact ⟨DtR.mk (i + 1) H' _ hlt (by go_num) ⟨PW.out.down HB9.out, DW.out.st (St.fresh HB9.out (fun _ => False) _) (fun h => h)⟩, by simp [intOf]; omega⟩
              have hj' : (j : Int) ≤ 100 := by omega
              have hcj : wr.cell? ⟨gd, od + j, none⟩ = some (.bool (thAt H' j).dirty) := by
                have h1 := D.out.1.get j (by rw [bos_length, dsOf_len]; omega)
                rw [bos_get _ _ (by rw [dsOf_len]; omega), dsOf_get _ (by omega)] at h1
                exact (HW.out.2.2.cell (lt_of_cell h1)).trans h1
              have HX := Lib.hid (wantTo_next H' j)
              have hnl : nw ≤ 101 := by rw [HW.out.1]; exact Nat.le_trans (wantTo_len _ _) hj
              generalize (thAt H' j).dirty = B at hcj HX
              cases B with
              | false =>
                go_wp2_with fail
                exact ⟨WtR.mk (j + 1) aw nw cw (by omega) (by omega) (by go_num) rfl ⟨by rw [HX.out, HW.out.1]; simp, by rw [HX.out]; simpa using HW.out.2.1, HW.out.2.2⟩, by simp [intOf]; omega⟩
              | true =>
                have ho8 := HW.out.2.1.alloc (.cells #[.int .i64 (j : Nat)] 3)
                have hs8 : Sl (wr.alloc (.cells #[.int .i64 (j : Nat)] 3)) 1 (.slice (some ⟨wr.heap.size, 0, none⟩) 1 1) 1 [.int .i64 (j : Nat)] := Sl.one wr _ _
                have hb8 : Below (w6).heap.size w6 (wr.alloc (.cells #[.int .i64 (j : Nat)] 3)) := HW.out.2.2.alloc HW.out.2.2.size _
                go_wp2_with (at_builtin; refine wpL_append etI rfl _ _ rfl ho8 rfl hs8 rfl (by simp [Value.oneCell']) (by omega) (by simp [maxLen]; omega) (by have := HW.out.2.2.size; simp; omega) ?_; intro v9 w9 ho9 hg9; obtain ⟨a9, c9, rfl⟩ := ho9.form)
                have hb9' := hb8.grown hg9 hb8.size (fun k e => by have := ho8.lt k e; omega)
                exact ⟨WtR.mk (j + 1) a9 (nw + 1) c9 (by omega) (by omega) (by go_num) rfl ⟨by rw [HX.out, HW.out.1]; simp, by rw [HX.out]; simpa [ints] using ho9, hb9'⟩, by simp [intOf]; omega⟩
        have k5' : (K == 5) = false := by simpa using k5
        by_cases k4 : K = 4
        · subst k4
          by_cases hE : E = 0
          · subst hE
            have HDS : Hid (dsOf (doH 1048576 H q) = (dsOf H).set kN false) := Lib.hid (by
              obtain ⟨h2, h3⟩ := dirty4 (m := 1048576) (H := H) HQK.out HIS.out.2
              exact dsOf_put HKN.out h2 h3)
            have hob := D6.out.1
            have hlen : kN < (bos (dsOf H)).length := by rw [bos_length, dsOf_len]; omega
            obtain ⟨xs, hxs⟩ : ∃ xs, xs = bos (dsOf H) := ⟨_, rfl⟩
            rw [← hxs] at hob hlen
            have HXS := Lib.hid hxs
            clear hxs
            go_upto_region 21 with fail
            go_upto_region 22 with (refine wpL_storeOwn (g := 0) rfl _ _ _ rfl (v := .bool false) rfl rfl rfl rfl (by kernel_rfl) hob kN rfl hlen ?_; intro w10 hg10 ho10)
            have k10 : St (fun y => y = 9) col5 _ col5 w10 := St.own hg10 _ _ (fun g hg => D6.out.2 g hg)
            have P := Lib.hid (show Pl 1048576 b w (doH 1048576 H q) (i + 1 + 1) col5 w10 from ⟨P6.out.K.trans (k10.mono (fun x hx => by rw [hx]; show (9 : Nat) ≠ 0; decide)), P6.out.A.st k10 (hq_ne nq9), P6.out.L⟩)
            have D : Hid (OwnC col5 w10 9 1 (.slice (some ⟨gd, od, none⟩) 101 101) 101 (bos (dsOf (doH 1048576 H q)))) := Lib.hid ⟨by rw [HDS.out, ← bos_set, ← HXS.out]; exact ho10, D6.out.2⟩
            clear k10 hg10 ho10 hob hlen HXS P6 D6 HDS
            have HN9 : Hid ((doH 1048576 H q).length ≤ 101) := Lib.hid (by have := P.out.L.len; omega)
            generalize doH 1048576 H q = H' at P D HN9
            go_wp2_with fail
            go_loopw [11, 12] (fun v11 v12 wr => WtR w10 H' v11 v12 wr) (fun _ v12 _ => 101 - (intOf v12).toNat)
            case atStart => exact WtR.mk 1 none 0 0 (by decide) (by decide) rfl rfl ⟨by rw [wantTo_one P.out.L.good]; rfl, by rw [wantTo_one P.out.L.good]; exact Own.nil _ _ _, Below.refl _ _⟩
            case round =>
              obtain ⟨j, aw, nw, cw, hj1, hj, rfl, rfl, HW⟩ := hrel
              by_cases hj101 : j = 101
              · subst hj101
                have HA := Lib.hid (wantTo_all P.out.L.good HN9.out)
                have PW := Lib.hid (P.out.down HW.out.2.2)
                have DW := Lib.hid (D.out.st (St.fresh HW.out.2.2 (fun _ => False) _) (fun h => h))
                have HNW : Hid (nw = (dirtyL H').length) := Lib.hid (by rw [HW.out.1, HA.out])
                have SW : Hid (Sl wr 1 (.slice aw nw cw) nw (ints (dirtyL H'))) := Lib.hid (by have := HW.out.2.1.sl; rwa [HA.out] at this)
                clear HW P D
                go_wp2_with fail
                refine (pl_dirty PW.out (by omega) nw HNW).mono ?_
                rintro e w8 ⟨a8, c8, rfl, ho8, hb8⟩
                have S8 := Lib.hid ho8.sl
                have HB8 := Lib.hid hb8
                clear ho8 hb8
                go_wp2_with fail
                refine (sameList_t (dirtyL H') a8 nw c8 aw cw w8 S8.out (SW.out.below HB8.out)).mono ?_
                rintro e w9 ⟨rfl, hb9'⟩
                have HB9 := Lib.hid (HB8.out.trans (hb9'.mono HB8.out.size))
                clear hb9'
                go_wp2_with fail
                exact ⟨DtR.mk (i + 1) H' _ hlt (by go_num) ⟨PW.out.down HB9.out, DW.out.st (St.fresh HB9.out (fun _ => False) _) (fun h => h)⟩, by simp [intOf]; omega⟩
              have hj' : (j : Int) ≤ 100 := by omega
              have hcj : wr.cell? ⟨gd, od + j, none⟩ = some (.bool (thAt H' j).dirty) := by
                have h1 := D.out.1.get j (by rw [bos_length, dsOf_len]; omega)
                rw [bos_get _ _ (by rw [dsOf_len]; omega), dsOf_get _ (by omega)] at h1
                exact (HW.out.2.2.cell (lt_of_cell h1)).trans h1
              have HX := Lib.hid (wantTo_next H' j)
              have hnl : nw ≤ 101 := by rw [HW.out.1]; exact Nat.le_trans (wantTo_len _ _) hj
              generalize (thAt H' j).dirty = B at hcj HX
              cases B with
              | false =>
                go_wp2_with fail
                exact ⟨WtR.mk (j + 1) aw nw cw (by omega) (by omega) (by go_num) rfl ⟨by rw [HX.out, HW.out.1]; simp, by rw [HX.out]; simpa using HW.out.2.1, HW.out.2.2⟩, by simp [intOf]; omega⟩
              | true =>
                have ho8 := HW.out.2.1.alloc (.cells #[.int .i64 (j : Nat)] 3)
                have hs8 : Sl (wr.alloc (.cells #[.int .i64 (j : Nat)] 3)) 1 (.slice (some ⟨wr.heap.size, 0, none⟩) 1 1) 1 [.int .i64 (j : Nat)] := Sl.one wr _ _
                have hb8 : Below (w10).heap.size w10 (wr.alloc (.cells #[.int .i64 (j : Nat)] 3)) := HW.out.2.2.alloc HW.out.2.2.size _
                go_wp2_with (at_builtin; refine wpL_append etI rfl _ _ rfl ho8 rfl hs8 rfl (by simp [Value.oneCell']) (by omega) (by simp [maxLen]; omega) (by have := HW.out.2.2.size; simp; omega) ?_; intro v9 w9 ho9 hg9; obtain ⟨a9, c9, rfl⟩ := ho9.form)
                have hb9' := hb8.grown hg9 hb8.size (fun k e => by have := ho8.lt k e; omega)
                exact ⟨WtR.mk (j + 1) a9 (nw + 1) c9 (by omega) (by omega) (by go_num) rfl ⟨by rw [HX.out, HW.out.1]; simp, by rw [HX.out]; simpa [ints] using ho9, hb9'⟩, by simp [intOf]; omega⟩
          · have hE1 : (E == 0) = false := by simpa using hE
            have P := P6
            have D : Hid (OwnC col5 w6 9 1 (.slice (some ⟨gd, od, none⟩) 101 101) 101 (bos (dsOf (doH 1048576 H q)))) := Lib.hid (by rw [dsOf_same (dirty0 HG.out.1 (by intro h; rw [HQK.out] at h; cases h) (by rw [HQK.out]; decide) (by intro h; rw [HQK.out] at h; cases h) (by intro _; rw [HIS.out.2]; exact hE))]; exact D6.out)
            clear P6 D6
            go_upto_region 22 with fail
            clear f3 f4 d0
            have HN9 : Hid ((doH 1048576 H q).length ≤ 101) := Lib.hid (by have := P.out.L.len; omega)
            generalize doH 1048576 H q = H' at P D HN9
            go_wp2_with fail
            go_loopw [11, 12] (fun v11 v12 wr => WtR w6 H' v11 v12 wr) (fun _ v12 _ => 101 - (intOf v12).toNat)
            case atStart => exact WtR.mk 1 none 0 0 (by decide) (by decide) rfl rfl ⟨by rw [wantTo_one P.out.L.good]; rfl, by rw [wantTo_one P.out.L.good]; exact Own.nil _ _ _, Below.refl _ _⟩
            case round =>
              obtain ⟨j, aw, nw, cw, hj1, hj, rfl, rfl, HW⟩ := hrel
              by_cases hj101 : j = 101
              · subst hj101
                have HA := Lib.hid (wantTo_all P.out.L.good HN9.out)
                have PW := Lib.hid (P.out.down HW.out.2.2)
                have DW := Lib.hid (D.out.st (St.fresh HW.out.2.2 (fun _ => False) _) (fun h => h))
                have HNW : Hid (nw = (dirtyL H').length) := Lib.hid (by rw [HW.out.1, HA.out])
                have SW : Hid (Sl wr 1 (.slice aw nw cw) nw (ints (dirtyL H'))) := Lib.hid (by have := HW.out.2.1.sl; rwa [HA.out] at this)
                clear HW P D
                go_wp2_with fail
                refine (pl_dirty PW.out (by omega) nw HNW).mono ?_
                rintro e w8 ⟨a8, c8, rfl, ho8, hb8⟩
                have S8 := Lib.hid ho8.sl
                have HB8 := Lib.hid hb8
                clear ho8 hb8
                go_wp2_with fail
                refine (sameList_t (dirtyL H') a8 nw c8 aw cw w8 S8.out (SW.out.below HB8.out)).mono ?_
                rintro e w9 ⟨rfl, hb9'⟩
                have HB9 := Lib.hid (HB8.out.trans (hb9'.mono HB8.out.size))
                clear hb9'
                go_wp2_with fail
                exact ⟨DtR.mk (i + 1) H' _ hlt (by go_num) ⟨PW.out.down HB9.out, DW.out.st (St.fresh HB9.out (fun _ => False) _) (fun h => h)⟩, by simp [intOf]; omega⟩
              have hj' : (j : Int) ≤ 100 := by omega
              have hcj : wr.cell? ⟨gd, od + j, none⟩ = some (.bool (thAt H' j).dirty) := by
                have h1 := D.out.1.get j (by rw [bos_length, dsOf_len]; omega)
                rw [bos_get _ _ (by rw [dsOf_len]; omega), dsOf_get _ (by omega)] at h1
                exact (HW.out.2.2.cell (lt_of_cell h1)).trans h1
              have HX := Lib.hid (wantTo_next H' j)
              have hnl : nw ≤ 101 := by rw [HW.out.1]; exact Nat.le_trans (wantTo_len _ _) hj
              generalize (thAt H' j).dirty = B at hcj HX
              cases B with
              | false =>
                go_wp2_with fail
                exact ⟨WtR.mk (j + 1) aw nw cw (by omega) (by omega) (by go_num) rfl ⟨by rw [HX.out, HW.out.1]; simp, by rw [HX.out]; simpa using HW.out.2.1, HW.out.2.2⟩, by simp [intOf]; omega⟩
              | true =>
                have ho8 := HW.out.2.1.alloc (.cells #[.int .i64 (j : Nat)] 3)
                have hs8 : Sl (wr.alloc (.cells #[.int .i64 (j : Nat)] 3)) 1 (.slice (some ⟨wr.heap.size, 0, none⟩) 1 1) 1 [.int .i64 (j : Nat)] := Sl.one wr _ _
                have hb8 : Below (w6).heap.size w6 (wr.alloc (.cells #[.int .i64 (j : Nat)] 3)) := HW.out.2.2.alloc HW.out.2.2.size _
                go_wp2_with (at_builtin; refine wpL_append etI rfl _ _ rfl ho8 rfl hs8 rfl (by simp [Value.oneCell']) (by omega) (by simp [maxLen]; omega) (by have := HW.out.2.2.size; simp; omega) ?_; intro v9 w9 ho9 hg9; obtain ⟨a9, c9, rfl⟩ := ho9.form)
                have hb9' := hb8.grown hg9 hb8.size (fun k e => by have := ho8.lt k e; omega)
                exact ⟨WtR.mk (j + 1) a9 (nw + 1) c9 (by omega) (by omega) (by go_num) rfl ⟨by rw [HX.out, HW.out.1]; simp, by rw [HX.out]; simpa [ints] using ho9, hb9'⟩, by simp [intOf]; omega⟩
        have k4' : (K == 4) = false := by simpa using k4
        have P := P6
        have D : Hid (OwnC col5 w6 9 1 (.slice (some ⟨gd, od, none⟩) 101 101) 101 (bos (dsOf (doH 1048576 H q)))) := Lib.hid (by rw [dsOf_same (dirty0 HG.out.1 (by intro h; exact absurd (HQK.out.symm.trans h) k3) (by intro h; exact absurd (HQK.out.symm.trans h) k9) (by intro h; exact absurd (HQK.out.symm.trans h) k5) (by intro h; exact absurd (HQK.out.symm.trans h) k4))]; exact D6.out)
        clear P6 D6
        go_upto_region 22 with fail
        clear f3 f4 d0
        have HN9 : Hid ((doH 1048576 H q).length ≤ 101) := Lib.hid (by have := P.out.L.len; omega)
        generalize doH 1048576 H q = H' at P D HN9
        go_wp2_with fail
        go_loopw [11, 12] (fun v11 v12 wr => WtR w6 H' v11 v12 wr) (fun _ v12 _ => 101 - (intOf v12).toNat)
        case atStart => exact WtR.mk 1 none 0 0 (by decide) (by decide) rfl rfl ⟨by rw [wantTo_one P.out.L.good]; rfl, by rw [wantTo_one P.out.L.good]; exact Own.nil _ _ _, Below.refl _ _⟩
        case round =>
          obtain ⟨j, aw, nw, cw, hj1, hj, rfl, rfl, HW⟩ := hrel
          by_cases hj101 : j = 101
          · subst hj101
            have HA := Lib.hid (wantTo_all P.out.L.good HN9.out)
            have PW := Lib.hid (P.out.down HW.out.2.2)
            have DW := Lib.hid (D.out.st (St.fresh HW.out.2.2 (fun _ => False) _) (fun h => h))
            have HNW : Hid (nw = (dirtyL H').length) := Lib.hid (by rw [HW.out.1, HA.out])
            have SW : Hid (Sl wr 1 (.slice aw nw cw) nw (ints (dirtyL H'))) := Lib.hid (by have := HW.out.2.1.sl; rwa [HA.out] at this)
            clear HW P D
            go_wp2_with fail
            refine (pl_dirty PW.out (by omega) nw HNW).mono ?_
            rintro e w8 ⟨a8, c8, rfl, ho8, hb8⟩
            have S8 := Lib.hid ho8.sl
            have HB8 := Lib.hid hb8
            clear ho8 hb8
            go_wp2_with fail
            refine (sameList_t (dirtyL H') a8 nw c8 aw cw w8 S8.out (SW.out.below HB8.out)).mono ?_
            rintro e w9 ⟨rfl, hb9'⟩
            have HB9 := Lib.hid (HB8.out.trans (hb9'.mono HB8.out.size))
            clear hb9'
            go_wp2_with fail
            exact ⟨DtR.mk (i + 1) H' _ hlt (by go_num) ⟨PW.out.down HB9.out, DW.out.st (St.fresh HB9.out (fun _ => False) _) (fun h => h)⟩, by simp [intOf]; omega⟩
          have hj' : (j : Int) ≤ 100 := by omega
          have hcj : wr.cell? ⟨gd, od + j, none⟩ = some (.bool (thAt H' j).dirty) := by
            have h1 := D.out.1.get j (by rw [bos_length, dsOf_len]; omega)
            rw [bos_get _ _ (by rw [dsOf_len]; omega), dsOf_get _ (by omega)] at h1
            exact (HW.out.2.2.cell (lt_of_cell h1)).trans h1
          have HX := Lib.hid (wantTo_next H' j)
          have hnl : nw ≤ 101 := by rw [HW.out.1]; exact Nat.le_trans (wantTo_len _ _) hj
          generalize (thAt H' j).dirty = B at hcj HX
          cases B with
          | false =>
            go_wp2_with fail
            exact ⟨WtR.mk (j + 1) aw nw cw (by omega) (by omega) (by go_num) rfl ⟨by rw [HX.out, HW.out.1]; simp, by rw [HX.out]; simpa using HW.out.2.1, HW.out.2.2⟩, by simp [intOf]; omega⟩
          | true =>
            have ho8 := HW.out.2.1.alloc (.cells #[.int .i64 (j : Nat)] 3)
            have hs8 : Sl (wr.alloc (.cells #[.int .i64 (j : Nat)] 3)) 1 (.slice (some ⟨wr.heap.size, 0, none⟩) 1 1) 1 [.int .i64 (j : Nat)] := Sl.one wr _ _
            have hb8 : Below (w6).heap.size w6 (wr.alloc (.cells #[.int .i64 (j : Nat)] 3)) := HW.out.2.2.alloc HW.out.2.2.size _
            go_wp2_with (at_builtin; refine wpL_append etI rfl _ _ rfl ho8 rfl hs8 rfl (by simp [Value.oneCell']) (by omega) (by simp [maxLen]; omega) (by have := HW.out.2.2.size; simp; omega) ?_; intro v9 w9 ho9 hg9; obtain ⟨a9, c9, rfl⟩ := ho9.form)
            have hb9' := hb8.grown hg9 hb8.size (fun k e => by have := ho8.lt k e; omega)
            exact ⟨WtR.mk (j + 1) a9 (nw + 1) c9 (by omega) (by omega) (by go_num) rfl ⟨by rw [HX.out, HW.out.1]; simp, by rw [HX.out]; simpa [ints] using ho9, hb9'⟩, by simp [intOf]; omega⟩
      · have P := P5
        have D : Hid (OwnC col5 w5 9 1 (.slice (some ⟨gd, od, none⟩) 101 101) 101 (bos (dsOf (doH 1048576 H q)))) := Lib.hid (by rw [dsOf_same (dirty_far HG.out.1 HG.out.2.1 hr)]; exact D5.out)
        clear P5 D5
        by_cases hr1 : 1 ≤ q.k
        · have hr2 : ¬ q.k ≤ 100 := fun h => hr ⟨hr1, h⟩
          go_upto_region 22 with fail
          have HN9 : Hid ((doH 1048576 H q).length ≤ 101) := Lib.hid (by have := P.out.L.len; omega)
          generalize doH 1048576 H q = H' at P D HN9
          go_wp2_with fail
          go_loopw [11, 12] (fun v11 v12 wr => WtR w5 H' v11 v12 wr) (fun _ v12 _ => 101 - (intOf v12).toNat)
          case atStart => exact WtR.mk 1 none 0 0 (by decide) (by decide) rfl rfl ⟨by rw [wantTo_one P.out.L.good]; rfl, by rw [wantTo_one P.out.L.good]; exact Own.nil _ _ _, Below.refl _ _⟩
          case round =>
            obtain ⟨j, aw, nw, cw, hj1, hj, rfl, rfl, HW⟩ := hrel
            by_cases hj101 : j = 101
            · subst hj101
              have HA := Lib.hid (wantTo_all P.out.L.good HN9.out)
              have PW := Lib.hid (P.out.down HW.out.2.2)
              have DW := Lib.hid (D.out.st (St.fresh HW.out.2.2 (fun _ => False) _) (fun h => h))
              have HNW : Hid (nw = (dirtyL H').length) := Lib.hid (by rw [HW.out.1, HA.out])
              have SW : Hid (Sl wr 1 (.slice aw nw cw) nw (ints (dirtyL H'))) := Lib.hid (by have := HW.out.2.1.sl; rwa [HA.out] at this)
              clear HW P D
              go_wp2_with fail
              refine (pl_dirty PW.out (by omega) nw HNW).mono ?_
              rintro e w8 ⟨a8, c8, rfl, ho8, hb8⟩
              have S8 := Lib.hid ho8.sl
              have HB8 := Lib.hid hb8
              clear ho8 hb8
              go_wp2_with fail
              refine (sameList_t (dirtyL H') a8 nw c8 aw cw w8 S8.out (SW.out.below HB8.out)).mono ?_
              rintro e w9 ⟨rfl, hb9'⟩
              have HB9 := Lib.hid (HB8.out.trans (hb9'.mono HB8.out.size))
              clear hb9'
              go_wp2_with fail
              exact ⟨DtR.mk (i + 1) H' _ hlt (by go_num) ⟨PW.out.down HB9.out, DW.out.st (St.fresh HB9.out (fun _ => False) _) (fun h => h)⟩, by simp [intOf]; omega⟩
            have hj' : (j : Int) ≤ 100 := by omega
            have hcj : wr.cell? ⟨gd, od + j, none⟩ = some (.bool (thAt H' j).dirty) := by
              have h1 := D.out.1.get j (by rw [bos_length, dsOf_len]; omega)
              rw [bos_get _ _ (by rw [dsOf_len]; omega), dsOf_get _ (by omega)] at h1
              exact (HW.out.2.2.cell (lt_of_cell h1)).trans h1
            have HX := Lib.hid (wantTo_next H' j)
            have hnl : nw ≤ 101 := by rw [HW.out.1]; exact Nat.le_trans (wantTo_len _ _) hj
            generalize (thAt H' j).dirty = B at hcj HX
            cases B with
            | false =>
              go_wp2_with fail
              exact ⟨WtR.mk (j + 1) aw nw cw (by omega) (by omega) (by go_num) rfl ⟨by rw [HX.out, HW.out.1]; simp, by rw [HX.out]; simpa using HW.out.2.1, HW.out.2.2⟩, by simp [intOf]; omega⟩
            | true =>
              have ho8 := HW.out.2.1.alloc (.cells #[.int .i64 (j : Nat)] 3)
              have hs8 : Sl (wr.alloc (.cells #[.int .i64 (j : Nat)] 3)) 1 (.slice (some ⟨wr.heap.size, 0, none⟩) 1 1) 1 [.int .i64 (j : Nat)] := Sl.one wr _ _
              have hb8 : Below (w5).heap.size w5 (wr.alloc (.cells #[.int .i64 (j : Nat)] 3)) := HW.out.2.2.alloc HW.out.2.2.size _
              go_wp2_with (at_builtin; refine wpL_append etI rfl _ _ rfl ho8 rfl hs8 rfl (by simp [Value.oneCell']) (by omega) (by simp [maxLen]; omega) (by have := HW.out.2.2.size; simp; omega) ?_; intro v9 w9 ho9 hg9; obtain ⟨a9, c9, rfl⟩ := ho9.form)
              have hb9' := hb8.grown hg9 hb8.size (fun k e => by have := ho8.lt k e; omega)
              exact ⟨WtR.mk (j + 1) a9 (nw + 1) c9 (by omega) (by omega) (by go_num) rfl ⟨by rw [HX.out, HW.out.1]; simp, by rw [HX.out]; simpa [ints] using ho9, hb9'⟩, by simp [intOf]; omega⟩
        · go_upto_region 22 with fail
          have HN9 : Hid ((doH 1048576 H q).length ≤ 101) := Lib.hid (by have := P.out.L.len; omega)
          generalize doH 1048576 H q = H' at P D HN9
          go_wp2_with fail
          go_loopw [11, 12] (fun v11 v12 wr => WtR w5 H' v11 v12 wr) (fun _ v12 _ => 101 - (intOf v12).toNat)
          case atStart => exact WtR.mk 1 none 0 0 (by decide) (by decide) rfl rfl ⟨by rw [wantTo_one P.out.L.good]; rfl, by rw [wantTo_one P.out.L.good]; exact Own.nil _ _ _, Below.refl _ _⟩
          case round =>
            obtain ⟨j, aw, nw, cw, hj1, hj, rfl, rfl, HW⟩ := hrel
            by_cases hj101 : j = 101
            · subst hj101
              have HA := Lib.hid (wantTo_all P.out.L.good HN9.out)
              have PW := Lib.hid (P.out.down HW.out.2.2)
              have DW := Lib.hid (D.out.st (St.fresh HW.out.2.2 (fun _ => False) _) (fun h => h))
              have HNW : Hid (nw = (dirtyL H').length) := Lib.hid (by rw [HW.out.1, HA.out])
              have SW : Hid (Sl wr 1 (.slice aw nw cw) nw (ints (dirtyL H'))) := Lib.hid (by have := HW.out.2.1.sl; rwa [HA.out] at this)
              clear HW P D
              go_wp2_with fail
              refine (pl_dirty PW.out (by omega) nw HNW).mono ?_
              rintro e w8 ⟨a8, c8, rfl, ho8, hb8⟩
              have S8 := Lib.hid ho8.sl
              have HB8 := Lib.hid hb8
              clear ho8 hb8
              go_wp2_with fail
              refine (sameList_t (dirtyL H') a8 nw c8 aw cw w8 S8.out (SW.out.below HB8.out)).mono ?_
              rintro e w9 ⟨rfl, hb9'⟩
              have HB9 := Lib.hid (HB8.out.trans (hb9'.mono HB8.out.size))
              clear hb9'
              go_wp2_with fail
              exact ⟨DtR.mk (i + 1) H' _ hlt (by go_num) ⟨PW.out.down HB9.out, DW.out.st (St.fresh HB9.out (fun _ => False) _) (fun h => h)⟩, by simp [intOf]; omega⟩
            have hj' : (j : Int) ≤ 100 := by omega
            have hcj : wr.cell? ⟨gd, od + j, none⟩ = some (.bool (thAt H' j).dirty) := by
              have h1 := D.out.1.get j (by rw [bos_length, dsOf_len]; omega)
              rw [bos_get _ _ (by rw [dsOf_len]; omega), dsOf_get _ (by omega)] at h1
              exact (HW.out.2.2.cell (lt_of_cell h1)).trans h1
            have HX := Lib.hid (wantTo_next H' j)
            have hnl : nw ≤ 101 := by rw [HW.out.1]; exact Nat.le_trans (wantTo_len _ _) hj
            generalize (thAt H' j).dirty = B at hcj HX
            cases B with
            | false =>
              go_wp2_with fail
              exact ⟨WtR.mk (j + 1) aw nw cw (by omega) (by omega) (by go_num) rfl ⟨by rw [HX.out, HW.out.1]; simp, by rw [HX.out]; simpa using HW.out.2.1, HW.out.2.2⟩, by simp [intOf]; omega⟩
            | true =>
              have ho8 := HW.out.2.1.alloc (.cells #[.int .i64 (j : Nat)] 3)
              have hs8 : Sl (wr.alloc (.cells #[.int .i64 (j : Nat)] 3)) 1 (.slice (some ⟨wr.heap.size, 0, none⟩) 1 1) 1 [.int .i64 (j : Nat)] := Sl.one wr _ _
              have hb8 : Below (w5).heap.size w5 (wr.alloc (.cells #[.int .i64 (j : Nat)] 3)) := HW.out.2.2.alloc HW.out.2.2.size _
              go_wp2_with (at_builtin; refine wpL_append etI rfl _ _ rfl ho8 rfl hs8 rfl (by simp [Value.oneCell']) (by omega) (by simp [maxLen]; omega) (by have := HW.out.2.2.size; simp; omega) ?_; intro v9 w9 ho9 hg9; obtain ⟨a9, c9, rfl⟩ := ho9.form)
              have hb9' := hb8.grown hg9 hb8.size (fun k e => by have := ho8.lt k e; omega)
              exact ⟨WtR.mk (j + 1) a9 (nw + 1) c9 (by omega) (by omega) (by go_num) rfl ⟨by rw [HX.out, HW.out.1]; simp, by rw [HX.out]; simpa [ints] using ho9, hb9'⟩, by simp [intOf]; omega⟩
theorem heapDirty_any (a : Option Addr) (n c : Nat) (l : List (Int × Int × Int × (UInt8 × Int × List (UInt8 × Int) × List UInt8) × (UInt8 × Int) × List Int)) (w : World) (h : SlOf VOp 10 w (.slice a n c) l) :
    Calls Try.prog 7 #[.slice a n c] w fun e w' => e = .returned (.bool true) ∧ Below w.heap.size w w' := by
  obtain ⟨L, hL⟩ := ops_open h
  exact heapDirty_walk a n c L w hL
end Go.Proofs.Ytekmgffjdheifaa
