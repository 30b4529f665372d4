/-
  What law 24's loops hold on to: a heap at which things were done, the things still to do. Conditions: the things read.
-/
import Derived.Test.YtekmgffjdheifaaHpX
namespace Go.Proofs.Ytekmgffjdheifaa
open Go Go.RowKit
set_option linter.unusedVariables false
set_option linter.unusedSimpArgs false
set_option maxRecDepth 100000

/-- a heap at which things were done -/
structure Pl (m b : Nat) (w0 : World) (H : List Th) (n : Nat) (col : Nat → Nat) (w : World) : Prop where
  K : St NZ col0 w0 col w
  A : HpAt col w b m H
  L : Live24 H m n
section
variable {m b : Nat} {w0 : World} {H : List Th} {n : Nat} {col : Nat → Nat} {w w' : World}
theorem Pl.down (h : Pl m b w0 H n col w) (hb : Below w.heap.size w w') : Pl m b w0 H n col w' := ⟨h.K.down hb, h.A.fresh hb, h.L⟩
theorem Pl.paint (h : Pl m b w0 H n col w) (hb : Below w.heap.size w w') (k : Nat) : Pl m b w0 H n (recol col w.heap.size k) w' :=
  ⟨h.K.trans (St.new hb NZ col k), h.A.st (St.new hb (fun _ => False) col k) hq_false, h.L⟩
theorem Pl.below (h : Pl m b w0 H n col w) : Below w0.heap.size w0 w := h.K.below
theorem Pl.start (hm : 1 ≤ m ∧ m ≤ 16777216) (w : World) : Calls Try.prog 12 #[.int .i64 (m : Nat)] w fun e w' => ∃ b, e = .returned (.tuple #[.pointer (some ⟨b, 0, none⟩), .int .i64 0]) ∧ ∃ col, Hid (Pl m b w newH 1 col w') := by
  refine (new24 m w hm).mono ?_
  rintro e w' ⟨b, rfl, col, H⟩
  exact ⟨b, rfl, col, Lib.hid ⟨H.out.1, H.out.2, Live24.start m⟩⟩
theorem Pl.starts {w0 : World} (hm : 1 ≤ m ∧ m ≤ 16777216) (w : World) (hb : Below w0.heap.size w0 w) : Calls Try.prog 12 #[.int .i64 (m : Nat)] w fun e w' => ∃ b, e = .returned (.tuple #[.pointer (some ⟨b, 0, none⟩), .int .i64 0]) ∧ ∃ col, Hid (Pl m b w0 newH 1 col w') := by
  refine (new24 m w hm).mono ?_
  rintro e w' ⟨b, rfl, col, H⟩
  exact ⟨b, rfl, col, Lib.hid ⟨(St.fresh hb NZ col0).trans H.out.1, H.out.2, Live24.start m⟩⟩
/-- the cells of a thing to do -/
def opCs (q : Opn) (aO : Option Addr) (nO cO : Nat) (aR : Option Addr) (nR cR : Nat) : List Value := [.int .i64 q.K, .int .i64 q.k, .int .i64 q.i, .int .u8 (q.o.k.toNat : Int), .int .i64 q.o.t, .slice aO nO cO, .string (str q.o.s), .int .u8 (q.x.1.toNat : Int), .int .i64 q.x.2, .slice aR nR cR]
structure OpC (w : World) (b1 p : Nat) (q : Opn) (aO : Option Addr) (nO cO : Nat) (aR : Option Addr) (nR cR : Nat) : Prop where
  oq : OpIn w (opCs q aO nO cO aR nR cR) q aO nO cO aR nR cR
  c : ∀ j, j < 10 → w.cell? ⟨b1, p + j, none⟩ = (opCs q aO nO cO aR nR cR)[j]?
theorem ops_at {a : Option Addr} {n c : Nat} {L : List Opn} (h : OpsIn w a n c L) (i : Nat) (hi : i < n) : ∃ b1 o1 q aO nO cO aR nR cR, a = some ⟨b1, o1, none⟩ ∧ q = L.getD i opn0 ∧ OpC w b1 (o1 + i * 10) q aO nO cO aR nR cR := by
  obtain ⟨b1, o1, cs, aO, nO, cO, aR, nR, cR, ha, hq, hc⟩ := h.at_ i hi
  have hcs := hq.cs
  subst hcs
  exact ⟨b1, o1, _, aO, nO, cO, aR, nR, cR, ha, rfl, hq, hc⟩
variable {b1 p : Nat} {q : Opn} {aO : Option Addr} {nO cO : Nat} {aR : Option Addr} {nR cR : Nat}
theorem OpC.below (h : OpC w b1 p q aO nO cO aR nR cR) (hb : Below w.heap.size w w') : OpC w' b1 p q aO nO cO aR nR cR :=
  ⟨h.oq.below hb, fun j hj => by
    have hcj := h.c j hj
    have hjl : j < (opCs q aO nO cO aR nR cR).length := by simpa [opCs] using hj
    rw [List.getElem?_eq_getElem hjl] at hcj ⊢
    exact (hb.cell (p := ⟨b1, p + j, none⟩) (lt_of_cell hcj)).trans hcj⟩
theorem OpC.all (h : OpC w b1 p q aO nO cO aR nR cR) :
    w.cell? ⟨b1, p, none⟩ = some (.int .i64 q.K) ∧ w.cell? ⟨b1, p + 1, none⟩ = some (.int .i64 q.k) ∧ w.cell? ⟨b1, p + 2, none⟩ = some (.int .i64 q.i) ∧ w.cell? ⟨b1, p + 3, none⟩ = some (.int .u8 (q.o.k.toNat : Int)) ∧ w.cell? ⟨b1, p + 4, none⟩ = some (.int .i64 q.o.t) ∧ w.cell? ⟨b1, p + 5, none⟩ = some (.slice aO nO cO) ∧ w.cell? ⟨b1, p + 6, none⟩ = some (.string (str q.o.s)) ∧ w.cell? ⟨b1, p + 7, none⟩ = some (.int .u8 (q.x.1.toNat : Int)) ∧ w.cell? ⟨b1, p + 8, none⟩ = some (.int .i64 q.x.2) ∧ w.cell? ⟨b1, p + 9, none⟩ = some (.slice aR nR cR) :=
  ⟨h.c 0 (by decide), h.c 1 (by decide), h.c 2 (by decide), h.c 3 (by decide), h.c 4 (by decide), h.c 5 (by decide), h.c 6 (by decide), h.c 7 (by decide), h.c 8 (by decide), h.c 9 (by decide)⟩
theorem pl_does (h : Pl m b w0 H n col w) (hn : n ≤ 1000) (hm : m ≤ 16777216) (hq : OpC w b1 p q aO nO cO aR nR cR) (hsm : totO q ≤ 16384) :
    Calls Try.prog 31 #[.pointer (some ⟨b, 0, none⟩), .agg #[.int .i64 q.K, .int .i64 q.k, .int .i64 q.i, .int .u8 (q.o.k.toNat : Int), .int .i64 q.o.t, .slice aO nO cO, .string (str q.o.s), .int .u8 (q.x.1.toNat : Int), .int .i64 q.x.2, .slice aR nR cR]] w
      fun e w' => ∃ t aT nT cT, e = .returned (.agg #[.int .u8 (t.o.k.toNat : Int), .int .i64 t.o.t, .slice aT nT cT, .string (str t.o.s), .int .u8 (t.x.1.toNat : Int), .int .i64 t.x.2, .int .i64 t.n, .bool t.is, .int .i64 t.e]) ∧ Hid (t = tell m H q ∧ t.o.l.length = nT) ∧ ∃ col', Hid (Pl m b w0 (doH m H q) (n + 1) col' w' ∧ St HQ col w col' w' ∧ OwnC col' w' 8 2 (.slice aT nT cT) nT (wcells t.o.l)) := by
  refine (does_p h.A h.L.good hm (by have := h.L.len; omega) h.L.wf q _ aO nO cO aR nR cR hq.oq hsm).mono ?_
  rintro e w' ⟨t, v, rfl, HT⟩
  obtain ⟨ht, col', k, hH, ho⟩ := HT.out
  obtain ⟨aT, cT, rfl⟩ := ho.1.form
  exact ⟨t, aT, _, cT, rfl, Lib.hid ⟨ht, rfl⟩, col', Lib.hid ⟨⟨h.K.trans (k.mono hq_nz), hH, h.L.step hq.oq⟩, k, ho⟩⟩
theorem pl_get (h : Pl m b w0 H n col w) (hm : m ≤ 16777216) (k : Int) (hk : (Lit.int .i64 k).wf = true) :
    Calls Try.prog 19 #[.pointer (some ⟨b, 0, none⟩), .int .i64 k] w fun e w' => ∃ o is a no c, e = .returned (.tuple #[.agg #[.int .u8 (o.k.toNat : Int), .int .i64 o.t, .slice a no c, .string (str o.s)], .bool is]) ∧ Hid (o = (thAt H k).o ∧ is = (thAt H k).is ∧ o.l.length = no ∧ Own w' w.heap.size 2 (.slice a no c) no (wcells o.l)) ∧ Hid (Pl m b w0 H n col w') ∧ Below w.heap.size w w' := by
  obtain ⟨bm, bt, ks, at_, ts, tf, hH⟩ := h.A
  refine (get_p hH h.L.good hm k hk _ (Lib.hid rfl) _ (Lib.hid rfl) _ (Lib.hid rfl)).mono ?_
  rintro e w' ⟨v, rfl, ho, hb⟩
  obtain ⟨a, c, rfl⟩ := ho.form
  exact ⟨_, _, a, _, c, rfl, Lib.hid ⟨rfl, rfl, rfl, ho⟩, Lib.hid (h.down hb), hb⟩
theorem pl_used (h : Pl m b w0 H n col w) (u : Nat) (hu : Hid (u = usedH H)) : Calls Try.prog 18 #[.pointer (some ⟨b, 0, none⟩)] w fun e w' => e = .returned (.int .i64 (u : Nat)) ∧ w = w' := by
  obtain ⟨bm, bt, ks, at_, ts, tf, hH⟩ := h.A
  rw [hu.out]
  exact used_p hH
theorem pl_count (h : Pl m b w0 H n col w) (u : Nat) (hu : Hid (u = countH H)) : Calls Try.prog 28 #[.pointer (some ⟨b, 0, none⟩)] w fun e w' => e = .returned (.int .i64 (u : Nat)) ∧ w = w' := by
  obtain ⟨bm, bt, ks, at_, ts, tf, hH⟩ := h.A
  rw [hu.out]
  exact count_p hH
end
/-! ### sums over the things of a heap -/
theorem do_more {m : Nat} {H : List Th} {q : Opn} : (doH m H q).length = H.length + if q.K = 0 ∧ (tell m H q).e = 0 then 1 else 0 := by
  by_cases h0 : q.K = 0
  · have e1 : doH m H q = allocH H m q.o := by unfold doH; rw [if_pos h0]
    have e2 : (tell m H q).e = allocE H m q.o := by unfold tell; rw [if_pos h0]
    rw [e1, e2]
    unfold allocH
    by_cases h1 : allocE H m q.o = 0
    · rw [if_pos h1, if_pos ⟨h0, h1⟩, List.length_append]; rfl
    · rw [if_neg h1, if_neg (fun h => h1 h.2)]; rfl
  rw [if_neg (fun h => h0 h.1), Nat.add_zero]
  unfold doH
  rw [if_neg h0]
  split
  · unfold setH; split <;> simp [putTh_len]
  split
  · unfold tieH; split <;> simp [putTh_len]
  split
  · unfold untieH; split <;> simp [putTh_len]
  split
  · unfold fillH; split <;> simp [putTh_len]
  split
  · unfold cleanH; split <;> simp [putTh_len]
  split
  · rw [collectH_len]
  · rfl
theorem used_take {H : List Th} {k : Nat} (hk : k < H.length) : usedH (H.take (k + 1)) = usedH (H.take k) + sz (thAt H k) := by
  rw [List.take_succ_eq_append_getElem hk, usedH_snoc, thAt_nat, getD_lt hk]
theorem count_take {H : List Th} {k : Nat} (hk : k < H.length) : countH (H.take (k + 1)) = countH (H.take k) + if (thAt H k).is then 1 else 0 := by
  rw [List.take_succ_eq_append_getElem hk, countH_snoc, thAt_nat, getD_lt hk]
theorem used_take1 {H : List Th} {m : Nat} (h : Good H m) : usedH (H.take 1) = 0 ∧ countH (H.take 1) = 0 := by
  have hl := h.len
  have hz := h.zero
  have e0 := used_take (H := H) (k := 0) (by omega)
  have e1 := count_take (H := H) (k := 0) (by omega)
  rw [show ((0 : Nat) : Int) = 0 from rfl, hz] at e0 e1
  simpa [usedH, countH, sz, noTh] using And.intro e0 e1
theorem used_few {H : List Th} (k : Nat) : usedH (H.take k) ≤ usedH H := by
  by_cases h : k < H.length
  · have : usedH (H.take (k + 1)) ≤ usedH H := by
      exact used_few (k + 1)
    rw [used_take h] at this
    omega
  · rw [List.take_of_length_le (by omega)]; exact Nat.le_refl _
termination_by H.length - k
theorem Good.small {H : List Th} {m : Nat} (h : Good H m) (hm : m ≤ 16777216) (k : Int) : (thAt H k).o.l.length ≤ 16777216 ∧ (thAt H k).o.s.length ≤ 134217728 := by
  cases e : (thAt H k).is with
  | false => rw [h.non k e]; exact ⟨by decide, by decide⟩
  | true =>
    have h1 := sz_le (H := H) k
    have h2 := h.room
    have h3 := sizeO_words (h.may k e)
    have h4 := sizeO_text (h.may k e)
    rw [sz, if_pos e] at h1
    exact ⟨by omega, by omega⟩
theorem wf64 {z : Int} (h0 : -9223372036854775808 ≤ z) (h1 : z ≤ 9223372036854775807) : (Lit.int .i64 z).wf = true := by
  have e8 : IntKind.i64.min = -9223372036854775808 := by decide
  have e9 : IntKind.i64.max = 9223372036854775807 := by decide
  simp [Lit.wf, e8, e9]
  exact ⟨h0, h1⟩
theorem of_wf64 {z : Int} (h : (Lit.int .i64 z).wf = true) : -9223372036854775808 ≤ z ∧ z ≤ 9223372036854775807 := by
  have e8 : IntKind.i64.min = -9223372036854775808 := by decide
  have e9 : IntKind.i64.max = 9223372036854775807 := by decide
  simpa [Lit.wf, e8, e9] using h
end Go.Proofs.Ytekmgffjdheifaa
