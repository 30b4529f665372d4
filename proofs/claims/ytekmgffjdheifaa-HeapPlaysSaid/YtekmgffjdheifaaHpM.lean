/-
  A heap in memory. No condition: plain laws.
-/
import Derived.Test.YtekmgffjdheifaaHpP
import Derived.Test.YtekmgffjdheifaaHpS
import Derived.Test.YtekmgffjdheifaaMaps
import Derived.Test.YtekmgffjdheifaaDskM
namespace Go.Proofs.Ytekmgffjdheifaa
open Go Go.RowKit
set_option linter.unusedVariables false
set_option linter.unusedSimpArgs false
set_option maxRecDepth 100000

theorem keyInt : Try.prog.underlying 3 = some (.int .i64) := Try.underlying3
theorem mapTh : Try.prog.underlying 77 = some (.map 3 81) := Try.underlying77
theorem mapTi : Try.prog.underlying 78 = some (.map 3 3) := Try.underlying78
theorem zeroPth (w : World) : (zeroValue 81).run Try.prog w = .ok (ptrE.val ptrE.z) w := by kernel_rfl
theorem zeroI (w : World) : (zeroValue 3).run Try.prog w = .ok (intE.val intE.z) w := by kernel_rfl
/-- the colour of a thing; the colours that a heap's steps turn -/
def hc (k : Int) : Nat := 2 * k.toNat + 100
def HQ : Nat → Prop := fun x => x = 5 ∨ (100 ≤ x ∧ x % 2 = 0)
theorem hc_HQ (k : Int) : HQ (hc k) := .inr (by unfold hc; omega)
theorem five_HQ : HQ 5 := .inl rfl
theorem hc_inj {i j : Int} (hi : 0 ≤ i) (hj : 0 ≤ j) (h : hc i = hc j) : i = j := by unfold hc at h; omega
def thRow (v : Value) (h : Th) : List Value := [.int .u8 (h.o.k.toNat : Int), .int .i64 h.o.t, v, .string (str h.o.s), .int .i64 h.oid, .bool h.dirty]
/-- a thing: its block, and the words' -/
structure ThIs (e : Nat) (col : Nat → Nat) (w : World) (g : Nat) (v : Value) (h : Th) : Prop where
  row : Row w g 85 (thRow v h)
  cg : col g = e
  own : OwnC col w e 2 v h.o.l.length (wcells h.o.l)
  ne : ∀ x, v.ownBlock = some x → x ≠ g
def ThAt (e : Nat) (col : Nat → Nat) (w : World) (g : Nat) (h : Th) : Prop := ∃ v, ThIs e col w g v h
variable {col col' : Nat → Nat} {w w' : World} {b m bm bt : Nat} {H : List Th} {ks ts : List Int} {at_ : Int → Option Nat} {tf : Int → Int}
theorem ThIs.st {e g : Nat} {v : Value} {h : Th} {Q : Nat → Prop} (x : ThIs e col w g v h) (k : St Q col w col' w') (hn : ¬ Q e) : ThIs e col' w' g v h :=
  ⟨x.row.mods k.mods (by rw [x.cg]; exact hn), (k.ext g x.row.lt).trans x.cg, x.own.st k hn, x.ne⟩
theorem ThAt.st {e g : Nat} {h : Th} {Q : Nat → Prop} (x : ThAt e col w g h) (k : St Q col w col' w') (hn : ¬ Q e) : ThAt e col' w' g h := by
  obtain ⟨v, x⟩ := x
  exact ⟨v, x.st k hn⟩
theorem ThIs.cell {e g : Nat} {v : Value} {h : Th} (x : ThIs e col w g v h) (j : Nat) : w.cell? ⟨g, j, none⟩ = (thRow v h)[j]? := x.row.cell j
structure HpIn (col : Nat → Nat) (w : World) (b m : Nat) (H : List Th) (bm bt : Nat) (ks : List Int) (at_ : Int → Option Nat) (ts : List Int) (tf : Int → Int) : Prop where
  row : Row w b 80 [.int .i64 (m : Nat), .int .i64 (usedH H : Nat), .int .i64 ((H.length : Int) - 1), .map (some bm), .map (some bt)]
  cb : col b = 5
  cm : col bm = 5
  ct : col bt = 5
  mp : MapIs ptrE Try.prog 3 w bm ks at_
  tm : MapIs intE Try.prog 3 w bt ts tf
  nm : bm ≠ b
  nt : bt ≠ b
  nn : bm ≠ bt
  keys : ∀ k, k ∈ ks ↔ (thAt H k).is = true
  th : ∀ k ∈ ks, ∃ g, at_ k = some g ∧ ThAt (hc k) col w g (thAt H k)
  tk : ∀ x, x ∈ ts ↔ 0 < ofH H x
  tv : ∀ x, tf x = ofH H x
def HpAt (col : Nat → Nat) (w : World) (b m : Nat) (H : List Th) : Prop := ∃ bm bt ks at_ ts tf, HpIn col w b m H bm bt ks at_ ts tf
theorem HpIn.st {Q : Nat → Prop} (h : HpIn col w b m H bm bt ks at_ ts tf) (k : St Q col w col' w') (hQ : ∀ x, HQ x → ¬ Q x) : HpIn col' w' b m H bm bt ks at_ ts tf :=
  ⟨h.row.mods k.mods (by rw [h.cb]; exact hQ _ five_HQ), (k.ext b h.row.lt).trans h.cb, (k.ext bm h.mp.lt).trans h.cm, (k.ext bt h.tm.lt).trans h.ct, h.mp.mods k.mods (by rw [h.cm]; exact hQ _ five_HQ), h.tm.mods k.mods (by rw [h.ct]; exact hQ _ five_HQ), h.nm, h.nt, h.nn, h.keys, fun x hx => by
    obtain ⟨g, h1, h2⟩ := h.th x hx
    exact ⟨g, h1, h2.st k (hQ _ (hc_HQ x))⟩, h.tk, h.tv⟩
theorem HpAt.st {Q : Nat → Prop} (h : HpAt col w b m H) (k : St Q col w col' w') (hQ : ∀ x, HQ x → ¬ Q x) : HpAt col' w' b m H := by
  obtain ⟨bm, bt, ks, at_, ts, tf, h⟩ := h
  exact ⟨bm, bt, ks, at_, ts, tf, h.st k hQ⟩
theorem HpAt.fresh (h : HpAt col w b m H) (hb : Below w.heap.size w w') : HpAt col w' b m H := h.st (St.fresh hb (fun _ => False) col) (fun _ _ h => h)
theorem HpIn.fresh (h : HpIn col w b m H bm bt ks at_ ts tf) (hb : Below w.heap.size w w') : HpIn col w' b m H bm bt ks at_ ts tf := h.st (St.fresh hb (fun _ => False) col) (fun _ _ h => h)
theorem HpAt.lt (h : HpAt col w b m H) : b < w.heap.size := by
  obtain ⟨bm, bt, ks, at_, ts, tf, h⟩ := h
  exact h.row.lt
theorem HpIn.c0 (h : HpIn col w b m H bm bt ks at_ ts tf) : w.cell? ⟨b, 0, none⟩ = some (.int .i64 (m : Nat)) := h.row.cell 0
theorem HpIn.c1 (h : HpIn col w b m H bm bt ks at_ ts tf) : w.cell? ⟨b, 1, none⟩ = some (.int .i64 (usedH H : Nat)) := h.row.cell 1
theorem HpIn.c2 (h : HpIn col w b m H bm bt ks at_ ts tf) : w.cell? ⟨b, 2, none⟩ = some (.int .i64 ((H.length : Int) - 1)) := h.row.cell 2
theorem HpIn.c3 (h : HpIn col w b m H bm bt ks at_ ts tf) : w.cell? ⟨b, 3, none⟩ = some (.map (some bm)) := h.row.cell 3
theorem HpIn.c4 (h : HpIn col w b m H bm bt ks at_ ts tf) : w.cell? ⟨b, 4, none⟩ = some (.map (some bt)) := h.row.cell 4
/-- what is at a handle -/
theorem HpIn.non (h : HpIn col w b m H bm bt ks at_ ts tf) {k : Int} (hk : (thAt H k).is = false) : at_ k = none := h.mp.at (fun hm => by rw [(h.keys k).1 hm] at hk; cases hk)
theorem HpIn.has (h : HpIn col w b m H bm bt ks at_ ts tf) {k : Int} (hk : (thAt H k).is = true) : ∃ g v, at_ k = some g ∧ ThIs (hc k) col w g v (thAt H k) := by
  obtain ⟨g, h1, v, h2⟩ := h.th k ((h.keys k).2 hk)
  exact ⟨g, v, h1, h2⟩
theorem HpIn.look (h : HpIn col w b m H bm bt ks at_ ts tf) {k : Int} (hk : (Lit.int .i64 k).wf = true) : (Instr.lookup 77 (.map (some bm)) (.int .i64 k) false).run Try.prog w = .ok (ptrV (at_ k)) w :=
  h.mp.look keyInt mapTh (zeroPth _) hk
theorem HpIn.tlook (h : HpIn col w b m H bm bt ks at_ ts tf) {x : Int} (hx : (Lit.int .i64 x).wf = true) : (Instr.lookup 78 (.map (some bt)) (.int .i64 x) true).run Try.prog w = .ok (.tuple #[.int .i64 (ofH H x), .bool (decide (0 < ofH H x))]) w := by
  have := h.tm.look_ok keyInt mapTi (zeroI _) hx
  rw [this, h.tv x]
  have e : decide (x ∈ ts) = decide (0 < ofH H x) := decide_eq_decide.2 (h.tk x)
  rw [e]
  rfl
/-- one thing is another one; the ties may be others -/
theorem HpIn.poke (h : HpIn col w b m H bm bt ks at_ ts tf) (hg : Good H m) {k : Int} {g : Nat} {x : Th} (hk : (thAt H k).is = true) (hat : at_ k = some g) (hx : x.is = true)
    (km : St (fun y => y = 5 ∨ y = hc k) col w col' w') (hx2 : ThAt (hc k) col' w' g x)
    (row : Row w' b 80 [.int .i64 (m : Nat), .int .i64 (usedH (putTh H k x) : Nat), .int .i64 ((H.length : Int) - 1), .map (some bm), .map (some bt)])
    (mp : MapIs ptrE Try.prog 3 w' bm ks at_) {ts' : List Int} {tf' : Int → Int} (tm : MapIs intE Try.prog 3 w' bt ts' tf') (tk : ∀ y, y ∈ ts' ↔ 0 < ofH (putTh H k x) y) (tv : ∀ y, tf' y = ofH (putTh H k x) y) :
    HpIn col' w' b m (putTh H k x) bm bt ks at_ ts' tf' := by
  obtain ⟨i, hi, hl, _⟩ := thAt_is hk
  have hp := hg.pos hk
  have e : ∀ j, thAt (putTh H k x) j = if j = k then x else thAt H j := thAt_put (by omega) (by omega)
  refine ⟨by rw [putTh_len]; exact row, (km.ext b h.row.lt).trans h.cb, (km.ext bm h.mp.lt).trans h.cm, (km.ext bt h.tm.lt).trans h.ct, mp, tm, h.nm, h.nt, h.nn, fun j => ?_, fun j hj => ?_, tk, tv⟩
  · rw [e]
    split
    · rename_i hjk
      rw [hjk]
      exact ⟨fun _ => hx, fun _ => (h.keys k).2 hk⟩
    · exact h.keys j
  · rw [e]
    split
    · rename_i hjk
      rw [hjk]
      exact ⟨g, hat, hx2⟩
    · rename_i hjk
      obtain ⟨gj, h1, h2⟩ := h.th j hj
      have hj1 := hg.pos ((h.keys j).1 hj)
      refine ⟨gj, h1, h2.st km ?_⟩
      rintro (h3 | h3)
      · unfold hc at h3; omega
      · exact hjk (hc_inj (by omega) (by omega) h3)
/-- what oids lead to, known by what has them -/
theorem Good.ofAll {H : List Th} {m : Nat} (h : Good H m) {f : Int → Int} (hf : ∀ y, (f y = 0 ∧ ∀ k, 0 < y → (thAt H k).oid ≠ y) ∨ (0 < y ∧ (thAt H (f y)).oid = y)) (y : Int) : ofH H y = f y := by
  rcases hf y with ⟨h1, h2⟩ | ⟨h1, h2⟩
  · rw [h1]
    by_cases hy : 0 < y
    · exact ofH_zero (fun k => h2 k hy)
    · exact ofH_neg hy
  · exact (h.ofEq h1 h2).1
theorem Good.ofCase {H : List Th} {m : Nat} (h : Good H m) (y : Int) : (ofH H y = 0 ∧ ∀ k, 0 < y → (thAt H k).oid ≠ y) ∨ (0 < y ∧ (thAt H (ofH H y)).oid = y) := by
  by_cases hz : ofH H y = 0
  · exact .inl ⟨hz, fun k hy => h.ofNone hz hy k⟩
  · exact .inr (h.ofPos (by have := ofH_nn H y; omega))
theorem ofH_zero' (x : Int) : ofH newH x = 0 := by
  unfold ofH newH
  simp [ofP, noTh]
theorem ptrV_some' {at_ : Int → Option Nat} {k : Int} {g : Nat} (h : at_ k = some g) : ptrV (at_ k) = .pointer (some ⟨g, 0, none⟩) := by rw [h]; rfl
/-- oids are the same -/
theorem of_same {H H' : List Th} {m m' : Nat} (h : Good H m) (h' : Good H' m') (e : ∀ k, (thAt H' k).oid = (thAt H k).oid) (y : Int) : ofH H' y = ofH H y :=
  h'.ofAll (fun y => by
    rcases h.ofCase y with ⟨h1, h2⟩ | ⟨h1, h2⟩
    · exact .inl ⟨h1, fun k hy => by rw [e]; exact h2 k hy⟩
    · exact .inr ⟨h1, by rw [e]; exact h2⟩) y
/-- one more oid -/
theorem of_more {H H' : List Th} {m m' : Nat} (h : Good H m) (h' : Good H' m') {k x : Int} (hx : 0 < x) (h0 : ofH H x = 0) (hk : (thAt H k).oid = 0) (e : ∀ j, (thAt H' j).oid = if j = k then x else (thAt H j).oid) (y : Int) : ofH H' y = upd (ofH H) x k y :=
  h'.ofAll (fun y => by
    unfold upd
    by_cases hy : y = x
    · rw [if_pos hy]
      refine .inr ⟨by omega, ?_⟩
      rw [e, if_pos rfl, hy]
    · rw [if_neg hy]
      rcases h.ofCase y with ⟨h1, h2⟩ | ⟨h1, h2⟩
      · refine .inl ⟨h1, fun j hj => ?_⟩
        rw [e]
        split
        · exact fun e => hy e.symm
        · exact h2 j hj
      · refine .inr ⟨h1, ?_⟩
        rw [e]
        split
        · rename_i hjk
          rw [hjk, hk] at h2
          omega
        · exact h2) y
/-- one oid less -/
theorem of_less {H H' : List Th} {m m' : Nat} (h : Good H m) (h' : Good H' m') {k : Int} (hk : 0 < (thAt H k).oid) (e : ∀ j, (thAt H' j).oid = if j = k then 0 else (thAt H j).oid) (y : Int) : ofH H' y = upd (ofH H) (thAt H k).oid 0 y :=
  h'.ofAll (fun y => by
    unfold upd
    by_cases hy : y = (thAt H k).oid
    · rw [if_pos hy]
      refine .inl ⟨rfl, fun j hj => ?_⟩
      rw [e]
      split
      · omega
      · rename_i hjk
        intro h2
        exact hjk (h.one j k (by omega) (by omega))
    · rw [if_neg hy]
      rcases h.ofCase y with ⟨h1, h2⟩ | ⟨h1, h2⟩
      · refine .inl ⟨h1, fun j hj => ?_⟩
        rw [e]
        split
        · omega
        · exact h2 j hj
      · refine .inr ⟨h1, ?_⟩
        rw [e]
        split
        · rename_i hjk
          rw [hjk] at h2
          exact absurd h2.symm hy
        · exact h2) y
end Go.Proofs.Ytekmgffjdheifaa
