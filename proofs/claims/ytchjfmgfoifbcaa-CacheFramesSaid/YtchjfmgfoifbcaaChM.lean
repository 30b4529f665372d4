/-
  A cache in memory. No condition: plain laws.
-/
import Derived.Test.YtchjfmgfoifbcaaChP
import Derived.Test.YtchjfmgfoifbcaaDskI
namespace Go.Proofs.Ytchjfmgfoifbcaa
open Go.RowKit
set_option linter.unusedVariables false
set_option linter.unusedSimpArgs false
set_option maxRecDepth 100000

theorem keyInt : Try.prog.underlying 3 = some (.int .i64) := Try.underlying3
def frow (a : Option Addr) (cc : Nat) (f : Fr) : List Value := [.slice a f.b.length cc, .int .i64 f.used, .bool f.dirty, .int .i64 f.pins]
def FrAt (c : Nat) (col : Nat → Nat) (w : World) (g : Nat) (f : Fr) : Prop := ∃ a cc, Row w g 70 (frow a cc f) ∧ col g = c ∧ Imm col w (.slice a f.b.length cc) f.b
structure CkIn (c : Nat) (col : Nat → Nat) (w : World) (b : Nat) (C : Ch) (bd bm : Nat) (at_ : Int → Option Nat) : Prop where
  row : Row w b 66 [.pointer (some ⟨bd, 0, none⟩), .int .i64 C.most, .int .i64 C.clock, .map (some bm)]
  nz : c ≠ 0
  cb : col b = c
  cm : col bm = c
  mp : MapIs ptrE Try.prog 3 w bm C.ks at_
  ne : bm ≠ b
  fr : ∀ k ∈ C.ks, ∃ g, at_ k = some g ∧ g ≠ b ∧ g ≠ bm ∧ FrAt c col w g (C.F k)
  inj : ∀ k ∈ C.ks, ∀ j ∈ C.ks, at_ k = at_ j → k = j
variable {c : Nat} {col col' : Nat → Nat} {w w' : World} {b bd bm : Nat} {C : Ch} {at_ : Int → Option Nat}
theorem FrAt.st {Q : Nat → Prop} {g : Nat} {f : Fr} (h : FrAt c col w g f) (k : St Q col w col' w') (h0 : ¬ Q 0) (hc : ¬ Q c) : FrAt c col' w' g f := by
  obtain ⟨a, cc, h1, h2, h3⟩ := h
  exact ⟨a, cc, h1.mods k.mods (by rw [h2]; exact hc), (k.ext g h1.lt).trans h2, h3.st k h0⟩
theorem FrAt.lt {g : Nat} {f : Fr} (h : FrAt c col w g f) : g < w.heap.size := by
  obtain ⟨a, cc, h1, _⟩ := h
  exact h1.lt
theorem CkIn.st {Q : Nat → Prop} (h : CkIn c col w b C bd bm at_) (k : St Q col w col' w') (h0 : ¬ Q 0) (hc : ¬ Q c) : CkIn c col' w' b C bd bm at_ :=
  ⟨h.row.mods k.mods (by rw [h.cb]; exact hc), h.nz, (k.ext b h.row.lt).trans h.cb, (k.ext bm h.mp.lt).trans h.cm, h.mp.mods k.mods (by rw [h.cm]; exact hc), h.ne, fun x hx => by
    obtain ⟨g, h1, h2, h3, h4⟩ := h.fr x hx
    exact ⟨g, h1, h2, h3, h4.st k h0 hc⟩, h.inj⟩
/-- all but one block stays -/
theorem St.only {X : Nat} (hm : Mods (fun x => x = X) w w') (hcol : ∀ g, g < w.heap.size → col' g = col g) : St (fun x => x = col X) col w col' w' := ⟨hm.mono fun g hg => by rw [hg], hcol⟩
theorem St.onlyX {X : Nat} (hm : Mods (fun x => x = X) w w') (hcol : ∀ g, g < w.heap.size → col' g = col g) (hX : col X = c) : St (fun x => x = c) col w col' w' := ⟨hm.mono fun g hg => by rw [hg]; exact hX, hcol⟩
theorem FrAt.stay {X g : Nat} {f : Fr} (h : FrAt c col w g f) (hc : c ≠ 0) (hm : Mods (fun x => x = X) w w') (hcol : ∀ g, g < w.heap.size → col' g = col g) (hX : col X = c) (hne : g ≠ X) : FrAt c col' w' g f := by
  obtain ⟨a, cc, h1, h2, h3⟩ := h
  exact ⟨a, cc, h1.mods hm hne, (hcol g h1.lt).trans h2, h3.st (St.onlyX hm hcol hX) (fun e => hc e.symm)⟩
/-- a frame is another one -/
theorem CkIn.poke (h : CkIn c col w b C bd bm at_) {k : Int} {g : Nat} {f : Fr} {a : Option Addr} {cc : Nat} (hk : k ∈ C.ks) (hg : at_ k = some g) (hm : Mods (fun x => x = g) w w') (hcol : ∀ g, g < w.heap.size → col' g = col g)
    (hr : Row w' g 70 (frow a cc f)) (hi : Imm col' w' (.slice a f.b.length cc) f.b) : CkIn c col' w' b { C with F := upd C.F k f } bd bm at_ := by
  obtain ⟨g', e1, e2, e3, hf⟩ := h.fr k hk
  have : g' = g := Option.some.inj (e1.symm.trans hg)
  subst this
  have hcg : col g' = c := by obtain ⟨_, _, _, h2, _⟩ := hf; exact h2
  refine ⟨h.row.mods hm (fun e => e2 e.symm), h.nz, (hcol b h.row.lt).trans h.cb, (hcol bm h.mp.lt).trans h.cm, h.mp.mods hm (fun e => e3 e.symm), h.ne, fun x hx => ?_, h.inj⟩
  by_cases hxk : x = k
  · subst hxk
    refine ⟨g', hg, e2, e3, ?_⟩
    show FrAt c col' w' g' (upd C.F x f x)
    rw [upd_same]
    exact ⟨a, cc, hr, (hcol g' hf.lt).trans hcg, hi⟩
  · obtain ⟨g2, f1, f2, f3, f4⟩ := h.fr x hx
    refine ⟨g2, f1, f2, f3, ?_⟩
    show FrAt c col' w' g2 (upd C.F k f x)
    rw [upd_other hxk]
    exact f4.stay h.nz hm hcol hcg (fun e => hxk (h.inj x hx k hk (by rw [f1, hg, e])))
/-- the cache's own cells are others -/
theorem CkIn.tick (h : CkIn c col w b C bd bm at_) {z : Int} (hm : Mods (fun x => x = b) w w') (hcol : ∀ g, g < w.heap.size → col' g = col g) (hr : Row w' b 66 [.pointer (some ⟨bd, 0, none⟩), .int .i64 C.most, .int .i64 z, .map (some bm)]) : CkIn c col' w' b { C with clock := z } bd bm at_ :=
  ⟨hr, h.nz, (hcol b h.row.lt).trans h.cb, (hcol bm h.mp.lt).trans h.cm, h.mp.mods hm h.ne, h.ne, fun x hx => by
    obtain ⟨g, h1, h2, h3, h4⟩ := h.fr x hx
    exact ⟨g, h1, h2, h3, h4.stay h.nz hm hcol h.cb h2⟩, h.inj⟩
theorem CkIn.put (h : CkIn c col w b C bd bm at_) {s : Int} {g : Nat} {f : Fr} (hs : s ∉ C.ks) (hf : FrAt c col w g f) (hgb : g ≠ b) (hgm : g ≠ bm) (hne : ∀ j ∈ C.ks, at_ j ≠ some g) (hm : Mods (fun x => x = bm) w w')
    (hM : MapIs ptrE Try.prog 3 w' bm (putK C.ks s) (upd at_ s (some g))) : CkIn c col w' b { C with ks := putK C.ks s, F := upd C.F s f } bd bm (upd at_ s (some g)) := by
  refine ⟨h.row.mods hm (fun e => h.ne e.symm), h.nz, h.cb, h.cm, hM, h.ne, fun x hx => ?_, fun x hx y hy e => ?_⟩
  · by_cases hxs : x = s
    · subst hxs
      refine ⟨g, upd_same _ _ _, hgb, hgm, ?_⟩
      show FrAt c col w' g (upd C.F x f x)
      rw [upd_same]
      exact hf.stay h.nz hm (fun _ _ => rfl) h.cm hgm
    · obtain ⟨g2, f1, f2, f3, f4⟩ := h.fr x ((mem_putK.1 hx).resolve_right hxs)
      refine ⟨g2, by rw [upd_other hxs]; exact f1, f2, f3, ?_⟩
      show FrAt c col w' g2 (upd C.F s f x)
      rw [upd_other hxs]
      exact f4.stay h.nz hm (fun _ _ => rfl) h.cm f3
  · by_cases hxs : x = s
    · by_cases hys : y = s
      · rw [hxs, hys]
      · rw [hxs, upd_same, upd_other hys] at e
        exact absurd e.symm (hne y ((mem_putK.1 hy).resolve_right hys))
    · by_cases hys : y = s
      · rw [hys, upd_same, upd_other hxs] at e
        exact absurd e (hne x ((mem_putK.1 hx).resolve_right hxs))
      · rw [upd_other hxs, upd_other hys] at e
        exact h.inj x ((mem_putK.1 hx).resolve_right hxs) y ((mem_putK.1 hy).resolve_right hys) e
theorem CkIn.del (h : CkIn c col w b C bd bm at_) {s : Int} (hm : Mods (fun x => x = bm) w w') (hM : MapIs ptrE Try.prog 3 w' bm (C.ks.erase s) (upd at_ s none)) : CkIn c col w' b { C with ks := C.ks.erase s } bd bm (upd at_ s none) := by
  have hmm : ∀ x, x ∈ C.ks.erase s ↔ x ≠ s ∧ x ∈ C.ks := fun x => List.Nodup.mem_erase_iff h.mp.nodup
  refine ⟨h.row.mods hm (fun e => h.ne e.symm), h.nz, h.cb, h.cm, hM, h.ne, fun x hx => ?_, fun x hx y hy e => ?_⟩
  · obtain ⟨h1, h2⟩ := (hmm x).1 hx
    obtain ⟨g2, f1, f2, f3, f4⟩ := h.fr x h2
    exact ⟨g2, by rw [upd_other h1]; exact f1, f2, f3, f4.stay h.nz hm (fun _ _ => rfl) h.cm f3⟩
  · obtain ⟨h1, h2⟩ := (hmm x).1 hx
    obtain ⟨h3, h4⟩ := (hmm y).1 hy
    rw [upd_other h1, upd_other h3] at e
    exact h.inj x h2 y h4 e
theorem CkIn.withD (h : CkIn c col w b C bd bm at_) (D : Dk) : CkIn c col w b { C with D := D } bd bm at_ := ⟨h.row, h.nz, h.cb, h.cm, h.mp, h.ne, h.fr, h.inj⟩
/-- a cache and its disk -/
def CkAt (c cd : Nat) (col : Nat → Nat) (w : World) (b bd : Nat) (C : Ch) : Prop := ∃ bm at_, CkIn c col w b C bd bm at_ ∧ DkAt 62 cd col w bd C.D
theorem CkAt.st {cd : Nat} {Q : Nat → Prop} (h : CkAt c cd col w b bd C) (k : St Q col w col' w') (h0 : ¬ Q 0) (hc : ¬ Q c) (hd : ¬ Q cd) : CkAt c cd col' w' b bd C := by
  obtain ⟨bm, at_, h1, h2⟩ := h
  exact ⟨bm, at_, h1.st k h0 hc, h2.st k h0 hd⟩
/-- the colours that a cache's steps turn -/
def CD (c cd : Nat) : Nat → Prop := fun x => x = c ∨ x = cd
/-- what a step leaves -/
def Left (c cd : Nat) (col : Nat → Nat) (w : World) (b bd : Nat) (C : Ch) (w' : World) : Prop := ∃ col', St (CD c cd) col w col' w' ∧ CkAt c cd col' w' b bd C
theorem Left.refl {cd : Nat} (h : CkAt c cd col w b bd C) : Left c cd col w b bd C w := ⟨col, St.refl _ _ _, h⟩
theorem Left.trans {cd : Nat} {C' : Ch} (h : St (CD c cd) col w col' w') {w2 : World} (k : Left c cd col' w' b bd C' w2) : Left c cd col w b bd C' w2 := by
  obtain ⟨col2, k1, k2⟩ := k
  exact ⟨col2, h.trans k1, k2⟩
/-- look-ups as runs -/
theorem CkIn.look (h : CkIn c col w b C bd bm at_) {t e : TypeId} (ht : Try.prog.underlying t = some (.map 3 e)) (hz : ∀ w, (zeroValue e).run Try.prog w = .ok (.pointer none) w) {k : Int} (hk : (Lit.int .i64 k).wf = true) : (Instr.lookup t (.map (some bm)) (.int .i64 k) false).run Try.prog w = .ok (ptrV (at_ k)) w :=
  h.mp.look keyInt ht (hz w) hk
theorem ptrV_some {at_ : Int → Option Nat} {k : Int} {g : Nat} (h : at_ k = some g) : ptrV (at_ k) = .pointer (some ⟨g, 0, none⟩) := by rw [h]; rfl
theorem ptrV_none {at_ : Int → Option Nat} {k : Int} (h : at_ k = none) : ptrV (at_ k) = .pointer none := by rw [h]; rfl
theorem CkIn.c0 (h : CkIn c col w b C bd bm at_) : w.cell? ⟨b, 0, none⟩ = some (.pointer (some ⟨bd, 0, none⟩)) := h.row.cell 0
theorem CkIn.c1 (h : CkIn c col w b C bd bm at_) : w.cell? ⟨b, 1, none⟩ = some (.int .i64 C.most) := h.row.cell 1
theorem CkIn.c2 (h : CkIn c col w b C bd bm at_) : w.cell? ⟨b, 2, none⟩ = some (.int .i64 C.clock) := h.row.cell 2
theorem CkIn.c3 (h : CkIn c col w b C bd bm at_) : w.cell? ⟨b, 3, none⟩ = some (.map (some bm)) := h.row.cell 3
theorem fr0 {g : Nat} {a : Option Addr} {cc : Nat} {f : Fr} (h : Row w g 70 (frow a cc f)) : w.cell? ⟨g, 0, none⟩ = some (.slice a f.b.length cc) := h.cell 0
theorem fr1 {g : Nat} {a : Option Addr} {cc : Nat} {f : Fr} (h : Row w g 70 (frow a cc f)) : w.cell? ⟨g, 1, none⟩ = some (.int .i64 f.used) := h.cell 1
theorem fr2 {g : Nat} {a : Option Addr} {cc : Nat} {f : Fr} (h : Row w g 70 (frow a cc f)) : w.cell? ⟨g, 2, none⟩ = some (.bool f.dirty) := h.cell 2
theorem fr3 {g : Nat} {a : Option Addr} {cc : Nat} {f : Fr} (h : Row w g 70 (frow a cc f)) : w.cell? ⟨g, 3, none⟩ = some (.int .i64 f.pins) := h.cell 3
end Go.Proofs.Ytchjfmgfoifbcaa
