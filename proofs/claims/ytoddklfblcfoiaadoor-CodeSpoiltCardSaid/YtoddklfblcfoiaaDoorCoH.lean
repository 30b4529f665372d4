/-
  Read, walked. Condition: bytes within a machine's reach.
-/
import Derived.Test.YtoddklfblcfoiaaDoorCoG
namespace Go.Proofs.YtoddklfblcfoiaaDoor
open Go Go.RowKit
set_option linter.unusedVariables false
set_option linter.unusedSimpArgs false
set_option maxRecDepth 100000

/-! ### many, one behind the other -/
theorem many_snoc {α : Type} {p : Rdr α} {l : List UInt8} : ∀ (i : Nat) (at_ : Nat) (xs : List α) (m : Nat) (x : α) (k : Nat), manyP p i l at_ = some (xs, m) → p l m = some (x, k) → manyP p (i + 1) l at_ = some (xs ++ [x], k)
  | 0, at_, xs, m, x, k, h, hp => by cases h; rw [manyP_succ, hp]; rfl
  | i + 1, at_, xs, m, x, k, h, hp => by
    rw [manyP_succ] at h ⊢
    cases h1 : p l at_ with
    | none => rw [h1] at h; cases h
    | some r =>
      obtain ⟨y, q⟩ := r
      rw [h1] at h
      simp only at h ⊢
      cases h2 : manyP p i l q with
      | none => rw [h2] at h; cases h
      | some s =>
        obtain ⟨ys, q2⟩ := s
        rw [h2] at h
        cases h
        rw [many_snoc i q ys m x k h2 hp]
        rfl
theorem many_stop {α : Type} {p : Rdr α} {l : List UInt8} : ∀ (i n : Nat) (at_ : Nat) (xs : List α) (m : Nat), manyP p i l at_ = some (xs, m) → p l m = none → i < n → manyP p n l at_ = none
  | 0, n + 1, at_, xs, m, h, hp, _ => by cases h; rw [manyP_succ, hp]
  | i + 1, n + 1, at_, xs, m, h, hp, hlt => by
    rw [manyP_succ] at h ⊢
    cases h1 : p l at_ with
    | none => rfl
    | some r =>
      obtain ⟨y, q⟩ := r
      rw [h1] at h
      simp only at h ⊢
      cases h2 : manyP p i l q with
      | none => rw [h2] at h; cases h
      | some s =>
        obtain ⟨ys, q2⟩ := s
        rw [h2] at h
        cases h
        rw [many_stop i n q ys m h2 hp (by omega)]
theorem rd0 {l : List UInt8} (h : numP 4 l 0 = none) : readC l = none := by simp [readC, codP, mapP, seqP, lenP, h]
theorem rd1 {l : List UInt8} {N p : Nat} (h : numP 4 l 0 = some (N, p)) (h2 : manyP (lenP insP) N l p = none) : readC l = none := by
  have e : lenP (lenP insP) l 0 = none := by rw [lenP, h]; exact h2
  simp [readC, codP, mapP, seqP, e]
theorem rd2 {l : List UInt8} {N p q : Nat} {F : List (List Ins)} (h : numP 4 l 0 = some (N, p)) (h2 : manyP (lenP insP) N l p = some (F, q)) (h3 : numP 4 l q = none) : readC l = none := by
  have e : lenP (lenP insP) l 0 = some (F, q) := by rw [lenP, h]; exact h2
  have e2 : lenP staP l q = none := by rw [lenP, h3]
  simp [readC, codP, mapP, seqP, e, e2]
theorem rd3 {l : List UInt8} {N p q M t : Nat} {F : List (List Ins)} (h : numP 4 l 0 = some (N, p)) (h2 : manyP (lenP insP) N l p = some (F, q)) (h3 : numP 4 l q = some (M, t)) (h4 : manyP staP M l t = none) : readC l = none := by
  have e : lenP (lenP insP) l 0 = some (F, q) := by rw [lenP, h]; exact h2
  have e2 : lenP staP l q = none := by rw [lenP, h3]; exact h4
  simp [readC, codP, mapP, seqP, e, e2]
theorem rd4 {l : List UInt8} {N p q M t u : Nat} {F : List (List Ins)} {R : List Sta} (h : numP 4 l 0 = some (N, p)) (h2 : manyP (lenP insP) N l p = some (F, q)) (h3 : numP 4 l q = some (M, t)) (h4 : manyP staP M l t = some (R, u)) : readC l = if u = l.length then some ⟨F, R⟩ else none := by
  have e : lenP (lenP insP) l 0 = some (F, q) := by rw [lenP, h]; exact h2
  have e2 : lenP staP l q = some (R, u) := by rw [lenP, h3]; exact h4
  simp [readC, codP, mapP, seqP, e, e2]
theorem ins_more {l : List UInt8} {p q : Nat} {x : Ins} (h : insP l p = some (x, q)) : p + 1 ≤ q := by
  have := (insP_codec.split h).2.2.1
  simp only [insL, List.length_append, digs_length] at this
  omega
theorem sta_more {l : List UInt8} {p q : Nat} {x : Sta} (h : staP l p = some (x, q)) : p + 1 ≤ q := by
  have := (staP_codec.split h).2.2.1
  simp only [staL, textL, List.length_append, digs_length] at this
  omega
/-! ### memory -/
/-- functions, each in memory of its own, apart from block B -/
inductive FnsA (w : World) (base : Nat) (B : Option Nat) : List Value → List (List Ins) → Prop where
  | nil : FnsA w base B [] []
  | cons {v : Value} {l : List Ins} {vs : List Value} {L : List (List Ins)} : Own w base 5 v l.length (inCells l) → (∀ k, v.ownBlock = some k → some k ≠ B) → FnsA w base B vs L → FnsA w base B (v :: vs) (l :: L)
theorem FnsA.fns {w : World} {base : Nat} {B : Option Nat} {vs : List Value} {L : List (List Ins)} (h : FnsA w base B vs L) : Fns w vs L := by
  induction h with
  | nil => exact .nil
  | cons h1 _ _ ih => exact .cons h1.sl ih
theorem FnsA.mods {w w' : World} {base : Nat} {B : Option Nat} {vs : List Value} {L : List (List Ins)} {P : Nat → Prop} (h : FnsA w base B vs L) (hm : Mods P w w') (hP : ∀ k, base ≤ k → k < w.heap.size → some k ≠ B → ¬ P k) : FnsA w' base B vs L := by
  induction h with
  | nil => exact .nil
  | cons h1 h2 _ ih => exact .cons (h1.mods hm (fun k hk => hP k (h1.lt k hk) (h1.lives k hk) (h2 k hk))) h2 ih
theorem FnsA.move {w : World} {base : Nat} {B B' : Option Nat} {vs : List Value} {L : List (List Ins)} (h : FnsA w base B vs L) (hB : ∀ k, B' = some k → B = some k ∨ w.heap.size ≤ k) : FnsA w base B' vs L := by
  induction h with
  | nil => exact .nil
  | cons h1 h2 _ ih => exact .cons h1 (fun k hk e => by
      rcases hB k e.symm with h | h
      · exact h2 k hk h.symm
      · have := h1.lives k hk; omega) ih
theorem FnsA.grow {w w' : World} {base : Nat} {B B' : Option Nat} {vs : List Value} {L : List (List Ins)} (h : FnsA w base B vs L) (hg : w.grownBy w' B) (hB : ∀ k, B' = some k → B = some k ∨ w.heap.size ≤ k) : FnsA w' base B' vs L := by
  induction h with
  | nil => exact .nil
  | cons h1 h2 _ ih =>
    refine .cons (h1.mods (Mods.grown hg) (fun k hk e => h2 k hk e.symm)) (fun k hk e => ?_) ih
    rcases hB k e.symm with h | h
    · exact h2 k hk h.symm
    · have := h1.lives k hk; omega
theorem FnsA.alloc {w : World} {base : Nat} {B : Option Nat} {vs : List Value} {L : List (List Ins)} (h : FnsA w base B vs L) (o : Obj) : FnsA (w.alloc o) base B vs L :=
  h.mods ((Mods.refl (fun _ => False) w).alloc o) (fun _ _ _ _ h => h)
theorem FnsA.none {w : World} {base : Nat} {B : Option Nat} {vs : List Value} {L : List (List Ins)} (h : FnsA w base B vs L) : FnsA w base none vs L := by
  induction h with
  | nil => exact .nil
  | cons h1 h2 _ ih => exact .cons h1 (fun k hk e => by cases e) ih
theorem FnsA.snoc {w : World} {base : Nat} {B : Option Nat} {vs : List Value} {L : List (List Ins)} (h : FnsA w base B vs L) {v : Value} {l : List Ins} (h1 : Own w base 5 v l.length (inCells l)) (h2 : ∀ k, v.ownBlock = some k → some k ≠ B) : FnsA w base B (vs ++ [v]) (L ++ [l]) := by
  induction h with
  | nil => exact .cons h1 h2 .nil
  | cons g1 g2 _ ih => exact .cons g1 g2 ih
structure CodA (w : World) (base : Nat) (vF vR : Value) (c : Cod) (vs : List Value) : Prop where
  own : Own w base 1 vF c.f.length vs
  fns : FnsA w base vF.ownBlock vs c.f
  roots : Own w base 2 vR c.r.length (stCells c.r)
  ne : ∀ k, vR.ownBlock = some k → some k ≠ vF.ownBlock
  fns2 : FnsA w base vR.ownBlock vs c.f
theorem CodA.codM {w : World} {base : Nat} {vF vR : Value} {c : Cod} {vs : List Value} (h : CodA w base vF vR c vs) : CodM w vF vR c := ⟨⟨vs, h.own.sl, h.fns.fns⟩, h.roots.sl⟩
theorem CodA.mods {w w' : World} {base : Nat} {vF vR : Value} {c : Cod} {vs : List Value} {P : Nat → Prop} (h : CodA w base vF vR c vs) (hm : Mods P w w') (hP : ∀ k, base ≤ k → k < w.heap.size → ¬ P k) : CodA w' base vF vR c vs :=
  ⟨h.own.mods hm (fun k hk => hP k (h.own.lt k hk) (h.own.lives k hk)), h.fns.mods hm (fun k hk h2 _ => hP k hk h2), h.roots.mods hm (fun k hk => hP k (h.roots.lt k hk) (h.roots.lives k hk)), h.ne, h.fns2.mods hm (fun k hk h2 _ => hP k hk h2)⟩
theorem FnsA.mono {w : World} {base base' : Nat} {B : Option Nat} {vs : List Value} {L : List (List Ins)} (h : FnsA w base B vs L) (hb : base' ≤ base) : FnsA w base' B vs L := by
  induction h with
  | nil => exact .nil
  | cons h1 h2 _ ih => exact .cons (h1.mono hb) h2 ih
theorem CodA.mono {w : World} {base base' : Nat} {vF vR : Value} {c : Cod} {vs : List Value} (h : CodA w base vF vR c vs) (hb : base' ≤ base) : CodA w base' vF vR c vs :=
  ⟨h.own.mono hb, h.fns.mono hb, h.roots.mono hb, h.ne, h.fns2.mono hb⟩
structure RdW (w : World) (a : Option Addr) (n c : Nat) (wr : World) (p : Nat) (vF vR : Value) (C : Cod) (vs : List Value) : Prop where
  cd : Row wr w.heap.size 25 [vF, vR]
  er : Row wr (w.heap.size + 1) 31 [.int .i64 0]
  rd : Row wr (w.heap.size + 1 + 1) 70 (rdC a n c p)
  ca : CodA wr (w.heap.size + 3) vF vR C vs
  bel : Below w.heap.size w wr
theorem RdW.go {w : World} {a : Option Addr} {n c : Nat} {wr w' : World} {p q : Nat} {vF vR : Value} {C : Cod} {vs : List Value} (h : RdW w a n c wr p vF vR C vs) (hr : Row w' (w.heap.size + 1 + 1) 70 (rdC a n c q)) (hm : Mods (fun b => b = w.heap.size + 1 + 1 ∨ wr.heap.size ≤ b) wr w') : RdW w a n c w' q vF vR C vs := by
  have h1 := h.rd.lt
  exact ⟨h.cd.mods hm (by omega), h.er.mods hm (by omega), hr, h.ca.mods hm (fun k hk h2 => by omega), below_mods h.bel hm (fun g hg => by omega) h.bel.size⟩
theorem RdW.go1 {w : World} {a : Option Addr} {n c : Nat} {wr w' : World} {p q : Nat} {vF vR : Value} {C : Cod} {vs : List Value} (h : RdW w a n c wr p vF vR C vs) (hr : Row w' (w.heap.size + 1 + 1) 70 (rdC a n c q)) (hm : Mods (fun b => b = w.heap.size + 1 + 1) wr w') : RdW w a n c w' q vF vR C vs :=
  h.go hr (hm.mono fun _ h => .inl h)
theorem RdW.fresh {w : World} {a : Option Addr} {n c : Nat} {wr w' : World} {p : Nat} {vF vR : Value} {C : Cod} {vs : List Value} (h : RdW w a n c wr p vF vR C vs) (hb : Below wr.heap.size wr w') : RdW w a n c w' p vF vR C vs :=
  h.go (h.rd.after hb) (Mods.fresh hb _)
theorem RdW.addF {w : World} {a : Option Addr} {n c : Nat} {wr : World} {q : Nat} {vF : Value} {fs : List (List Ins)} {vs : List Value} (h : RdW w a n c wr q vF nilV ⟨fs, []⟩ vs) {B : Nat} {f : Value} {xs : List Ins} (hf : Own wr B 5 f xs.length (inCells xs)) (hB : w.heap.size + 3 ≤ B) (hBF : ∀ k, vF.ownBlock = some k → k < B) (o : Obj) {w6 : World} {v6 : Value} (ho6 : Own w6 (w.heap.size + 3) 1 v6 (fs.length + 1) (vs ++ [f])) (hg6 : (wr.alloc o).grownBy w6 vF.ownBlock) (hc6 : ∀ g, v6.ownBlock = some g → vF.ownBlock = some g ∨ (wr.alloc o).heap.size ≤ g) :
    RdW w a n c (w6.setCell ⟨w.heap.size, 0, none⟩ v6) q v6 nilV ⟨fs ++ [xs], []⟩ (vs ++ [f]) := by
  have hFl : ∀ k, vF.ownBlock = some k → w.heap.size + 3 ≤ k := fun k hk => h.ca.own.lt k hk
  have hm6 := Mods.grown hg6
  have hset := Mods.set w6 w.heap.size 0 v6
  have hf6 : Own w6 (w.heap.size + 3) 5 f xs.length (inCells xs) := ((hf.alloc o).mods hm6 (fun k hk e => by have := hf.lt k hk; have := hBF k e; omega)).mono hB
  have hfn : ∀ k, f.ownBlock = some k → some k ≠ v6.ownBlock := fun k hk e => by
    have h1 := hf.lt k hk
    have h2 := hf.lives k hk
    rcases hc6 k e.symm with h | h
    · have := hBF k h; omega
    · simp at h; omega
  have hf7 : Own (w6.setCell ⟨w.heap.size, 0, none⟩ v6) (w.heap.size + 3) 5 f xs.length (inCells xs) := hf6.far (by omega) _
  refine ⟨?_, ?_, ?_, ⟨?_, ?_, Own.nil _ _ _, fun k hk => by (cases hk), ?_⟩, ?_⟩
  · have := ((h.cd.alloc o).mods hm6 (fun e => by have := hFl _ e; omega)).set 0 v6
    simpa using this
  · exact ((h.er.alloc o).mods hm6 (fun e => by have := hFl _ e; omega)).other (by omega) _
  · exact ((h.rd.alloc o).mods hm6 (fun e => by have := hFl _ e; omega)).other (by omega) _
  · have := ho6.far (b := w.heap.size) (o := 0) (by omega) v6
    simpa using this
  · exact (((h.ca.fns.alloc o).grow hg6 hc6).mods hset (fun k h1 _ _ e => by omega)).snoc hf7 hfn
  · exact (((h.ca.fns.alloc o).grow hg6 hc6).none.mods hset (fun k h1 _ _ e => by omega)).snoc hf7 (fun k _ e => by cases e)
  · have hb := h.bel.alloc h.bel.size o
    exact below_mods (below_mods hb hm6 (fun g hg => by have := hFl g hg; omega) hb.size) hset (fun g hg => by omega) (Nat.le_trans hb.size hm6.size)
theorem RdW.addR {w : World} {a : Option Addr} {n c : Nat} {wr : World} {q : Nat} {vF vR : Value} {fs : List (List Ins)} {rs : List Sta} {vs : List Value} (h : RdW w a n c wr q vF vR ⟨fs, rs⟩ vs) (x : Sta) (o : Obj) {w6 : World} {v6 : Value} (ho6 : Own w6 (w.heap.size + 3) 2 v6 (rs.length + 1) (stCells rs ++ staC x)) (hg6 : (wr.alloc o).grownBy w6 vR.ownBlock) (hc6 : ∀ g, v6.ownBlock = some g → vR.ownBlock = some g ∨ (wr.alloc o).heap.size ≤ g) :
    RdW w a n c (w6.setCell ⟨w.heap.size, 1, none⟩ v6) q vF v6 ⟨fs, rs ++ [x]⟩ vs := by
  have hFl : ∀ k, vR.ownBlock = some k → w.heap.size + 3 ≤ k := fun k hk => h.ca.roots.lt k hk
  have hm6 := Mods.grown hg6
  have hset := Mods.set w6 w.heap.size 1 v6
  have hF6 : Own w6 (w.heap.size + 3) 1 vF fs.length vs := (h.ca.own.alloc o).mods hm6 (fun k hk e => h.ca.ne k e hk.symm)
  refine ⟨?_, ?_, ?_, ⟨hF6.far (by omega) _, ?_, ?_, ?_, ?_⟩, ?_⟩
  · have := ((h.cd.alloc o).mods hm6 (fun e => by have := hFl _ e; omega)).set 1 v6
    simpa using this
  · exact ((h.er.alloc o).mods hm6 (fun e => by have := hFl _ e; omega)).other (by omega) _
  · exact ((h.rd.alloc o).mods hm6 (fun e => by have := hFl _ e; omega)).other (by omega) _
  · have g1 : FnsA w6 (w.heap.size + 3) vF.ownBlock vs fs := by
      have hall : ∀ {vs' : List Value} {L : List (List Ins)}, FnsA wr (w.heap.size + 3) vF.ownBlock vs' L → FnsA wr (w.heap.size + 3) vR.ownBlock vs' L → FnsA w6 (w.heap.size + 3) vF.ownBlock vs' L := by
        intro vs' L h1
        induction h1 with
        | nil => intro _; exact .nil
        | cons a1 a2 _ ih =>
          intro h2
          cases h2 with
          | cons b1 b2 b3 => exact .cons ((a1.alloc o).mods hm6 (fun k hk e => b2 k hk e.symm)) a2 (ih b3)
      exact hall h.ca.fns h.ca.fns2
    exact g1.mods hset (fun k h1 _ _ e => by omega)
  · have := ho6.far (b := w.heap.size) (o := 1) (by omega) v6
    have e : stCells (rs ++ [x]) = stCells rs ++ staC x := by simp [stCells]
    simp only [List.length_append, List.length_cons, List.length_nil, Nat.zero_add, e]
    exact this
  · intro k hk e
    rcases hc6 k hk with h1 | h1
    · exact h.ca.ne k h1 e
    · have := h.ca.own.lives k e.symm; simp at h1; omega
  · exact ((h.ca.fns2.alloc o).grow hg6 hc6).mods hset (fun k h1 _ _ e => by omega)
  · have hb := h.bel.alloc h.bel.size o
    exact below_mods (below_mods hb hm6 (fun g hg => by have := hFl g hg; omega) hb.size) hset (fun g hg => by omega) (Nat.le_trans hb.size hm6.size)
def ReadR (l : List UInt8) (w : World) (e : Ending) (w' : World) : Prop :=
  (∃ C vF vR vs, Hid (readC l = some C) ∧ e = .returned (.tuple #[.agg #[vF, vR], .int .i64 0]) ∧ CodA w' w.heap.size vF vR C vs ∧ Below w.heap.size w w') ∨ (readC l = none ∧ e = .returned (.tuple #[.agg #[nilV, nilV], .int .i64 8]) ∧ Below w.heap.size w w')
theorem read_results {wr : World} {g h : Nat} {vF vR : Value} {x : Int} (tmps : Array Value) (h2 : tmps.getD 2 undef = .pointer (some ⟨g, 0, none⟩)) (h3 : tmps.getD 3 undef = .pointer (some ⟨h, 0, none⟩)) (hcd : Row wr g 25 [vF, vR]) (her : Row wr h 31 [.int .i64 x]) :
    (results Tryd.f14 tmps).run Tryd.prog wr = .ok (.tuple #[.agg #[vF, vR], .int .i64 x]) wr := by
  have e2 : tmps[2]?.getD undef = .pointer (some ⟨g, 0, none⟩) := by simpa using h2
  have e3 : tmps[3]?.getD undef = .pointer (some ⟨h, 0, none⟩) := by simpa using h3
  have c3 := her.cell 0
  have c0 := hcd.cell 0
  have c1 := hcd.cell 1
  simp only [List.getElem?_cons_zero, List.getElem?_cons_succ] at c0 c1 c3
  have r1 := run_loadVar_row (P := Tryd.prog) wr g 25 25 #[vF, vR] (0, 0) _ hcd Tryd.underlying25 rfl (by kernel_rfl)
  simp [results, Tryd.results14, e2, e3, asAddr, r1, go_sem, loadVar, c0, c1, c3]
/-- Read's end where it returns -/
theorem read_ends {wr : World} {g h : Nat} {vF vR : Value} {x : Int} (tmps : Array Value) (h2 : tmps.getD 2 undef = .pointer (some ⟨g, 0, none⟩)) (h3 : tmps.getD 3 undef = .pointer (some ⟨h, 0, none⟩)) (hcd : Row wr g 25 [vF, vR]) (her : Row wr h 31 [.int .i64 x]) {R : Ending → World → Prop}
    (hR : R (.returned (.tuple #[.agg #[vF, vR], .int .i64 x])) wr) :
    Leaves Tryd.prog Tryd.f14 tmps R [{ target := .fn (.func 31) #[.pointer (some ⟨g, 0, none⟩), .pointer (some ⟨h, 0, none⟩)], args := #[] }] .returning wr := by
  refine leaves_cons (f := 31) (args := #[.pointer (some ⟨g, 0, none⟩), .pointer (some ⟨h, 0, none⟩)]) (by simp) (by simp [go_sem]) ?_
  refine (read_idle _ _ _).mono ?_
  rintro e u' w'' ⟨rfl, rfl, rfl⟩
  exact ⟨_, read_results tmps h2 h3 hcd her, hR⟩
/-- Read's end where bytes were wanting -/
theorem read_falls {wr : World} {g h : Nat} {vF vR : Value} {x : Int} (tmps : Array Value) (h2 : tmps.getD 2 undef = .pointer (some ⟨g, 0, none⟩)) (h3 : tmps.getD 3 undef = .pointer (some ⟨h, 0, none⟩)) (hne : g ≠ h) (hcd : Row wr g 25 [vF, vR]) (her : Row wr h 31 [.int .i64 x]) {R : Ending → World → Prop}
    (hR : ∀ w', Mods (fun b => b = g ∨ b = h) wr w' → R (.returned (.tuple #[.agg #[nilV, nilV], .int .i64 8])) w') :
    Leaves Tryd.prog Tryd.f14 tmps R [{ target := .fn (.func 31) #[.pointer (some ⟨g, 0, none⟩), .pointer (some ⟨h, 0, none⟩)], args := #[] }] (.panicking shortE) wr := by
  refine leaves_cons (f := 31) (args := #[.pointer (some ⟨g, 0, none⟩), .pointer (some ⟨h, 0, none⟩)]) (by simp) (by simp [go_sem]) ?_
  refine (read_catch g h [] _ _ x hcd her rfl hne).mono ?_
  rintro e u' w'' ⟨rfl, rfl, hg, hh, hmm⟩
  exact ⟨_, read_results tmps h2 h3 hg hh, hR w'' hmm⟩
theorem RdW.falls {l : List UInt8} {w : World} {a : Option Addr} {n c : Nat} {wr w' : World} {p : Nat} {vF vR : Value} {C : Cod} {vs : List Value} (h : RdW w a n c wr p vF vR C vs) (hm : Mods (fun b => b = w.heap.size + 1 + 1) wr w') (hno : readC l = none) (tmps : Array Value) (h2 : tmps.getD 2 undef = .pointer (some ⟨w.heap.size, 0, none⟩)) (h3 : tmps.getD 3 undef = .pointer (some ⟨w.heap.size + 1, 0, none⟩)) :
    Leaves Tryd.prog Tryd.f14 tmps (fun e w' => ReadR l w e w') [{ target := .fn (.func 31) #[.pointer (some ⟨w.heap.size, 0, none⟩), .pointer (some ⟨w.heap.size + 1, 0, none⟩)], args := #[] }] (.panicking shortE) w' :=
  read_falls tmps h2 h3 (by omega) (h.cd.mods hm (by omega)) (h.er.mods hm (by omega)) fun w2 hm2 => .inr ⟨hno, rfl, below_mods (below_mods h.bel hm (fun g hg => by omega) h.bel.size) hm2 (fun g hg => by omega) (Nat.le_trans h.bel.size hm.size)⟩
theorem etIns : ET Tryd.prog 44 46 (.agg #[.int .u8 0, .int .i64 0, .int .i64 0, .int .i64 0, .string ⟨#[]⟩]) 5 48 := ⟨Tryd.underlying44, by kernel_rfl, rfl, by decide⟩
theorem etFns : ET Tryd.prog 22 44 (.slice none 0 0) 1 24 := ⟨Tryd.underlying22, by kernel_rfl, rfl, by decide⟩
theorem etSta : ET Tryd.prog 23 48 (.agg #[.string ⟨#[]⟩, .string ⟨#[]⟩]) 2 32 := ⟨Tryd.underlying23, by kernel_rfl, rfl, by decide⟩
def RdF (w : World) (a : Option Addr) (n c : Nat) (l : List UInt8) (N : Nat) (v13 : Value) (wr : World) : Prop :=
  ∃ i : Nat, i ≤ N ∧ v13 = .int .u64 (i : Nat) ∧ Hid (∃ fs p vF vs, fs.length = i ∧ manyP (lenP insP) i l 4 = some (fs, p) ∧ i ≤ p ∧ p ≤ n ∧ RdW w a n c wr p vF nilV ⟨fs, []⟩ vs)
theorem RdF.mk {w : World} {a : Option Addr} {n c : Nat} {l : List UInt8} {N : Nat} {v13 : Value} {wr : World} (i : Nat) (fs : List (List Ins)) (p : Nat) (vF : Value) (vs : List Value) (h1 : i ≤ N) (h2 : v13 = .int .u64 (i : Nat)) (h3 : fs.length = i) (h4 : manyP (lenP insP) i l 4 = some (fs, p)) (h5 : i ≤ p) (h6 : p ≤ n) (h7 : RdW w a n c wr p vF nilV ⟨fs, []⟩ vs) : RdF w a n c l N v13 wr :=
  ⟨i, h1, h2, Lib.hid ⟨fs, p, vF, vs, h3, h4, h5, h6, h7⟩⟩
def RdI (w : World) (a : Option Addr) (n c : Nat) (l : List UInt8) (M p : Nat) (w3 : World) (v5 v17 : Value) (wr : World) : Prop :=
  ∃ (j : Nat) (af : Option Addr) (cf : Nat), j ≤ M ∧ j ≤ n ∧ v17 = .int .u64 (j : Nat) ∧ v5 = .slice af j cf ∧ Hid (∃ xs q, xs.length = j ∧ manyP insP j l p = some (xs, q) ∧ j ≤ q ∧ p ≤ q ∧ q ≤ n ∧ Row wr (w.heap.size + 1 + 1) 70 (rdC a n c q) ∧ Mods (fun b => b = w.heap.size + 1 + 1 ∨ w3.heap.size ≤ b) w3 wr ∧ Own wr w3.heap.size 5 (.slice af j cf) j (inCells xs))
theorem RdI.mk {w : World} {a : Option Addr} {n c : Nat} {l : List UInt8} {M p : Nat} {w3 : World} {v5 v17 : Value} {wr : World} (j : Nat) (xs : List Ins) (q : Nat) (h1 : j ≤ M) (h2 : v17 = .int .u64 (j : Nat)) (h3 : xs.length = j) (h4 : manyP insP j l p = some (xs, q)) (h5 : j ≤ q) (h8 : p ≤ q) (h6 : q ≤ n) (h7 : Row wr (w.heap.size + 1 + 1) 70 (rdC a n c q)) (h10 : Mods (fun b => b = w.heap.size + 1 + 1 ∨ w3.heap.size ≤ b) w3 wr) (h9 : Own wr w3.heap.size 5 v5 j (inCells xs)) : RdI w a n c l M p w3 v5 v17 wr := by
  obtain ⟨af, cf, rfl⟩ := h9.form
  exact ⟨j, af, cf, h1, by omega, h2, rfl, Lib.hid ⟨xs, q, h3, h4, h5, h8, h6, h7, h10, h9⟩⟩
def RbM (g : Nat) (x y : World) : Prop := Mods (fun b => b = g) x y
theorem RbM_refl (g : Nat) (w : World) : RbM g w w := Mods.refl _ _
theorem RbM_trans (g : Nat) (x y z : World) (h : RbM g x y) (k : RbM g y z) : RbM g x z := Mods.trans h k
instance laterRbM (g : Nat) (w : World) : Nonempty (Later (RbM g) w) := nonemptyLater (RbM_refl g) w
theorem laterM_cell {g : Nat} {w : World} {b o : Nat} {v : Value} (h : w.cell? ⟨b, o, none⟩ = some v) (hb : b ≠ g) : ∀ x : Later (RbM g) w.drew, x.w.cell? ⟨b, o, none⟩ = some v :=
  fun x => (Mods.trans ((Mods.refl (fun b => b = g) w).drew) x.later).cell h hb
def RdS (w : World) (a : Option Addr) (n c : Nat) (l : List UInt8) (M p : Nat) (vF : Value) (fs : List (List Ins)) (vs : List Value) (v34 : Value) (wr : World) : Prop :=
  ∃ k : Nat, k ≤ M ∧ v34 = .int .u64 (k : Nat) ∧ Hid (∃ rs q vR, rs.length = k ∧ manyP staP k l p = some (rs, q) ∧ k ≤ q ∧ q ≤ n ∧ RdW w a n c wr q vF vR ⟨fs, rs⟩ vs)
theorem RdS.mk {w : World} {a : Option Addr} {n c : Nat} {l : List UInt8} {M p : Nat} {vF : Value} {fs : List (List Ins)} {vs : List Value} {v34 : Value} {wr : World} (k : Nat) (rs : List Sta) (q : Nat) (vR : Value) (h1 : k ≤ M) (h2 : v34 = .int .u64 (k : Nat)) (h3 : rs.length = k) (h4 : manyP staP k l p = some (rs, q)) (h5 : k ≤ q) (h6 : q ≤ n) (h7 : RdW w a n c wr q vF vR ⟨fs, rs⟩ vs) : RdS w a n c l M p vF fs vs v34 wr :=
  ⟨k, h1, h2, Lib.hid ⟨rs, q, vR, h3, h4, h5, h6, h7⟩⟩
theorem sta_no1 {l : List UInt8} {p : Nat} (h : textP l p = none) : staP l p = none := by simp [staP, mapP, seqP, h]
theorem sta_no2 {l : List UInt8} {p q : Nat} {S : List UInt8} (h : textP l p = some (S, q)) (h2 : textP l q = none) : staP l p = none := by simp [staP, mapP, seqP, h, h2]
theorem sta_yes {l : List UInt8} {p q t : Nat} {S T : List UInt8} (h : textP l p = some (S, q)) (h2 : textP l q = some (T, t)) : staP l p = some (⟨S, T⟩, t) := by simp [staP, mapP, seqP, h, h2]
set_option maxHeartbeats 4000000 in
theorem read_p (a : Option Addr) (n c : Nat) (l : List UInt8) (w : World) (hl : Sl w 1 (.slice a n c) n (bvs l)) (hsz : n ≤ 1000000000) :
    Calls Tryd.prog 14 #[.slice a n c] w fun e w' => ReadR l w e w' := by
  have hn := hl.len
  have HL := Lib.hid hl
  have HN := Lib.hid hn.1
  have hmf : ∀ (fn : Fn) (first cap : Array Value) (w : World), (Instr.makeFunc fn first cap).run Tryd.prog w = .ok (.func fn first cap) w := fun _ _ _ _ => rfl
  clear hl hn
  go_enter_defers Tryd.func14, Tryd.ntmps14
  go_upto_region 3 with fail
  obtain ⟨w1, hw1⟩ : ∃ y, y = ((w.alloc (.cells #[.slice none 0 0, .slice none 0 0] 25)).alloc (.cells #[.int .i64 0] 31)).alloc (.cells #[.slice a n c, .int .i64 0] 70) := ⟨_, rfl⟩
  have hr1 : RdW w a n c w1 0 nilV nilV ⟨[], []⟩ [] := by
    rw [hw1]
    obtain ⟨wa, hwa⟩ : ∃ y, y = w.alloc (.cells #[.slice none 0 0, .slice none 0 0] 25) := ⟨_, rfl⟩
    have ra := Row.new w [nilV, nilV] 25
    have sa : wa.heap.size = w.heap.size + 1 := by rw [hwa]; simp
    have ba : Below w.heap.size w wa := by rw [hwa]; exact (Below.refl w.heap.size w).alloc (Nat.le_refl _) _
    rw [show w.alloc (.cells [nilV, nilV].toArray 25) = wa from hwa.symm] at ra
    rw [← hwa]
    clear hwa
    obtain ⟨wb, hwb⟩ : ∃ y, y = wa.alloc (.cells #[.int .i64 0] 31) := ⟨_, rfl⟩
    have rb := Row.new wa [.int .i64 0] 31
    have sb : wb.heap.size = w.heap.size + 1 + 1 := by rw [hwb]; simp [sa]
    have bb : Below w.heap.size w wb := by rw [hwb]; exact ba.alloc ba.size _
    have ra2 := ra.alloc (.cells #[.int .i64 0] 31)
    rw [show wa.alloc (.cells [Value.int .i64 0].toArray 31) = wb from hwb.symm, sa] at rb
    rw [← hwb] at ra2 ⊢
    clear hwb
    have rc := Row.new wb [.slice a n c, .int .i64 0] 70
    rw [sb] at rc
    exact ⟨ra2.alloc _, rb.alloc _, rc, ⟨Own.nil _ _ _, .nil, Own.nil _ _ _, fun k hk => by (cases hk), .nil⟩, bb.alloc bb.size _⟩
  have HNE : Hid (n = 0 ∨ ∀ b, (Value.slice a n c).ownBlock = some b → b ≠ w.heap.size + 1 + 1) := Lib.hid (by
    by_cases h0 : n = 0
    · exact .inl h0
    · refine .inr fun b hb => ?_
      obtain ⟨g, off, rfl, hlt, _⟩ := HL.out.addr (by omega)
      simp only [Value.ownBlock] at hb
      cases hb
      omega)
  rw [← hw1]
  clear hw1
  have HR1 := Lib.hid hr1
  clear hr1
  go_wp2_with fail
  refine (number_p _ a n c l 0 4 w1 HR1.out.rd (HL.out.below HR1.out.bel) (by omega) hsz (by omega)).mono ?_
  rintro e w2 (⟨N, HX, rfl, hr2, hm2⟩ | ⟨hx, rfl, hm2⟩)
  · have HR2 := Lib.hid (HR1.out.go1 hr2 hm2)
    have hNlt : N < 4294967296 := HX.out.2.2
    clear hr2 hm2
    go_wp2_with fail
    go_loopw [13] (fun v13 wr => RdF w a n c l N v13 wr) (fun v13 _ => N - (intOf v13).toNat)
    case atStart => exact RdF.mk 0 [] 4 nilV [] (Nat.zero_le _) rfl rfl rfl (by omega) HX.out.2.1 HR2.out
    case round =>
      clear HR2 HR1
      obtain ⟨i, hi, rfl, HI⟩ := hrel
      by_cases hin : i = N
      · subst hin
        obtain ⟨fs, p, vF, vs, hfs, hmany, hip, hpn, hW⟩ := HI.out
        have HM := Lib.hid hmany
        have HW := Lib.hid hW
        clear hfs hmany hW HI
        go_wp2_with fail
        refine (number_p _ a n c l p 4 wr HW.out.rd (HL.out.below HW.out.bel) (by omega) hsz hpn).mono ?_
        rintro e w3 (⟨M, HY, rfl, hr3, hm3⟩ | ⟨hx, rfl, hm3⟩)
        · have HW3 := Lib.hid (HW.out.go1 hr3 hm3)
          have hMlt : M < 4294967296 := HY.out.2.2
          clear hr3 hm3 HW
          go_wp2_with fail
          go_loopw [34] (fun v34 wr => RdS w a n c l M (p + 4) vF fs vs v34 wr) (fun v34 _ => M - (intOf v34).toNat)
          case atStart => exact RdS.mk 0 [] (p + 4) nilV (Nat.zero_le _) rfl rfl rfl (by omega) HY.out.2.1 HW3.out
          case round =>
            clear HW3
            obtain ⟨k, hk, rfl, HK⟩ := hrel
            by_cases hkM : k = M
            · subst hkM
              obtain ⟨rs, q, vR, hrs, hmr, hkq, hqn, hW⟩ := HK.out
              have d1 := hW.rd.cell 1
              have d0 := hW.rd.cell 0
              have e0 := hW.cd.cell 0
              have e1 := hW.cd.cell 1
              have g0 := hW.er.cell 0
              simp only [rdC, List.getElem?_cons_zero, List.getElem?_cons_succ] at d0 d1 e0 e1 g0
              have HW := Lib.hid hW
              have HR := Lib.hid (rd4 HX.out.1 HM.out HY.out.1 hmr)
              have f0 := HW.out.cd.free 0
              have f1 := HW.out.cd.free 1
              have h0 := HW.out.er.free 0
              clear hrs hmr hW HK
              by_cases hqe : q = n
              · subst hqe
                rw [if_pos HN.out.symm] at HR
                clear f0 f1 h0 e0 e1 g0
                go_upto_region 19 with fail
                clear d0 d1
                go_wp2_with (first | refine wpL_loadRow rfl _ _ rfl rfl HW.out.cd Tryd.underlying25 rfl (by kernel_rfl) ?_ | (refine wpL_storeRow rfl _ _ _ rfl (cs := [vF, vR]) rfl rfl HW.out.cd (by kernel_rfl) rfl (by have h1 := HW.out.ca.own.form; have h2 := HW.out.ca.roots.form; obtain ⟨_, _, rfl⟩ := h1; obtain ⟨_, _, rfl⟩ := h2; rfl) ?_; intro w9 hg9 hr9; have her9 := HW.out.er.grown hg9 (fun e => by injection e with e; omega); have g0 := her9.cell 0; have h0 := her9.free 0; simp only [List.getElem?_cons_zero] at g0))
                have hm9 : Mods (fun b => b = w.heap.size ∨ b = w.heap.size + 1) wr (w9.setCell ⟨w.heap.size + 1, 0, none⟩ (.int .i64 0)) := ((Mods.grown hg9).mono (fun b e => .inl (Option.some.inj e).symm)).trans ((Mods.set _ _ _ _).mono (fun b e => .inr e))
                exact read_ends _ rfl rfl (hr9.other (by omega) _) (her9.set 0 _) (.inl ⟨_, vF, vR, vs, HR, rfl, (HW.out.ca.mods hm9 (fun k hk _ e => by omega)).mono (by omega), below_mods HW.out.bel hm9 (fun g hg => by omega) HW.out.bel.size⟩)
              · rw [if_neg (fun e => hqe (e.trans HN.out))] at HR
                clear f0 f1 h0 e0 e1 g0
                go_upto_region 18 with fail
                clear d0 d1
                go_wp2_with (refine wpL_storeRow rfl _ _ _ rfl (cs := [nilV, nilV]) rfl rfl HW.out.cd (by kernel_rfl) rfl rfl ?_; intro w9 hg9 hr9; have her9 := HW.out.er.grown hg9 (fun e => by injection e with e; omega); have g0 := her9.cell 0; have h0 := her9.free 0; simp only [List.getElem?_cons_zero] at g0)
                have hm9 : Mods (fun b => b = w.heap.size ∨ b = w.heap.size + 1) wr (w9.setCell ⟨w.heap.size + 1, 0, none⟩ (.int .i64 8)) := ((Mods.grown hg9).mono (fun b e => .inl (Option.some.inj e).symm)).trans ((Mods.set _ _ _ _).mono (fun b e => .inr e))
                exact read_ends _ rfl rfl (hr9.other (by omega) _) (her9.set 0 _) (.inr ⟨HR.out, rfl, below_mods HW.out.bel hm9 (fun g hg => by omega) HW.out.bel.size⟩)
            · obtain ⟨rs, q, vR, hrs, hmr, hkq, hqn, hW⟩ := HK.out
              have hklt : (k : Int) < M := by omega
              have HRS := Lib.hid hrs
              have HMR := Lib.hid hmr
              have HW := Lib.hid hW
              clear hrs hmr hW HK
              go_wp2_with fail
              refine (rdtext_p _ a n c l q wr HW.out.rd (HL.out.below HW.out.bel) hsz hqn HNE).mono ?_
              rintro e w4 (⟨S, t, HZ, rfl, hr4, hm4⟩ | ⟨hx, rfl, hm4⟩)
              · have HW4 := Lib.hid (HW.out.go1 hr4 hm4)
                have hz2 := HZ.out.2
                have d1 := HW4.out.cd.cell 1
                simp only [List.getElem?_cons_succ, List.getElem?_cons_zero] at d1
                have q1 := laterM_cell (g := w.heap.size + 1 + 1) d1 (by omega)
                clear hr4 hm4 HW d1
                go_upto_region 15 with fail
                refine wp_region_idxP (RbM (w.heap.size + 1 + 1)) (RbM_refl _) (RbM_trans _) (fun c w' => c = shortE ∧ Mods (fun b => b = w.heap.size + 1 + 1) w4 w' ∧ readC l = none) [(0,0),(0,1),(0,2),(0,3),(1,4),(0,5),(1,6),(2,7),(2,8),(2,9)] (by kernel_rfl) [2, 3] (by kernel_rfl) (by kernel_rfl) (by kernel_rfl) ?_ ?_
                · rintro c a' w' hh ⟨rfl, hmm, hno⟩
                  have h2 := hh.2 2 (by simp)
                  have h3 := hh.2 3 (by simp)
                  show Leaves _ _ a'.tmps _ a'.defers _ w'
                  rw [hh.1]
                  exact HW4.out.falls hmm hno _ h2 h3
                simp only [pickO, List.getD_cons_succ, List.getD_cons_zero]
                refine wpCanP_seg 4 (by kernel_rfl) ?_
                simp only [List.take_succ_cons, List.take_zero, List.drop_succ_cons, List.drop_zero, List.map_cons, List.map_nil]
                iterate 4 (go_big_quiet_step (fail))
                refine wpQuiet_nil ?_
                clear q1
                refine wpCanP_list (k := 0) (fun KK hK hP => ?_) rfl
                go_wp2_with fail
                refine (rdtext_p _ a n c l t w4.drew HW4.out.rd.drew (HL.out.below (HW4.out.bel.drew)) hsz hz2 HNE).mono ?_
                rintro e w5 (⟨T, u, HU, rfl, hr5, hm5⟩ | ⟨hx, rfl, hm5⟩)
                · have HW5 := Lib.hid ((HW4.out.fresh (Below.refl _ _).drew).go1 hr5 hm5)
                  go_wp2_with fail
                  refine hK _ _ ⟨rfl, fun j hj => ?_⟩ (fun _ => hm5) ?_
                  · have : j = 2 ∨ j = 3 := by simpa using hj
                    rcases this with rfl | rfl <;> rfl
                  clear hK hP KK hm5 hr5
                  refine wpCanP_seg 1 (by kernel_rfl) ?_
                  simp only [List.take_succ_cons, List.take_zero, List.drop_succ_cons, List.drop_zero, List.map_cons, List.map_nil]
                  iterate 1 (go_big_quiet_step (fail))
                  refine wpQuiet_nil ?_
                  refine wpCanP_list (k := 0) (fun KK hK hP => ?_) rfl
                  go_wp2_with fail
                  refine hK _ _ ⟨rfl, fun j hj => ?_⟩ (fun _ => Mods.fresh ((Below.refl _ _).alloc (Nat.le_refl _) _) _) ?_
                  · have : j = 2 ∨ j = 3 := by simpa using hj
                    rcases this with rfl | rfl <;> rfl
                  clear hK hP KK
                  have HO := Lib.hid (HW5.out.ca.roots.alloc (.cells #[.string (str S), .string (str T)] 48))
                  have HS := Lib.hid (Sl.litS w5 (staC ⟨S, T⟩) 48 2 1 rfl (by decide))
                  have HBS : Hid (w.heap.size + 3 ≤ (w5.alloc (.cells #[.string (str S), .string (str T)] 48)).heap.size) := Lib.hid (by have := HW5.out.rd.lt; simp; omega)
                  have HFL : Hid (rs.length ≤ n) := Lib.hid (by have := HRS.out; omega)
                  refine wpCanP_list (k := 1) (fun KK hK hP => ?_) rfl
                  go_wp2_with (at_builtin; refine wpL_appendX2 etSta rfl _ _ rfl HO.out rfl HS.out rfl (by simp [staC, Value.oneCell']) (by have := HFL.out; show (rs.length + 1) * 32 ≤ _; omega) (by have := HFL.out; show rs.length + 1 ≤ _; simp [maxLen]; omega) HBS.out ?_; intro v6 w6 ho6 hg6 hc6; obtain ⟨a6, c6, rfl⟩ := ho6.form)
                  refine hK _ _ ⟨rfl, fun j hj => ?_⟩ (fun h => by cases h) ?_
                  · have : j = 2 ∨ j = 3 := by simpa using hj
                    rcases this with rfl | rfl <;> rfl
                  clear hK hP KK
                  have hr6 := ((HW5.out.cd.alloc (.cells #[.string (str S), .string (str T)] 48)).mods (Mods.grown hg6) (fun e => by have := HO.out.lt _ e; omega))
                  have d1 := hr6.cell 1
                  have f1 := hr6.free 1
                  simp only [List.getElem?_cons_succ, List.getElem?_cons_zero] at d1
                  refine wpCanP_list (k := 1) (fun KK hK hP => ?_) rfl
                  go_wp2_with fail
                  refine hK _ _ ⟨rfl, fun j hj => ?_⟩ (fun h => by cases h) ?_
                  · have : j = 2 ∨ j = 3 := by simpa using hj
                    rcases this with rfl | rfl <;> rfl
                  clear hK hP KK
                  refine wpCanP_list (k := 1) (fun KK hK hP => ?_) rfl
                  go_wp2_with fail
                  refine hK _ _ ⟨rfl, fun j hj => ?_⟩ (fun h => by cases h) ?_
                  · have : j = 2 ∨ j = 3 := by simpa using hj
                    rcases this with rfl | rfl <;> rfl
                  clear hK hP KK d1 f1
                  unfold wpCanP
                  have hW7 := HW5.out.addR ⟨S, T⟩ _ ho6 hg6 hc6
                  have hsy := sta_yes HZ.out.1 HU.out.1
                  have hmo := sta_more hsy
                  go_wp2_with fail
                  exact ⟨RdS.mk (k + 1) (rs ++ [⟨S, T⟩]) u _ (by omega) (by go_num) (by rw [List.length_append, HRS.out]; rfl) (many_snoc _ _ _ _ _ _ HMR.out hsy) (by omega) HU.out.2 hW7, by simp [intOf]; omega⟩
                · go_wp2_with fail
                  exact hP _ _ _ ⟨rfl, (Mods.refl _ _).drew.trans hm5, rd3 HX.out.1 HM.out HY.out.1 (many_stop _ _ _ _ _ HMR.out (sta_no2 HZ.out.1 hx) (by omega))⟩
              · go_wp2_with fail
                exact ((HW.out)).falls hm4 (rd3 HX.out.1 HM.out HY.out.1 (many_stop _ _ _ _ _ HMR.out (sta_no1 hx) (by omega))) _ rfl rfl
        · go_wp2_with fail
          exact ((HW.out)).falls hm3 (rd2 HX.out.1 HM.out hx) _ rfl rfl
      · obtain ⟨fs, p, vF, vs, hfs, hmany, hip, hpn, hW⟩ := HI.out
        have hlt : (i : Int) < N := by omega
        have HF := Lib.hid hfs
        have HM := Lib.hid hmany
        have HW := Lib.hid hW
        clear hfs hmany hW HI
        go_wp2_with fail
        refine (number_p _ a n c l p 4 wr HW.out.rd (HL.out.below HW.out.bel) (by omega) hsz hpn).mono ?_
        rintro e w3 (⟨M, HY, rfl, hr3, hm3⟩ | ⟨hx, rfl, hm3⟩)
        · have HW3 := Lib.hid (HW.out.go1 hr3 hm3)
          have hMlt : M < 4294967296 := HY.out.2.2
          clear hr3 hm3 HW
          go_wp2_with fail
          go_loopw [5, 17] (fun v5 v17 wr => RdI w a n c l M (p + 4) w3 v5 v17 wr) (fun _ v17 _ => M - (intOf v17).toNat)
          case atStart => exact RdI.mk 0 [] (p + 4) (Nat.zero_le _) rfl rfl rfl (by omega) (by omega) HY.out.2.1 HW3.out.rd (Mods.refl _ _) (Own.nil _ _ _)
          case round =>
            obtain ⟨j, af, cf, hj, hjn, rfl, rfl, HJ⟩ := hrel
            by_cases hjM : j = M
            · subst hjM
              obtain ⟨xs, q, hxs, hmi, hjq, hpq, hqn, hrr, hmm, hO⟩ := HJ.out
              have hW := HW3.out.go hrr hmm
              have d0 := hW.cd.cell 0
              simp only [List.getElem?_cons_zero] at d0
              have HO := Lib.hid (hW.ca.own.alloc (.cells #[.slice af j cf] 44))
              have HS := Lib.hid (Sl.one wr (.slice af j cf) 44)
              have hBs : w.heap.size + 3 ≤ w3.heap.size := by have := HW3.out.rd.lt; omega
              have HBS : Hid (w.heap.size + 3 ≤ (wr.alloc (.cells #[.slice af j cf] 44)).heap.size) := Lib.hid (by have := hmm.size; simp; omega)
              have hfl : fs.length ≤ n := by have := HF.out; omega
              have HFL := Lib.hid hfl
              have hf5 : Own wr w3.heap.size 5 (.slice af j cf) xs.length (inCells xs) := by rw [hxs]; exact hO
              have HF5 := Lib.hid hf5
              have HW := Lib.hid hW
              have HXS : Hid (lenP insP l p = some (xs, q)) := Lib.hid (by rw [lenP, HY.out.1]; exact hmi)
              clear hW hf5 hO hxs hmi hrr hmm HJ hBs
              go_wp2_with (at_builtin; refine wpL_appendX2 etFns rfl _ _ rfl HO.out rfl HS.out rfl (by simp [Value.oneCell']) (by have := HFL.out; show (fs.length + 1) * 24 ≤ _; omega) (by have := HFL.out; show fs.length + 1 ≤ _; simp [maxLen]; omega) HBS.out ?_; intro v6 w6 ho6 hg6 hc6; obtain ⟨a6, c6, rfl⟩ := ho6.form; have hr6 := ((HW.out.cd.alloc (.cells #[.slice af j cf] 44)).mods (Mods.grown hg6) (fun e => by have := HO.out.lt _ e; omega)); have d1 := hr6.cell 0; have f1 := hr6.free 0; simp only [List.getElem?_cons_zero] at d1)
              have hW7 := HW.out.addF HF5.out (by have := HW3.out.rd.lt; omega) (fun k hk => HW3.out.ca.own.lives k hk) _ ho6 hg6 hc6
              exact ⟨RdF.mk (i + 1) (fs ++ [xs]) q _ (vs ++ [.slice af j cf]) (by omega) (by go_num) (by rw [List.length_append, HF.out]; rfl) (many_snoc _ _ _ _ _ _ HM.out HXS.out) (by omega) hqn hW7, by simp [intOf]; omega⟩
            · obtain ⟨xs, q, hxs, hmi, hjq, hpq, hqn, hrr, hmm, hO⟩ := HJ.out
              have hjlt : (j : Int) < M := by omega
              have HXS := Lib.hid hxs
              have HMI := Lib.hid hmi
              have HW := Lib.hid (HW3.out.go hrr hmm)
              have HMM := Lib.hid hmm
              have HO := Lib.hid hO
              clear hxs hmi hO HJ hrr hmm
              go_wp2_with fail
              refine (rdins_p _ a n c l q wr HW.out.rd (HL.out.below HW.out.bel) hsz hqn HNE).mono ?_
              rintro e w4 (⟨x, t, HZ, rfl, hr4, hm4⟩ | ⟨hx, rfl, hm4⟩)
              · simp only [insV]
                have HR4 := Lib.hid hr4
                have HM4 := Lib.hid (HMM.out.trans (hm4.mono fun _ h => .inl h))
                have hxs2 : (xs ++ [x]).length = j + 1 := by rw [List.length_append, HXS.out]; rfl
                have hm5 := many_snoc _ _ _ _ _ _ HMI.out HZ.out.1
                have hmore := ins_more HZ.out.1
                have ho4 := HO.out.mods hm4 (fun k hk e => by have := HO.out.lt k hk; have := HW3.out.rd.lt; omega)
                have ho5 := ho4.alloc (.cells #[.int .u8 (x.op.toNat : Int), .int .i64 x.a, .int .i64 x.b, .int .i64 x.c, .string (str x.t)] 46)
                have HO5 := Lib.hid ho5
                have HS5 := Lib.hid (Sl.litS w4 (insC x) 46 5 1 rfl (by decide))
                have H1 := Lib.hid hmore
                have H2 := Lib.hid hxs2
                have H3 := Lib.hid hm5
                have H4 : Hid (w3.heap.size ≤ (w4.alloc (.cells #[.int .u8 (x.op.toNat : Int), .int .i64 x.a, .int .i64 x.b, .int .i64 x.c, .string (str x.t)] 46)).heap.size) := Lib.hid (by have := HM4.out.size; simp; omega)
                have H5 := Lib.hid (HM4.out.alloc (.cells #[.int .u8 (x.op.toNat : Int), .int .i64 x.a, .int .i64 x.b, .int .i64 x.c, .string (str x.t)] 46))
                have H6 := Lib.hid (HR4.out.alloc (.cells #[.int .u8 (x.op.toNat : Int), .int .i64 x.a, .int .i64 x.b, .int .i64 x.c, .string (str x.t)] 46))
                clear hr4 hm4 ho4 ho5 hmore hxs2 hm5
                go_wp2_with (at_builtin; refine wpL_append etIns rfl _ _ rfl HO5.out rfl HS5.out rfl (by simp [insC, Value.oneCell']) (by omega) (by simp [maxLen]; omega) H4.out ?_; intro v6 w6 ho6 hg6)
                have hb6 : ∀ g, (Value.slice af j cf).ownBlock = some g → w3.heap.size ≤ g := fun g hg => HO5.out.lt g hg
                refine ⟨RdI.mk (j + 1) (xs ++ [x]) t (by omega) (by go_num) H2.out H3.out (by have := H1.out; omega) (by have := H1.out; omega) HZ.out.2 ?_ ?_ ?_, by simp [intOf]; omega⟩
                · exact H6.out.grown hg6 (fun e => by have := hb6 _ e.symm; have := HW3.out.rd.lt; omega)
                · exact H5.out.trans ((Mods.grown hg6).mono fun g hg => .inr (hb6 g hg))
                · have e : inCells (xs ++ [x]) = inCells xs ++ insC x := by simp [inCells]
                  rw [e]; exact ho6
              · go_wp2_with fail
                exact ((HW.out)).falls hm4 (rd1 HX.out.1 (many_stop _ _ _ _ _ HM.out (by rw [lenP, HY.out.1]; exact many_stop _ _ _ _ _ HMI.out hx (by omega)) (by omega))) _ rfl rfl
        · go_wp2_with fail
          exact ((HW.out)).falls hm3 (rd1 HX.out.1 (many_stop _ _ _ _ _ HM.out (by rw [lenP, hx]) (by omega))) _ rfl rfl
  · go_wp2_with fail
    exact ((HR1.out)).falls hm2 (rd0 hx) _ rfl rfl
end Go.Proofs.YtoddklfblcfoiaaDoor
