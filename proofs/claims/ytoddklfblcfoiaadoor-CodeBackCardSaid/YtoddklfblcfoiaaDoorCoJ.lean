/-
  The document's Read, walked. Condition: bytes within a machine's reach.
-/
import Derived.Test.YtoddklfblcfoiaaDoorCoH
import Derived.Test.YtoddklfblcfoiaaDoorCoI
import Derived.Test.YtoddklfblcfoiaaDoorStore
namespace Go.Proofs.YtoddklfblcfoiaaDoor
open Go Go.RowKit
set_option linter.unusedVariables false
set_option linter.unusedSimpArgs false
set_option maxRecDepth 100000

theorem CodA.addF {wr : World} {base : Nat} {vF : Value} {fs : List (List Ins)} {vs : List Value} (h : CodA wr base vF nilV ⟨fs, []⟩ vs) {B : Nat} {f : Value} {xs : List Ins} (hf : Own wr B 5 f xs.length (inCells xs)) (hB : base ≤ B) (hBF : ∀ k, vF.ownBlock = some k → k < B) (o : Obj) {w6 : World} {v6 : Value} (ho6 : Own w6 base 1 v6 (fs.length + 1) (vs ++ [f])) (hg6 : (wr.alloc o).grownBy w6 vF.ownBlock) (hc6 : ∀ g, v6.ownBlock = some g → vF.ownBlock = some g ∨ (wr.alloc o).heap.size ≤ g) :
    CodA w6 base v6 nilV ⟨fs ++ [xs], []⟩ (vs ++ [f]) := by
  have hm6 := Mods.grown hg6
  have hf6 : Own w6 base 5 f xs.length (inCells xs) := ((hf.alloc o).mods hm6 (fun k hk e => by have := hf.lt k hk; have := hBF k e; omega)).mono hB
  have hfn : ∀ k, f.ownBlock = some k → some k ≠ v6.ownBlock := fun k hk e => by
    have h1 := hf.lt k hk
    have h2 := hf.lives k hk
    rcases hc6 k e.symm with h | h
    · have := hBF k h; omega
    · simp at h; omega
  refine ⟨by simpa using ho6, ((h.fns.alloc o).grow hg6 hc6).snoc hf6 hfn, Own.nil _ _ _, fun k hk => by (cases hk), ?_⟩
  exact ((h.fns.alloc o).grow hg6 hc6).none.snoc hf6 (fun k _ e => by cases e)
theorem CodA.addR {wr : World} {base : Nat} {vF vR : Value} {fs : List (List Ins)} {rs : List Sta} {vs : List Value} (h : CodA wr base vF vR ⟨fs, rs⟩ vs) (x : Sta) (o : Obj) {w6 : World} {v6 : Value} (ho6 : Own w6 base 2 v6 (rs.length + 1) (stCells rs ++ staC x)) (hg6 : (wr.alloc o).grownBy w6 vR.ownBlock) (hc6 : ∀ g, v6.ownBlock = some g → vR.ownBlock = some g ∨ (wr.alloc o).heap.size ≤ g) :
    CodA w6 base vF v6 ⟨fs, rs ++ [x]⟩ vs := by
  have hm6 := Mods.grown hg6
  refine ⟨(h.own.alloc o).mods hm6 (fun k hk e => h.ne k e hk.symm), ?_, ?_, ?_, (h.fns2.alloc o).grow hg6 hc6⟩
  · have hall : ∀ {vs' : List Value} {L : List (List Ins)}, FnsA wr base vF.ownBlock vs' L → FnsA wr base vR.ownBlock vs' L → FnsA w6 base vF.ownBlock vs' L := by
      intro vs' L h1
      induction h1 with
      | nil => intro _; exact .nil
      | cons a1 a2 _ ih =>
        intro h2
        cases h2 with
        | cons b1 b2 b3 => exact .cons ((a1.alloc o).mods hm6 (fun k hk e => b2 k hk e.symm)) a2 (ih b3)
    exact hall h.fns h.fns2
  · have e : stCells (rs ++ [x]) = stCells rs ++ staC x := by simp [stCells]
    simp only [List.length_append, List.length_cons, List.length_nil, Nat.zero_add, e]
    exact ho6
  · intro k hk e
    rcases hc6 k hk with h1 | h1
    · exact h.ne k h1 e
    · have := h.own.lives k e.symm; simp at h1; omega
structure RbW (w : World) (a : Option Addr) (n c : Nat) (wr : World) (p : Nat) (bad : Bool) (vF vR : Value) (C : Cod) (vs : List Value) : Prop where
  res : Row wr w.heap.size 25 [nilV, nilV]
  rd : Row wr (w.heap.size + 1) 76 (rbC a n c p bad)
  cd : Row wr (w.heap.size + 1 + 1) 25 [vF, vR]
  ca : CodA wr (w.heap.size + 3) vF vR C vs
  bel : Below w.heap.size w wr
theorem RbW.go {w : World} {a : Option Addr} {n c : Nat} {wr w' : World} {p q : Nat} {bad bad' : Bool} {vF vR : Value} {C : Cod} {vs : List Value} (h : RbW w a n c wr p bad vF vR C vs) (hr : Row w' (w.heap.size + 1) 76 (rbC a n c q bad')) (hm : Mods (fun b => b = w.heap.size + 1 ∨ wr.heap.size ≤ b) wr w') : RbW w a n c w' q bad' vF vR C vs := by
  have h1 := h.cd.lt
  exact ⟨h.res.mods hm (by omega), hr, h.cd.mods hm (by omega), h.ca.mods hm (fun k hk h2 => by omega), below_mods h.bel hm (fun g hg => by omega) h.bel.size⟩
theorem RbW.go1 {w : World} {a : Option Addr} {n c : Nat} {wr w' : World} {p q : Nat} {bad bad' : Bool} {vF vR : Value} {C : Cod} {vs : List Value} (h : RbW w a n c wr p bad vF vR C vs) (hr : Row w' (w.heap.size + 1) 76 (rbC a n c q bad')) (hm : Mods (fun b => b = w.heap.size + 1) wr w') : RbW w a n c w' q bad' vF vR C vs :=
  h.go hr (hm.mono fun _ h => .inl h)
theorem RbW.fresh {w : World} {a : Option Addr} {n c : Nat} {wr w' : World} {p : Nat} {bad : Bool} {vF vR : Value} {C : Cod} {vs : List Value} (h : RbW w a n c wr p bad vF vR C vs) (hb : Below wr.heap.size wr w') : RbW w a n c w' p bad vF vR C vs :=
  h.go (h.rd.after hb) (Mods.fresh hb _)
theorem RbW.addF {w : World} {a : Option Addr} {n c : Nat} {wr : World} {q : Nat} {bad : Bool} {vF : Value} {fs : List (List Ins)} {vs : List Value} (h : RbW w a n c wr q bad vF nilV ⟨fs, []⟩ vs) {B : Nat} {f : Value} {xs : List Ins} (hf : Own wr B 5 f xs.length (inCells xs)) (hB : w.heap.size + 3 ≤ B) (hBF : ∀ k, vF.ownBlock = some k → k < B) (o : Obj) {w6 : World} {v6 : Value} (ho6 : Own w6 (w.heap.size + 3) 1 v6 (fs.length + 1) (vs ++ [f])) (hg6 : (wr.alloc o).grownBy w6 vF.ownBlock) (hc6 : ∀ g, v6.ownBlock = some g → vF.ownBlock = some g ∨ (wr.alloc o).heap.size ≤ g) :
    RbW w a n c (w6.setCell ⟨w.heap.size + 1 + 1, 0, none⟩ v6) q bad v6 nilV ⟨fs ++ [xs], []⟩ (vs ++ [f]) := by
  have hFl : ∀ k, vF.ownBlock = some k → w.heap.size + 3 ≤ k := fun k hk => h.ca.own.lt k hk
  have hm6 := Mods.grown hg6
  have hset := Mods.set w6 (w.heap.size + 1 + 1) 0 v6
  refine ⟨((h.res.alloc o).mods hm6 (fun e => by have := hFl _ e; omega)).other (by omega) _, ((h.rd.alloc o).mods hm6 (fun e => by have := hFl _ e; omega)).other (by omega) _, ?_, (h.ca.addF hf hB hBF o ho6 hg6 hc6).mods hset (fun k hk _ e => by omega), ?_⟩
  · have := ((h.cd.alloc o).mods hm6 (fun e => by have := hFl _ e; omega)).set 0 v6
    simpa using this
  · have hb := h.bel.alloc h.bel.size o
    exact below_mods (below_mods hb hm6 (fun g hg => by have := hFl g hg; omega) hb.size) hset (fun g hg => by omega) (Nat.le_trans hb.size hm6.size)
theorem RbW.addR {w : World} {a : Option Addr} {n c : Nat} {wr : World} {q : Nat} {bad : Bool} {vF vR : Value} {fs : List (List Ins)} {rs : List Sta} {vs : List Value} (h : RbW w a n c wr q bad vF vR ⟨fs, rs⟩ vs) (x : Sta) (o : Obj) {w6 : World} {v6 : Value} (ho6 : Own w6 (w.heap.size + 3) 2 v6 (rs.length + 1) (stCells rs ++ staC x)) (hg6 : (wr.alloc o).grownBy w6 vR.ownBlock) (hc6 : ∀ g, v6.ownBlock = some g → vR.ownBlock = some g ∨ (wr.alloc o).heap.size ≤ g) :
    RbW w a n c (w6.setCell ⟨w.heap.size + 1 + 1, 1, none⟩ v6) q bad vF v6 ⟨fs, rs ++ [x]⟩ vs := by
  have hFl : ∀ k, vR.ownBlock = some k → w.heap.size + 3 ≤ k := fun k hk => h.ca.roots.lt k hk
  have hm6 := Mods.grown hg6
  have hset := Mods.set w6 (w.heap.size + 1 + 1) 1 v6
  refine ⟨((h.res.alloc o).mods hm6 (fun e => by have := hFl _ e; omega)).other (by omega) _, ((h.rd.alloc o).mods hm6 (fun e => by have := hFl _ e; omega)).other (by omega) _, ?_, (h.ca.addR x o ho6 hg6 hc6).mods hset (fun k hk _ e => by omega), ?_⟩
  · have := ((h.cd.alloc o).mods hm6 (fun e => by have := hFl _ e; omega)).set 1 v6
    simpa using this
  · have hb := h.bel.alloc h.bel.size o
    exact below_mods (below_mods hb hm6 (fun g hg => by have := hFl g hg; omega) hb.size) hset (fun g hg => by omega) (Nat.le_trans hb.size hm6.size)
/-! ### the loops' relations -/
def FunG (l : List UInt8) (N p0 i : Nat) (fs : List (List Ins)) (p : Nat) (bad : Bool) : Prop := (bad = false ∧ numP 4 l 0 = some (N, p0) ∧ manyP (lenP insP) i l p0 = some (fs, p)) ∨ (bad = true ∧ readC l = none)
def RbF (w : World) (a : Option Addr) (n c : Nat) (l : List UInt8) (p0 N : Nat) (v7 : Value) (wr : World) : Prop :=
  ∃ i : Nat, i ≤ N ∧ v7 = .int .i64 (i : Nat) ∧ Hid (∃ fs p bad vF vs, fs.length = i ∧ p ≤ n ∧ RbW w a n c wr p bad vF nilV ⟨fs, []⟩ vs ∧ FunG l N p0 i fs p bad)
theorem RbF.mk {w : World} {a : Option Addr} {n c : Nat} {l : List UInt8} {p0 N : Nat} {v7 : Value} {wr : World} (i : Nat) (fs : List (List Ins)) (p : Nat) (bad : Bool) (vF : Value) (vs : List Value) (h1 : i ≤ N) (h2 : v7 = .int .i64 (i : Nat)) (h3 : fs.length = i) (h4 : p ≤ n) (h5 : RbW w a n c wr p bad vF nilV ⟨fs, []⟩ vs) (h6 : FunG l N p0 i fs p bad) : RbF w a n c l p0 N v7 wr :=
  ⟨i, h1, h2, Lib.hid ⟨fs, p, bad, vF, vs, h3, h4, h5, h6⟩⟩
def InsG (l : List UInt8) (M p p1 j : Nat) (xs : List Ins) (q : Nat) (bad : Bool) : Prop := (bad = false ∧ numP 4 l p = some (M, p1) ∧ manyP insP j l p1 = some (xs, q)) ∨ (bad = true ∧ lenP insP l p = none)
def RbI (w : World) (a : Option Addr) (n c : Nat) (l : List UInt8) (M p p1 : Nat) (w3 : World) (v8 v10 : Value) (wr : World) : Prop :=
  ∃ (j : Nat) (af : Option Addr) (cf : Nat), j ≤ M ∧ v10 = .int .i64 (j : Nat) ∧ v8 = .slice af j cf ∧ Hid (∃ xs q bad, xs.length = j ∧ q ≤ n ∧ Row wr (w.heap.size + 1) 76 (rbC a n c q bad) ∧ Mods (fun b => b = w.heap.size + 1 ∨ w3.heap.size ≤ b) w3 wr ∧ Own wr w3.heap.size 5 (.slice af j cf) j (inCells xs) ∧ InsG l M p p1 j xs q bad)
theorem RbI.mk {w : World} {a : Option Addr} {n c : Nat} {l : List UInt8} {M p p1 : Nat} {w3 : World} {v8 v10 : Value} {wr : World} (j : Nat) (xs : List Ins) (q : Nat) (bad : Bool) (h1 : j ≤ M) (h2 : v10 = .int .i64 (j : Nat)) (h3 : xs.length = j) (h4 : q ≤ n) (h5 : Row wr (w.heap.size + 1) 76 (rbC a n c q bad)) (h6 : Mods (fun b => b = w.heap.size + 1 ∨ w3.heap.size ≤ b) w3 wr) (h7 : Own wr w3.heap.size 5 v8 j (inCells xs)) (h8 : InsG l M p p1 j xs q bad) : RbI w a n c l M p p1 w3 v8 v10 wr := by
  obtain ⟨af, cf, rfl⟩ := h7.form
  exact ⟨j, af, cf, h1, h2, rfl, Lib.hid ⟨xs, q, bad, h3, h4, h5, h6, h7, h8⟩⟩
def StaG (l : List UInt8) (p0 k : Nat) (rs : List Sta) (q : Nat) (bad : Bool) (fs : List (List Ins)) (M : Nat) : Prop :=
  (bad = false ∧ ∃ N P1 F2 Q1, numP 4 l 0 = some (N, P1) ∧ manyP (lenP insP) N l P1 = some (fs, F2) ∧ numP 4 l F2 = some (M, Q1) ∧ p0 = Q1 ∧ manyP staP k l p0 = some (rs, q)) ∨ (bad = true ∧ readC l = none)
def RbS (w : World) (a : Option Addr) (n c : Nat) (l : List UInt8) (p0 M : Nat) (vF : Value) (fs : List (List Ins)) (vs : List Value) (v12 : Value) (wr : World) : Prop :=
  ∃ k : Nat, k ≤ M ∧ v12 = .int .i64 (k : Nat) ∧ Hid (∃ rs q bad vR, rs.length = k ∧ q ≤ n ∧ RbW w a n c wr q bad vF vR ⟨fs, rs⟩ vs ∧ StaG l p0 k rs q bad fs M)
theorem RbS.mk {w : World} {a : Option Addr} {n c : Nat} {l : List UInt8} {p0 M : Nat} {vF : Value} {fs : List (List Ins)} {vs : List Value} {v12 : Value} {wr : World} (k : Nat) (rs : List Sta) (q : Nat) (bad : Bool) (vR : Value) (h1 : k ≤ M) (h2 : v12 = .int .i64 (k : Nat)) (h3 : rs.length = k) (h4 : q ≤ n) (h5 : RbW w a n c wr q bad vF vR ⟨fs, rs⟩ vs) (h6 : StaG l p0 k rs q bad fs M) : RbS w a n c l p0 M vF fs vs v12 wr :=
  ⟨k, h1, h2, Lib.hid ⟨rs, q, bad, vR, h3, h4, h5, h6⟩⟩
theorem sta_start {l : List UInt8} {N p0 i : Nat} {fs : List (List Ins)} {p : Nat} {bad : Bool} {M p1 : Nat} {b1 : Bool} (hG : FunG l N p0 i fs p bad) (hY : NB l 4 p bad M p1 b1) (hi : bad = false → i = N) : StaG l p1 0 [] p1 b1 fs M := by
  rcases hG with ⟨h, g1, g2⟩ | ⟨h, h0⟩
  · have hi := hi h
    subst hi
    rcases hY with ⟨h1, h2, h3⟩ | ⟨h2, h3⟩
    · exact .inl ⟨h2, _, _, _, _, g1, g2, h3, rfl, rfl⟩
    · exact .inr ⟨h2, rd2 g1 g2 (h3.resolve_left (by intro h'; rw [h] at h'; cases h'))⟩
  · rcases hY with ⟨h1, _, _⟩ | ⟨h2, _⟩
    · rw [h] at h1; cases h1
    · exact .inr ⟨h2, h0⟩
theorem sta_next {l : List UInt8} {p0 k : Nat} {rs : List Sta} {q : Nat} {fs : List (List Ins)} {M q1 q2 : Nat} {b2 b3 : Bool} {S T : List UInt8} (hS : StaG l p0 k rs q false fs M) (h1 : TB l q false S q1 b2) (h2 : TB l q1 b2 T q2 b3) (hk : k < M) : StaG l p0 (k + 1) (rs ++ [⟨S, T⟩]) q2 b3 fs M := by
  rcases hS with ⟨_, N, P1, F2, Q1, g1, g2, g3, g4, g5⟩ | ⟨h, _⟩
  · rcases sta_chain h1 h2 with ⟨e1, e2⟩ | ⟨e1, e2⟩
    · exact .inl ⟨e1, N, P1, F2, Q1, g1, g2, g3, g4, many_snoc _ _ _ _ _ _ g5 e2⟩
    · subst g4
      exact .inr ⟨e1, rd3 g1 g2 g3 (many_stop _ _ _ _ _ g5 e2 hk)⟩
  · cases h
theorem sta_end {l : List UInt8} {p0 k : Nat} {rs : List Sta} {q : Nat} {bad : Bool} {fs : List (List Ins)} {M : Nat} (hS : StaG l p0 k rs q bad fs M) (hk : bad = false → k = M) : readC l = if bad = true ∨ q ≠ l.length then none else some ⟨fs, rs⟩ := by
  rcases hS with ⟨h, N, P1, F2, Q1, g1, g2, g3, g4, g5⟩ | ⟨h, h0⟩
  · have hk := hk h
    subst hk g4
    rw [rd4 g1 g2 g3 g5, h]
    by_cases hq : q = l.length
    · rw [if_pos hq, if_neg (by simp [hq])]
    · rw [if_neg hq, if_pos (.inr hq)]
  · rw [if_pos (.inl h), h0]
theorem rread_results {wr : World} {g : Nat} {vF vR : Value} (tmps : Array Value) {x : Int} (h2 : tmps.getD 2 undef = .pointer (some ⟨g, 0, none⟩)) (h3 : tmps.getD 3 undef = .int .i64 x) (hcd : Row wr g 25 [vF, vR]) :
    (results Tryd.f15 tmps).run Tryd.prog wr = .ok (.tuple #[.agg #[vF, vR], .int .i64 x]) wr := by
  have e2 : tmps[2]?.getD undef = .pointer (some ⟨g, 0, none⟩) := by simpa using h2
  have e3 : tmps[3]?.getD undef = .int .i64 x := by simpa using h3
  have r1 := run_loadVar_row (P := Tryd.prog) wr g 25 25 #[vF, vR] (0, 0) _ hcd Tryd.underlying25 rfl (by kernel_rfl)
  rw [results_cell_tmp Tryd.results15, h2, h3]
  simp [asAddr, r1]
theorem numx {l : List UInt8} {k at_ x p : Nat} {b b' : Bool} (h : NB l k at_ b x p b') (hb : b' = false) : b = false ∧ numP k l at_ = some (x, p) := by
  rcases h with ⟨h1, h2, h3⟩ | ⟨h, _⟩
  · exact ⟨h1, h3⟩
  · rw [h] at hb; cases hb
def insD (o : Nat) (A B C : Int) (S : List UInt8) : List Value := [.int .u8 (o : Nat), .int .i64 A, .int .i64 B, .int .i64 C, .string (str S)]
structure RiS (w : World) (a : Option Addr) (n c : Nat) (w3 W : World) (p : Nat) (b : Bool) (x0 : Nat) (cells : List Value) (f : Value) (j : Nat) (xs : List Ins) : Prop where
  rd : Row W (w.heap.size + 1) 76 (rbC a n c p b)
  row : Row W x0 46 cells
  mm : Mods (fun b => b = w.heap.size + 1 ∨ w3.heap.size ≤ b) w3 W
  own : Own W w3.heap.size 5 f j (inCells xs)
  bel : Below w.heap.size w W
  lv : ∀ k, f.ownBlock = some k → k < x0
  hi : w3.heap.size ≤ x0
  lo : w.heap.size + 1 < w3.heap.size
theorem RiS.call {w : World} {a : Option Addr} {n c : Nat} {w3 W W' : World} {p q : Nat} {b b' : Bool} {x0 : Nat} {cells : List Value} {f : Value} {j : Nat} {xs : List Ins} (h : RiS w a n c w3 W p b x0 cells f j xs) (hr : Row W' (w.heap.size + 1) 76 (rbC a n c q b')) (hm : Mods (fun b => b = w.heap.size + 1) W W') : RiS w a n c w3 W' q b' x0 cells f j xs := by
  have h1 := h.hi
  have h2 := h.lo
  exact ⟨hr, h.row.mods hm (by omega), h.mm.trans (hm.mono fun _ h => .inl h), h.own.mods hm (fun k hk e => by have := h.own.lt k hk; omega), below_mods h.bel hm (fun g hg => by omega) h.bel.size, h.lv, h.hi, h.lo⟩
theorem RiS.set {w : World} {a : Option Addr} {n c : Nat} {w3 W : World} {p : Nat} {b : Bool} {x0 : Nat} {cells : List Value} {f : Value} {j : Nat} {xs : List Ins} (h : RiS w a n c w3 W p b x0 cells f j xs) (I : Nat) (v : Value) : RiS w a n c w3 (W.setCell ⟨x0, I, none⟩ v) p b x0 (cells.set I v) f j xs := by
  have h1 := h.hi
  have h2 := h.lo
  have hs := Mods.set W x0 I v
  exact ⟨h.rd.other (by omega) _, h.row.set I v, h.mm.trans (hs.mono fun g e => .inr (by omega)), h.own.mods hs (fun k hk e => by have := h.lv k hk; omega), below_mods h.bel hs (fun g hg => by have := h.bel.size; omega) h.bel.size, h.lv, h.hi, h.lo⟩
theorem insD_C {o : Nat} (h : o < 256) (A B C : Int) (S : List UInt8) : insD o A B C S = insC ⟨UInt8.ofNat o, A, B, C, S⟩ := by
  have : (UInt8.ofNat o).toNat = o := by rw [UInt8.toNat_ofNat']; omega
  simp only [insD, insC, this]
set_option maxHeartbeats 4000000 in
theorem rread_p (a : Option Addr) (n c : Nat) (l : List UInt8) (w : World) (hl : Sl w 1 (.slice a n c) n (bvs l)) (hsz : n ≤ 1000000000) :
    Calls Tryd.prog 15 #[.slice a n c] w fun e w' => ReadR l w e w' := by
  have hn := hl.len
  have HL := Lib.hid hl
  have HN := Lib.hid hn.1
  clear hl hn
  go_enter Tryd.func15, Tryd.ntmps15
  go_upto_region 3 with fail
  obtain ⟨w1, hw1⟩ : ∃ y, y = ((w.alloc (.cells #[.slice none 0 0, .slice none 0 0] 25)).alloc (.cells #[.slice a n c, .int .i64 0, .bool false] 76)).alloc (.cells #[.slice none 0 0, .slice none 0 0] 25) := ⟨_, rfl⟩
  have hr1 : RbW w a n c w1 0 false nilV nilV ⟨[], []⟩ [] := by
    rw [hw1]
    obtain ⟨wa, hwa⟩ : ∃ y, y = w.alloc (.cells #[.slice none 0 0, .slice none 0 0] 25) := ⟨_, rfl⟩
    have ra := Row.new w [nilV, nilV] 25
    have sa : wa.heap.size = w.heap.size + 1 := by rw [hwa]; simp
    have ba : Below w.heap.size w wa := by rw [hwa]; exact (Below.refl w.heap.size w).alloc (Nat.le_refl _) _
    rw [show w.alloc (.cells [nilV, nilV].toArray 25) = wa from hwa.symm] at ra
    rw [← hwa]
    clear hwa
    obtain ⟨wb, hwb⟩ : ∃ y, y = wa.alloc (.cells #[.slice a n c, .int .i64 0, .bool false] 76) := ⟨_, rfl⟩
    have rb := Row.new wa [.slice a n c, .int .i64 0, .bool false] 76
    have sb : wb.heap.size = w.heap.size + 1 + 1 := by rw [hwb]; simp [sa]
    have bb : Below w.heap.size w wb := by rw [hwb]; exact ba.alloc ba.size _
    have ra2 := ra.alloc (.cells #[.slice a n c, .int .i64 0, .bool false] 76)
    rw [show wa.alloc (.cells [Value.slice a n c, .int .i64 0, .bool false].toArray 76) = wb from hwb.symm, sa] at rb
    rw [← hwb] at ra2 ⊢
    clear hwb
    have rc := Row.new wb [nilV, nilV] 25
    rw [sb] at rc
    exact ⟨ra2.alloc _, rb.alloc _, rc, ⟨Own.nil _ _ _, .nil, Own.nil _ _ _, fun k hk => by (cases hk), .nil⟩, bb.alloc bb.size _⟩
  have HNE : Hid (n = 0 ∨ ∀ b, (Value.slice a n c).ownBlock = some b → b ≠ w.heap.size + 1) := Lib.hid (by
    by_cases h0 : n = 0
    · exact .inl h0
    · refine .inr fun b hb => ?_
      obtain ⟨g, off, rfl, hlt, _⟩ := HL.out.addr (by omega)
      simp only [Value.ownBlock] at hb
      cases hb
      omega)
  rw [← hw1]
  clear hw1
  have HR1 := Lib.hid hr1
  clear hr1
  go_wp2_with fail
  refine (rnumber_p _ a n c l 0 4 false w1 HR1.out.rd (HL.out.below HR1.out.bel) (by omega) hsz (by omega)).mono ?_
  rintro e w2 ⟨N, p0, b0, HX, hNlt, rfl, hr2, hm2⟩
  have HR2 := Lib.hid (HR1.out.go1 hr2 hm2)
  have hNlt : N < 4294967296 := hNlt
  clear hr2 hm2 HR1
  go_wp2_with fail
  go_loopw [7] (fun v7 wr => RbF w a n c l p0 N v7 wr) (fun v7 _ => N - (intOf v7).toNat)
  case atStart =>
    refine RbF.mk 0 [] p0 b0 nilV [] (Nat.zero_le _) rfl rfl HX.out.2 HR2.out ?_
    rcases HX.out.1 with ⟨_, h2, h3⟩ | ⟨h2, h3⟩
    · exact .inl ⟨h2, h3, rfl⟩
    · exact .inr ⟨h2, rd0 (h3.resolve_left (by intro h; cases h))⟩
  case round =>
    clear HR2
    obtain ⟨i, hi, rfl, HI⟩ := hrel
    obtain ⟨fs, p, bad, vF, vs, hfs, hpn, hW, hG⟩ := HI.out
    have HF := Lib.hid hfs
    have HG := Lib.hid hG
    have HW := Lib.hid hW
    have d2 := hW.rd.cell 2
    simp only [rbC, List.getElem?_cons_zero, List.getElem?_cons_succ] at d2
    clear hfs hG hW HI
    by_cases hin : i = N
    · subst hin
      cases bad with
      | true =>
        go_wp2_with fail
        refine (rnumber_p _ a n c l p 4 _ wr HW.out.rd (HL.out.below HW.out.bel) (by omega) hsz hpn).mono ?_
        rintro e w3 ⟨M, p1, b1, HY, hMlt, rfl, hr3, hm3⟩
        have HW3 := Lib.hid (HW.out.go1 hr3 hm3)
        have hMlt : M < 4294967296 := hMlt
        clear hr3 hm3 HW d2
        go_wp2_with fail
        go_loopw [12] (fun v12 wr => RbS w a n c l p1 M vF fs vs v12 wr) (fun v12 _ => M - (intOf v12).toNat)
        case atStart =>
          exact RbS.mk 0 [] p1 b1 nilV (Nat.zero_le _) rfl rfl HY.out.2 HW3.out (sta_start HG.out HY.out.1 (fun h => by first | rfl | cases h))
        case round =>
          clear HW3
          obtain ⟨k, hk, rfl, HK⟩ := hrel
          obtain ⟨rs, q, bad, vR, hrs, hqn, hW, hS⟩ := HK.out
          have HRS := Lib.hid hrs
          have HW := Lib.hid hW
          have HSG := Lib.hid hS
          have d2 := hW.rd.cell 2
          simp only [rbC, List.getElem?_cons_zero, List.getElem?_cons_succ] at d2
          clear hrs hW hS HK
          by_cases hkM : k = M
          · subst hkM
            cases bad with
            | true =>
              have HR := Lib.hid (sta_end HSG.out (fun h => by first | rfl | cases h))
              go_upto_region 27 with fail
              go_wp2_with (refine wpL_storeRow rfl _ _ _ rfl (cs := [nilV, nilV]) rfl rfl HW.out.res (by kernel_rfl) rfl rfl ?_; intro w9 hg9 hr9)
              try simp only [Exit.inBlock, Exit.then]
              have hm9 := Mods.grown hg9
              exact bodyPost_ret (rread_results _ rfl rfl hr9) rfl (.inr ⟨(HR.out.trans (if_pos (.inl (by simp)))), rfl, below_mods HW.out.bel hm9 (fun g hg => by injection hg with hg; omega) HW.out.bel.size⟩)
            | false =>
              have d1 := HW.out.rd.cell 1
              simp only [rbC, List.getElem?_cons_zero, List.getElem?_cons_succ] at d1
              have HR := Lib.hid (sta_end HSG.out (fun h => by first | rfl | cases h))
              by_cases hqe : q = n
              · subst hqe
                go_upto_region 28 with fail
                go_wp2_with (first | refine wpL_loadRow rfl _ _ rfl rfl HW.out.cd Tryd.underlying25 rfl (by kernel_rfl) ?_ | (refine wpL_storeRow rfl _ _ _ rfl (cs := [vF, vR]) rfl rfl HW.out.res (by kernel_rfl) rfl (by have h1 := HW.out.ca.own.form; have h2 := HW.out.ca.roots.form; obtain ⟨_, _, rfl⟩ := h1; obtain ⟨_, _, rfl⟩ := h2; rfl) ?_; intro w9 hg9 hr9))
                try simp only [Exit.inBlock, Exit.then]
                have hm9 := Mods.grown hg9
                refine bodyPost_ret (rread_results _ rfl rfl hr9) rfl (.inl ⟨⟨fs, rs⟩, vF, vR, vs, Lib.hid (HR.out.trans (if_neg ?_)), rfl, (HW.out.ca.mods hm9 (fun k hk _ e => by injection e with e; omega)).mono (by omega), below_mods HW.out.bel hm9 (fun g hg => by injection hg with hg; omega) HW.out.bel.size⟩)
                have := HN.out
                simp [this]
              · go_upto_region 27 with fail
                go_wp2_with (refine wpL_storeRow rfl _ _ _ rfl (cs := [nilV, nilV]) rfl rfl HW.out.res (by kernel_rfl) rfl rfl ?_; intro w9 hg9 hr9)
                try simp only [Exit.inBlock, Exit.then]
                have hm9 := Mods.grown hg9
                exact bodyPost_ret (rread_results _ rfl rfl hr9) rfl (.inr ⟨(HR.out.trans (if_pos (.inr (fun e => hqe (e.trans HN.out))))), rfl, below_mods HW.out.bel hm9 (fun g hg => by injection hg with hg; omega) HW.out.bel.size⟩)
          · have hklt : (k : Int) < M := by omega
            cases bad with
            | true =>
              have HR := Lib.hid (sta_end HSG.out (fun h => by first | rfl | cases h))
              go_upto_region 27 with fail
              go_wp2_with (refine wpL_storeRow rfl _ _ _ rfl (cs := [nilV, nilV]) rfl rfl HW.out.res (by kernel_rfl) rfl rfl ?_; intro w9 hg9 hr9)
              try simp only [Exit.inBlock, Exit.then]
              have hm9 := Mods.grown hg9
              exact bodyPost_ret (rread_results _ rfl rfl hr9) rfl (.inr ⟨(HR.out.trans (if_pos (.inl (by simp)))), rfl, below_mods HW.out.bel hm9 (fun g hg => by injection hg with hg; omega) HW.out.bel.size⟩)
            | false =>
              have hklt : (k : Int) < M := by omega
              go_wp2_with fail
              refine (rrdtext_p _ a n c l q false wr HW.out.rd (HL.out.below HW.out.bel) hsz hqn HNE).mono ?_
              rintro e w4 ⟨S, q1, b2, H1, rfl, hr4, hm4⟩
              have HW4 := Lib.hid (HW.out.go1 hr4 hm4)
              have HM4 := Lib.hid hm4
              have h1n := H1.out.2
              clear hr4 hm4 d2
              go_upto_region 24 with fail
              have hr5 := Row.new w4 [.string (str S), .string ⟨#[]⟩] 48
              obtain ⟨W1, hw9⟩ : ∃ y, y = w4.alloc (.cells #[.string (str S), .string ⟨#[]⟩] 48) := ⟨_, rfl⟩
              have hb5 : Below w4.heap.size w4 W1 := by rw [hw9]; exact (Below.refl _ _).alloc (Nat.le_refl _) _
              rw [← hw9]
              rw [show w4.alloc (.cells [Value.string (str S), .string ⟨#[]⟩].toArray 48) = W1 from hw9.symm] at hr5
              clear hw9
              have HB5 := Lib.hid hb5
              have HR5 := Lib.hid hr5
              have HW5 := Lib.hid (HW4.out.fresh hb5)
              clear hb5 hr5
              go_wp2_with fail
              refine (rrdtext_p _ a n c l q1 b2 W1 HW5.out.rd (HL.out.below HW5.out.bel) hsz h1n HNE).mono ?_
              rintro e w6 ⟨T, q2, b3, H2, rfl, hr6, hm6⟩
              have hx6 := HR5.out.mods hm6 (fun e => by have := HW4.out.cd.lt; omega)
              have c1 := hx6.cell 1
              have f1 := hx6.free 1
              simp only [List.getElem?_cons_zero, List.getElem?_cons_succ] at c1
              have HX6 := Lib.hid (hx6.set 1 (.string (str T)))
              have HW6 := Lib.hid (HW5.out.go1 hr6 hm6)
              have HM6 := Lib.hid hm6
              clear hr6 hm6 hx6
              go_upto_region 25 with fail
              clear c1 f1
              have hmm : Mods (fun b => b = w.heap.size + 1 ∨ wr.heap.size ≤ b) wr (w6.setCell ⟨w4.heap.size, 1, none⟩ (.string (str T))) := (((HM4.out.mono fun _ h => .inl h).trans (Mods.fresh HB5.out _)).trans (HM6.out.mono fun _ h => .inl h)).trans ((Mods.set _ _ _ _).mono fun g e => .inr (by have := HM4.out.size; omega))
              have hr7 : Row (w6.setCell ⟨w4.heap.size, 1, none⟩ (.string (str T))) (w.heap.size + 1) 76 (rbC a n c q2 b3) := HW6.out.rd.other (by have := HW4.out.cd.lt; omega) _
              have HW7 := Lib.hid (HW.out.go hr7 hmm)
              clear hmm hr7 HW5 HW4 HW6 HM6 HB5 HM4 HR5
              obtain ⟨W2, hw9⟩ : ∃ y, y = w6.setCell ⟨w4.heap.size, 1, none⟩ (.string (str T)) := ⟨_, rfl⟩
              rw [← hw9] at HW7 HX6 ⊢
              clear hw9
              have e1 := HW7.out.cd.cell 1
              have c0 := HX6.out.cell 0
              have c1 := HX6.out.cell 1
              simp only [List.getElem?_cons_zero, List.getElem?_cons_succ, List.set_cons_succ, List.set_cons_zero] at e1 c0 c1
              have HOF := Lib.hid (HW7.out.ca.roots.alloc (.cells #[.string (str S), .string (str T)] 48))
              have HSS := Lib.hid (Sl.litS W2 (staC ⟨S, T⟩) 48 2 1 rfl (by decide))
              have HBS : Hid (w.heap.size + 3 ≤ (W2.alloc (.cells #[.string (str S), .string (str T)] 48)).heap.size) := Lib.hid (by have := HW7.out.cd.lt; simp; omega)
              have HFL : Hid (rs.length ≤ 4294967296) := Lib.hid (by have := HRS.out; omega)
              go_wp2_with (at_builtin; refine wpL_appendX2 etSta rfl _ _ rfl HOF.out rfl HSS.out rfl (by simp [staC, Value.oneCell']) (by have := HFL.out; show (rs.length + 1) * 32 ≤ _; omega) (by have := HFL.out; show rs.length + 1 ≤ _; simp [maxLen]; omega) HBS.out ?_; intro v6 w9 ho9 hg9 hc9; obtain ⟨a9, c9, rfl⟩ := ho9.form; have hr9 := ((HW7.out.cd.alloc (.cells #[.string (str S), .string (str T)] 48)).mods (Mods.grown hg9) (fun e => by have := HOF.out.lt _ e; omega)); have d1 := hr9.cell 1; have f1 := hr9.free 1; simp only [List.getElem?_cons_succ, List.getElem?_cons_zero] at d1)
              have hW9 := HW7.out.addR ⟨S, T⟩ _ ho9 hg9 hc9
              exact ⟨RbS.mk (k + 1) (rs ++ [⟨S, T⟩]) q2 b3 _ (by omega) (by go_num) (by rw [List.length_append, HRS.out]; rfl) H2.out.2 hW9 (sta_next HSG.out H1.out.1 H2.out.1 (by omega)), by simp [intOf]; omega⟩
      | false =>
        go_wp2_with fail
        refine (rnumber_p _ a n c l p 4 _ wr HW.out.rd (HL.out.below HW.out.bel) (by omega) hsz hpn).mono ?_
        rintro e w3 ⟨M, p1, b1, HY, hMlt, rfl, hr3, hm3⟩
        have HW3 := Lib.hid (HW.out.go1 hr3 hm3)
        have hMlt : M < 4294967296 := hMlt
        clear hr3 hm3 HW d2
        go_wp2_with fail
        go_loopw [12] (fun v12 wr => RbS w a n c l p1 M vF fs vs v12 wr) (fun v12 _ => M - (intOf v12).toNat)
        case atStart =>
          exact RbS.mk 0 [] p1 b1 nilV (Nat.zero_le _) rfl rfl HY.out.2 HW3.out (sta_start HG.out HY.out.1 (fun h => by first | rfl | cases h))
        case round =>
          clear HW3
          obtain ⟨k, hk, rfl, HK⟩ := hrel
          obtain ⟨rs, q, bad, vR, hrs, hqn, hW, hS⟩ := HK.out
          have HRS := Lib.hid hrs
          have HW := Lib.hid hW
          have HSG := Lib.hid hS
          have d2 := hW.rd.cell 2
          simp only [rbC, List.getElem?_cons_zero, List.getElem?_cons_succ] at d2
          clear hrs hW hS HK
          by_cases hkM : k = M
          · subst hkM
            cases bad with
            | true =>
              have HR := Lib.hid (sta_end HSG.out (fun h => by first | rfl | cases h))
              go_upto_region 27 with fail
              go_wp2_with (refine wpL_storeRow rfl _ _ _ rfl (cs := [nilV, nilV]) rfl rfl HW.out.res (by kernel_rfl) rfl rfl ?_; intro w9 hg9 hr9)
              try simp only [Exit.inBlock, Exit.then]
              have hm9 := Mods.grown hg9
              exact bodyPost_ret (rread_results _ rfl rfl hr9) rfl (.inr ⟨(HR.out.trans (if_pos (.inl (by simp)))), rfl, below_mods HW.out.bel hm9 (fun g hg => by injection hg with hg; omega) HW.out.bel.size⟩)
            | false =>
              have d1 := HW.out.rd.cell 1
              simp only [rbC, List.getElem?_cons_zero, List.getElem?_cons_succ] at d1
              have HR := Lib.hid (sta_end HSG.out (fun h => by first | rfl | cases h))
              by_cases hqe : q = n
              · subst hqe
                go_upto_region 28 with fail
                go_wp2_with (first | refine wpL_loadRow rfl _ _ rfl rfl HW.out.cd Tryd.underlying25 rfl (by kernel_rfl) ?_ | (refine wpL_storeRow rfl _ _ _ rfl (cs := [vF, vR]) rfl rfl HW.out.res (by kernel_rfl) rfl (by have h1 := HW.out.ca.own.form; have h2 := HW.out.ca.roots.form; obtain ⟨_, _, rfl⟩ := h1; obtain ⟨_, _, rfl⟩ := h2; rfl) ?_; intro w9 hg9 hr9))
                try simp only [Exit.inBlock, Exit.then]
                have hm9 := Mods.grown hg9
                refine bodyPost_ret (rread_results _ rfl rfl hr9) rfl (.inl ⟨⟨fs, rs⟩, vF, vR, vs, Lib.hid (HR.out.trans (if_neg ?_)), rfl, (HW.out.ca.mods hm9 (fun k hk _ e => by injection e with e; omega)).mono (by omega), below_mods HW.out.bel hm9 (fun g hg => by injection hg with hg; omega) HW.out.bel.size⟩)
                have := HN.out
                simp [this]
              · go_upto_region 27 with fail
                go_wp2_with (refine wpL_storeRow rfl _ _ _ rfl (cs := [nilV, nilV]) rfl rfl HW.out.res (by kernel_rfl) rfl rfl ?_; intro w9 hg9 hr9)
                try simp only [Exit.inBlock, Exit.then]
                have hm9 := Mods.grown hg9
                exact bodyPost_ret (rread_results _ rfl rfl hr9) rfl (.inr ⟨(HR.out.trans (if_pos (.inr (fun e => hqe (e.trans HN.out))))), rfl, below_mods HW.out.bel hm9 (fun g hg => by injection hg with hg; omega) HW.out.bel.size⟩)
          · have hklt : (k : Int) < M := by omega
            cases bad with
            | true =>
              have HR := Lib.hid (sta_end HSG.out (fun h => by first | rfl | cases h))
              go_upto_region 27 with fail
              go_wp2_with (refine wpL_storeRow rfl _ _ _ rfl (cs := [nilV, nilV]) rfl rfl HW.out.res (by kernel_rfl) rfl rfl ?_; intro w9 hg9 hr9)
              try simp only [Exit.inBlock, Exit.then]
              have hm9 := Mods.grown hg9
              exact bodyPost_ret (rread_results _ rfl rfl hr9) rfl (.inr ⟨(HR.out.trans (if_pos (.inl (by simp)))), rfl, below_mods HW.out.bel hm9 (fun g hg => by injection hg with hg; omega) HW.out.bel.size⟩)
            | false =>
              have hklt : (k : Int) < M := by omega
              go_wp2_with fail
              refine (rrdtext_p _ a n c l q false wr HW.out.rd (HL.out.below HW.out.bel) hsz hqn HNE).mono ?_
              rintro e w4 ⟨S, q1, b2, H1, rfl, hr4, hm4⟩
              have HW4 := Lib.hid (HW.out.go1 hr4 hm4)
              have HM4 := Lib.hid hm4
              have h1n := H1.out.2
              clear hr4 hm4 d2
              go_upto_region 24 with fail
              have hr5 := Row.new w4 [.string (str S), .string ⟨#[]⟩] 48
              obtain ⟨W1, hw9⟩ : ∃ y, y = w4.alloc (.cells #[.string (str S), .string ⟨#[]⟩] 48) := ⟨_, rfl⟩
              have hb5 : Below w4.heap.size w4 W1 := by rw [hw9]; exact (Below.refl _ _).alloc (Nat.le_refl _) _
              rw [← hw9]
              rw [show w4.alloc (.cells [Value.string (str S), .string ⟨#[]⟩].toArray 48) = W1 from hw9.symm] at hr5
              clear hw9
              have HB5 := Lib.hid hb5
              have HR5 := Lib.hid hr5
              have HW5 := Lib.hid (HW4.out.fresh hb5)
              clear hb5 hr5
              go_wp2_with fail
              refine (rrdtext_p _ a n c l q1 b2 W1 HW5.out.rd (HL.out.below HW5.out.bel) hsz h1n HNE).mono ?_
              rintro e w6 ⟨T, q2, b3, H2, rfl, hr6, hm6⟩
              have hx6 := HR5.out.mods hm6 (fun e => by have := HW4.out.cd.lt; omega)
              have c1 := hx6.cell 1
              have f1 := hx6.free 1
              simp only [List.getElem?_cons_zero, List.getElem?_cons_succ] at c1
              have HX6 := Lib.hid (hx6.set 1 (.string (str T)))
              have HW6 := Lib.hid (HW5.out.go1 hr6 hm6)
              have HM6 := Lib.hid hm6
              clear hr6 hm6 hx6
              go_upto_region 25 with fail
              clear c1 f1
              have hmm : Mods (fun b => b = w.heap.size + 1 ∨ wr.heap.size ≤ b) wr (w6.setCell ⟨w4.heap.size, 1, none⟩ (.string (str T))) := (((HM4.out.mono fun _ h => .inl h).trans (Mods.fresh HB5.out _)).trans (HM6.out.mono fun _ h => .inl h)).trans ((Mods.set _ _ _ _).mono fun g e => .inr (by have := HM4.out.size; omega))
              have hr7 : Row (w6.setCell ⟨w4.heap.size, 1, none⟩ (.string (str T))) (w.heap.size + 1) 76 (rbC a n c q2 b3) := HW6.out.rd.other (by have := HW4.out.cd.lt; omega) _
              have HW7 := Lib.hid (HW.out.go hr7 hmm)
              clear hmm hr7 HW5 HW4 HW6 HM6 HB5 HM4 HR5
              obtain ⟨W2, hw9⟩ : ∃ y, y = w6.setCell ⟨w4.heap.size, 1, none⟩ (.string (str T)) := ⟨_, rfl⟩
              rw [← hw9] at HW7 HX6 ⊢
              clear hw9
              have e1 := HW7.out.cd.cell 1
              have c0 := HX6.out.cell 0
              have c1 := HX6.out.cell 1
              simp only [List.getElem?_cons_zero, List.getElem?_cons_succ, List.set_cons_succ, List.set_cons_zero] at e1 c0 c1
              have HOF := Lib.hid (HW7.out.ca.roots.alloc (.cells #[.string (str S), .string (str T)] 48))
              have HSS := Lib.hid (Sl.litS W2 (staC ⟨S, T⟩) 48 2 1 rfl (by decide))
              have HBS : Hid (w.heap.size + 3 ≤ (W2.alloc (.cells #[.string (str S), .string (str T)] 48)).heap.size) := Lib.hid (by have := HW7.out.cd.lt; simp; omega)
              have HFL : Hid (rs.length ≤ 4294967296) := Lib.hid (by have := HRS.out; omega)
              go_wp2_with (at_builtin; refine wpL_appendX2 etSta rfl _ _ rfl HOF.out rfl HSS.out rfl (by simp [staC, Value.oneCell']) (by have := HFL.out; show (rs.length + 1) * 32 ≤ _; omega) (by have := HFL.out; show rs.length + 1 ≤ _; simp [maxLen]; omega) HBS.out ?_; intro v6 w9 ho9 hg9 hc9; obtain ⟨a9, c9, rfl⟩ := ho9.form; have hr9 := ((HW7.out.cd.alloc (.cells #[.string (str S), .string (str T)] 48)).mods (Mods.grown hg9) (fun e => by have := HOF.out.lt _ e; omega)); have d1 := hr9.cell 1; have f1 := hr9.free 1; simp only [List.getElem?_cons_succ, List.getElem?_cons_zero] at d1)
              have hW9 := HW7.out.addR ⟨S, T⟩ _ ho9 hg9 hc9
              exact ⟨RbS.mk (k + 1) (rs ++ [⟨S, T⟩]) q2 b3 _ (by omega) (by go_num) (by rw [List.length_append, HRS.out]; rfl) H2.out.2 hW9 (sta_next HSG.out H1.out.1 H2.out.1 (by omega)), by simp [intOf]; omega⟩
    · have hlt : (i : Int) < N := by omega
      cases bad with
      | true =>
        go_wp2_with fail
        refine (rnumber_p _ a n c l p 4 _ wr HW.out.rd (HL.out.below HW.out.bel) (by omega) hsz hpn).mono ?_
        rintro e w3 ⟨M, p1, b1, HY, hMlt, rfl, hr3, hm3⟩
        have HW3 := Lib.hid (HW.out.go1 hr3 hm3)
        have hMlt : M < 4294967296 := hMlt
        clear hr3 hm3 HW d2
        go_wp2_with fail
        go_loopw [12] (fun v12 wr => RbS w a n c l p1 M vF fs vs v12 wr) (fun v12 _ => M - (intOf v12).toNat)
        case atStart =>
          exact RbS.mk 0 [] p1 b1 nilV (Nat.zero_le _) rfl rfl HY.out.2 HW3.out (sta_start HG.out HY.out.1 (fun h => by first | rfl | cases h))
        case round =>
          clear HW3
          obtain ⟨k, hk, rfl, HK⟩ := hrel
          obtain ⟨rs, q, bad, vR, hrs, hqn, hW, hS⟩ := HK.out
          have HRS := Lib.hid hrs
          have HW := Lib.hid hW
          have HSG := Lib.hid hS
          have d2 := hW.rd.cell 2
          simp only [rbC, List.getElem?_cons_zero, List.getElem?_cons_succ] at d2
          clear hrs hW hS HK
          by_cases hkM : k = M
          · subst hkM
            cases bad with
            | true =>
              have HR := Lib.hid (sta_end HSG.out (fun h => by first | rfl | cases h))
              go_upto_region 27 with fail
              go_wp2_with (refine wpL_storeRow rfl _ _ _ rfl (cs := [nilV, nilV]) rfl rfl HW.out.res (by kernel_rfl) rfl rfl ?_; intro w9 hg9 hr9)
              try simp only [Exit.inBlock, Exit.then]
              have hm9 := Mods.grown hg9
              exact bodyPost_ret (rread_results _ rfl rfl hr9) rfl (.inr ⟨(HR.out.trans (if_pos (.inl (by simp)))), rfl, below_mods HW.out.bel hm9 (fun g hg => by injection hg with hg; omega) HW.out.bel.size⟩)
            | false =>
              have d1 := HW.out.rd.cell 1
              simp only [rbC, List.getElem?_cons_zero, List.getElem?_cons_succ] at d1
              have HR := Lib.hid (sta_end HSG.out (fun h => by first | rfl | cases h))
              by_cases hqe : q = n
              · subst hqe
                go_upto_region 28 with fail
                go_wp2_with (first | refine wpL_loadRow rfl _ _ rfl rfl HW.out.cd Tryd.underlying25 rfl (by kernel_rfl) ?_ | (refine wpL_storeRow rfl _ _ _ rfl (cs := [vF, vR]) rfl rfl HW.out.res (by kernel_rfl) rfl (by have h1 := HW.out.ca.own.form; have h2 := HW.out.ca.roots.form; obtain ⟨_, _, rfl⟩ := h1; obtain ⟨_, _, rfl⟩ := h2; rfl) ?_; intro w9 hg9 hr9))
                try simp only [Exit.inBlock, Exit.then]
                have hm9 := Mods.grown hg9
                refine bodyPost_ret (rread_results _ rfl rfl hr9) rfl (.inl ⟨⟨fs, rs⟩, vF, vR, vs, Lib.hid (HR.out.trans (if_neg ?_)), rfl, (HW.out.ca.mods hm9 (fun k hk _ e => by injection e with e; omega)).mono (by omega), below_mods HW.out.bel hm9 (fun g hg => by injection hg with hg; omega) HW.out.bel.size⟩)
                have := HN.out
                simp [this]
              · go_upto_region 27 with fail
                go_wp2_with (refine wpL_storeRow rfl _ _ _ rfl (cs := [nilV, nilV]) rfl rfl HW.out.res (by kernel_rfl) rfl rfl ?_; intro w9 hg9 hr9)
                try simp only [Exit.inBlock, Exit.then]
                have hm9 := Mods.grown hg9
                exact bodyPost_ret (rread_results _ rfl rfl hr9) rfl (.inr ⟨(HR.out.trans (if_pos (.inr (fun e => hqe (e.trans HN.out))))), rfl, below_mods HW.out.bel hm9 (fun g hg => by injection hg with hg; omega) HW.out.bel.size⟩)
          · have hklt : (k : Int) < M := by omega
            cases bad with
            | true =>
              have HR := Lib.hid (sta_end HSG.out (fun h => by first | rfl | cases h))
              go_upto_region 27 with fail
              go_wp2_with (refine wpL_storeRow rfl _ _ _ rfl (cs := [nilV, nilV]) rfl rfl HW.out.res (by kernel_rfl) rfl rfl ?_; intro w9 hg9 hr9)
              try simp only [Exit.inBlock, Exit.then]
              have hm9 := Mods.grown hg9
              exact bodyPost_ret (rread_results _ rfl rfl hr9) rfl (.inr ⟨(HR.out.trans (if_pos (.inl (by simp)))), rfl, below_mods HW.out.bel hm9 (fun g hg => by injection hg with hg; omega) HW.out.bel.size⟩)
            | false =>
              have hklt : (k : Int) < M := by omega
              go_wp2_with fail
              refine (rrdtext_p _ a n c l q false wr HW.out.rd (HL.out.below HW.out.bel) hsz hqn HNE).mono ?_
              rintro e w4 ⟨S, q1, b2, H1, rfl, hr4, hm4⟩
              have HW4 := Lib.hid (HW.out.go1 hr4 hm4)
              have HM4 := Lib.hid hm4
              have h1n := H1.out.2
              clear hr4 hm4 d2
              go_upto_region 24 with fail
              have hr5 := Row.new w4 [.string (str S), .string ⟨#[]⟩] 48
              obtain ⟨W1, hw9⟩ : ∃ y, y = w4.alloc (.cells #[.string (str S), .string ⟨#[]⟩] 48) := ⟨_, rfl⟩
              have hb5 : Below w4.heap.size w4 W1 := by rw [hw9]; exact (Below.refl _ _).alloc (Nat.le_refl _) _
              rw [← hw9]
              rw [show w4.alloc (.cells [Value.string (str S), .string ⟨#[]⟩].toArray 48) = W1 from hw9.symm] at hr5
              clear hw9
              have HB5 := Lib.hid hb5
              have HR5 := Lib.hid hr5
              have HW5 := Lib.hid (HW4.out.fresh hb5)
              clear hb5 hr5
              go_wp2_with fail
              refine (rrdtext_p _ a n c l q1 b2 W1 HW5.out.rd (HL.out.below HW5.out.bel) hsz h1n HNE).mono ?_
              rintro e w6 ⟨T, q2, b3, H2, rfl, hr6, hm6⟩
              have hx6 := HR5.out.mods hm6 (fun e => by have := HW4.out.cd.lt; omega)
              have c1 := hx6.cell 1
              have f1 := hx6.free 1
              simp only [List.getElem?_cons_zero, List.getElem?_cons_succ] at c1
              have HX6 := Lib.hid (hx6.set 1 (.string (str T)))
              have HW6 := Lib.hid (HW5.out.go1 hr6 hm6)
              have HM6 := Lib.hid hm6
              clear hr6 hm6 hx6
              go_upto_region 25 with fail
              clear c1 f1
              have hmm : Mods (fun b => b = w.heap.size + 1 ∨ wr.heap.size ≤ b) wr (w6.setCell ⟨w4.heap.size, 1, none⟩ (.string (str T))) := (((HM4.out.mono fun _ h => .inl h).trans (Mods.fresh HB5.out _)).trans (HM6.out.mono fun _ h => .inl h)).trans ((Mods.set _ _ _ _).mono fun g e => .inr (by have := HM4.out.size; omega))
              have hr7 : Row (w6.setCell ⟨w4.heap.size, 1, none⟩ (.string (str T))) (w.heap.size + 1) 76 (rbC a n c q2 b3) := HW6.out.rd.other (by have := HW4.out.cd.lt; omega) _
              have HW7 := Lib.hid (HW.out.go hr7 hmm)
              clear hmm hr7 HW5 HW4 HW6 HM6 HB5 HM4 HR5
              obtain ⟨W2, hw9⟩ : ∃ y, y = w6.setCell ⟨w4.heap.size, 1, none⟩ (.string (str T)) := ⟨_, rfl⟩
              rw [← hw9] at HW7 HX6 ⊢
              clear hw9
              have e1 := HW7.out.cd.cell 1
              have c0 := HX6.out.cell 0
              have c1 := HX6.out.cell 1
              simp only [List.getElem?_cons_zero, List.getElem?_cons_succ, List.set_cons_succ, List.set_cons_zero] at e1 c0 c1
              have HOF := Lib.hid (HW7.out.ca.roots.alloc (.cells #[.string (str S), .string (str T)] 48))
              have HSS := Lib.hid (Sl.litS W2 (staC ⟨S, T⟩) 48 2 1 rfl (by decide))
              have HBS : Hid (w.heap.size + 3 ≤ (W2.alloc (.cells #[.string (str S), .string (str T)] 48)).heap.size) := Lib.hid (by have := HW7.out.cd.lt; simp; omega)
              have HFL : Hid (rs.length ≤ 4294967296) := Lib.hid (by have := HRS.out; omega)
              go_wp2_with (at_builtin; refine wpL_appendX2 etSta rfl _ _ rfl HOF.out rfl HSS.out rfl (by simp [staC, Value.oneCell']) (by have := HFL.out; show (rs.length + 1) * 32 ≤ _; omega) (by have := HFL.out; show rs.length + 1 ≤ _; simp [maxLen]; omega) HBS.out ?_; intro v6 w9 ho9 hg9 hc9; obtain ⟨a9, c9, rfl⟩ := ho9.form; have hr9 := ((HW7.out.cd.alloc (.cells #[.string (str S), .string (str T)] 48)).mods (Mods.grown hg9) (fun e => by have := HOF.out.lt _ e; omega)); have d1 := hr9.cell 1; have f1 := hr9.free 1; simp only [List.getElem?_cons_succ, List.getElem?_cons_zero] at d1)
              have hW9 := HW7.out.addR ⟨S, T⟩ _ ho9 hg9 hc9
              exact ⟨RbS.mk (k + 1) (rs ++ [⟨S, T⟩]) q2 b3 _ (by omega) (by go_num) (by rw [List.length_append, HRS.out]; rfl) H2.out.2 hW9 (sta_next HSG.out H1.out.1 H2.out.1 (by omega)), by simp [intOf]; omega⟩
      | false =>
        have hlt : (i : Int) < N := by omega
        go_wp2_with fail
        refine (rnumber_p _ a n c l p 4 false wr HW.out.rd (HL.out.below HW.out.bel) (by omega) hsz hpn).mono ?_
        rintro e w3 ⟨M, p1, b1, HY, hMlt, rfl, hr3, hm3⟩
        have HW3 := Lib.hid (HW.out.go1 hr3 hm3)
        have hMlt : M < 4294967296 := hMlt
        clear hr3 hm3 HW d2
        go_wp2_with fail
        go_loopw [8, 10] (fun v8 v10 wr => RbI w a n c l M p p1 w3 v8 v10 wr) (fun _ v10 _ => M - (intOf v10).toNat)
        case atStart =>
          refine RbI.mk 0 [] p1 b1 (Nat.zero_le _) rfl rfl HY.out.2 HW3.out.rd (Mods.refl _ _) (Own.nil _ _ _) ?_
          rcases HY.out.1 with ⟨_, h2, h3⟩ | ⟨h2, h3⟩
          · exact .inl ⟨h2, h3, rfl⟩
          · exact .inr ⟨h2, by rw [lenP, h3.resolve_left (by intro h; cases h)]⟩
        case round =>
          obtain ⟨j, af, cf, hj, rfl, rfl, HJ⟩ := hrel
          obtain ⟨xs, q, bad, hxs, hqn, hrr, hmm, hO, hG⟩ := HJ.out
          have HXS := Lib.hid hxs
          have HGI := Lib.hid hG
          have HRR := Lib.hid hrr
          have HMM := Lib.hid hmm
          have HO := Lib.hid hO
          have HPN := Lib.hid hqn
          have HBL := Lib.hid (HW3.out.go hrr hmm).bel
          have d2 := hrr.cell 2
          simp only [rbC, List.getElem?_cons_zero, List.getElem?_cons_succ] at d2
          clear hxs hG hrr hmm hO HJ
          by_cases hjM : j = M
          · subst hjM
            cases bad with
            | true =>
              have hW := HW3.out.go HRR.out HMM.out
              have d0 := hW.cd.cell 0
              simp only [List.getElem?_cons_zero] at d0
              have HOF := Lib.hid (hW.ca.own.alloc (.cells #[.slice af j cf] 44))
              have HS := Lib.hid (Sl.one wr (.slice af j cf) 44)
              have HBS : Hid (w.heap.size + 3 ≤ (wr.alloc (.cells #[.slice af j cf] 44)).heap.size) := Lib.hid (by have := HMM.out.size; have := HW3.out.cd.lt; simp; omega)
              have HFL : Hid (fs.length ≤ 4294967296) := Lib.hid (by have := HF.out; omega)
              have HF5 : Hid (Own wr w3.heap.size 5 (.slice af j cf) xs.length (inCells xs)) := Lib.hid (by rw [HXS.out]; exact HO.out)
              have HWW := Lib.hid hW
              clear hW
              go_wp2_with (at_builtin; refine wpL_appendX2 etFns rfl _ _ rfl HOF.out rfl HS.out rfl (by simp [Value.oneCell']) (by have := HFL.out; show (fs.length + 1) * 24 ≤ _; omega) (by have := HFL.out; show fs.length + 1 ≤ _; simp [maxLen]; omega) HBS.out ?_; intro v6 w6 ho6 hg6 hc6; obtain ⟨a6, c6, rfl⟩ := ho6.form; have hr6 := ((HWW.out.cd.alloc (.cells #[.slice af j cf] 44)).mods (Mods.grown hg6) (fun e => by have := HOF.out.lt _ e; omega)); have d1 := hr6.cell 0; have f1 := hr6.free 0; simp only [List.getElem?_cons_zero] at d1)
              have hW7 := HWW.out.addF HF5.out (by have := HW3.out.cd.lt; omega) (fun k hk => HW3.out.ca.own.lives k hk) _ ho6 hg6 hc6
              refine ⟨RbF.mk (i + 1) (fs ++ [xs]) q _ _ (vs ++ [.slice af j cf]) (by omega) (by go_num) (by rw [List.length_append, HF.out]; rfl) hqn hW7 ?_, by simp [intOf]; omega⟩
              rcases HG.out with ⟨_, g1, g2⟩ | ⟨h, _⟩
              · rcases HGI.out with ⟨h1, h2, h3⟩ | ⟨h1, h2⟩
                · first
                    | exact .inl ⟨h1, g1, many_snoc _ _ _ _ _ _ g2 (by rw [lenP, h2]; exact h3)⟩
                    | (cases h1)
                · first
                    | exact .inr ⟨h1, rd1 g1 (many_stop _ _ _ _ _ g2 h2 (by omega))⟩
                    | (cases h1)
              · cases h
            | false =>
              have hW := HW3.out.go HRR.out HMM.out
              have d0 := hW.cd.cell 0
              simp only [List.getElem?_cons_zero] at d0
              have HOF := Lib.hid (hW.ca.own.alloc (.cells #[.slice af j cf] 44))
              have HS := Lib.hid (Sl.one wr (.slice af j cf) 44)
              have HBS : Hid (w.heap.size + 3 ≤ (wr.alloc (.cells #[.slice af j cf] 44)).heap.size) := Lib.hid (by have := HMM.out.size; have := HW3.out.cd.lt; simp; omega)
              have HFL : Hid (fs.length ≤ 4294967296) := Lib.hid (by have := HF.out; omega)
              have HF5 : Hid (Own wr w3.heap.size 5 (.slice af j cf) xs.length (inCells xs)) := Lib.hid (by rw [HXS.out]; exact HO.out)
              have HWW := Lib.hid hW
              clear hW
              go_wp2_with (at_builtin; refine wpL_appendX2 etFns rfl _ _ rfl HOF.out rfl HS.out rfl (by simp [Value.oneCell']) (by have := HFL.out; show (fs.length + 1) * 24 ≤ _; omega) (by have := HFL.out; show fs.length + 1 ≤ _; simp [maxLen]; omega) HBS.out ?_; intro v6 w6 ho6 hg6 hc6; obtain ⟨a6, c6, rfl⟩ := ho6.form; have hr6 := ((HWW.out.cd.alloc (.cells #[.slice af j cf] 44)).mods (Mods.grown hg6) (fun e => by have := HOF.out.lt _ e; omega)); have d1 := hr6.cell 0; have f1 := hr6.free 0; simp only [List.getElem?_cons_zero] at d1)
              have hW7 := HWW.out.addF HF5.out (by have := HW3.out.cd.lt; omega) (fun k hk => HW3.out.ca.own.lives k hk) _ ho6 hg6 hc6
              refine ⟨RbF.mk (i + 1) (fs ++ [xs]) q _ _ (vs ++ [.slice af j cf]) (by omega) (by go_num) (by rw [List.length_append, HF.out]; rfl) hqn hW7 ?_, by simp [intOf]; omega⟩
              rcases HG.out with ⟨_, g1, g2⟩ | ⟨h, _⟩
              · rcases HGI.out with ⟨h1, h2, h3⟩ | ⟨h1, h2⟩
                · first
                    | exact .inl ⟨h1, g1, many_snoc _ _ _ _ _ _ g2 (by rw [lenP, h2]; exact h3)⟩
                    | (cases h1)
                · first
                    | exact .inr ⟨h1, rd1 g1 (many_stop _ _ _ _ _ g2 h2 (by omega))⟩
                    | (cases h1)
              · cases h
          · have hjlt : (j : Int) < M := by omega
            cases bad with
            | true =>
              have hW := HW3.out.go HRR.out HMM.out
              have d0 := hW.cd.cell 0
              simp only [List.getElem?_cons_zero] at d0
              have HOF := Lib.hid (hW.ca.own.alloc (.cells #[.slice af j cf] 44))
              have HS := Lib.hid (Sl.one wr (.slice af j cf) 44)
              have HBS : Hid (w.heap.size + 3 ≤ (wr.alloc (.cells #[.slice af j cf] 44)).heap.size) := Lib.hid (by have := HMM.out.size; have := HW3.out.cd.lt; simp; omega)
              have HFL : Hid (fs.length ≤ 4294967296) := Lib.hid (by have := HF.out; omega)
              have HF5 : Hid (Own wr w3.heap.size 5 (.slice af j cf) xs.length (inCells xs)) := Lib.hid (by rw [HXS.out]; exact HO.out)
              have HWW := Lib.hid hW
              clear hW
              go_wp2_with (at_builtin; refine wpL_appendX2 etFns rfl _ _ rfl HOF.out rfl HS.out rfl (by simp [Value.oneCell']) (by have := HFL.out; show (fs.length + 1) * 24 ≤ _; omega) (by have := HFL.out; show fs.length + 1 ≤ _; simp [maxLen]; omega) HBS.out ?_; intro v6 w6 ho6 hg6 hc6; obtain ⟨a6, c6, rfl⟩ := ho6.form; have hr6 := ((HWW.out.cd.alloc (.cells #[.slice af j cf] 44)).mods (Mods.grown hg6) (fun e => by have := HOF.out.lt _ e; omega)); have d1 := hr6.cell 0; have f1 := hr6.free 0; simp only [List.getElem?_cons_zero] at d1)
              have hW7 := HWW.out.addF HF5.out (by have := HW3.out.cd.lt; omega) (fun k hk => HW3.out.ca.own.lives k hk) _ ho6 hg6 hc6
              refine ⟨RbF.mk (i + 1) (fs ++ [xs]) q _ _ (vs ++ [.slice af j cf]) (by omega) (by go_num) (by rw [List.length_append, HF.out]; rfl) hqn hW7 ?_, by simp [intOf]; omega⟩
              rcases HG.out with ⟨_, g1, g2⟩ | ⟨h, _⟩
              · rcases HGI.out with ⟨h1, h2, h3⟩ | ⟨h1, h2⟩
                · first
                    | exact .inl ⟨h1, g1, many_snoc _ _ _ _ _ _ g2 (by rw [lenP, h2]; exact h3)⟩
                    | (cases h1)
                · first
                    | exact .inr ⟨h1, rd1 g1 (many_stop _ _ _ _ _ g2 h2 (by omega))⟩
                    | (cases h1)
              · cases h
            | false =>
              have hjlt : (j : Int) < M := by omega
              go_wp2_with fail
              refine (rnumber_p _ a n c l q 1 false wr HRR.out (HL.out.below HBL.out) (by omega) hsz hqn).mono ?_
              rintro e w4 ⟨o, q1, b2, H1, hol, rfl, hr4, hm4⟩
              have hol : o < 256 := hol
              have hs4 := hm4.size
              have hr5 := Row.new w4 (insD o 0 0 0 []) 46
              have hb5 : Below w4.heap.size w4 (w4.alloc (.cells (insD o 0 0 0 []).toArray 46)) := (Below.refl _ _).alloc (Nat.le_refl _) _
              have HS5 : Hid (RiS w a n c w3 (w4.alloc (.cells (insD o 0 0 0 []).toArray 46)) q1 b2 w4.heap.size (insD o 0 0 0 []) (.slice af j cf) j xs) := Lib.hid (by
                have ho4 := HO.out.mods hm4 (fun k hk e => by have := HO.out.lt k hk; have := HW3.out.cd.lt; omega)
                have hb4 := below_mods HBL.out hm4 (fun g hg => by omega) HBL.out.size
                have := HMM.out.size
                have := HW3.out.cd.lt
                exact ⟨hr4.after hb5, hr5, (HMM.out.trans (hm4.mono fun _ h => .inl h)).trans (Mods.fresh hb5 _), ho4.below hb5, hb4.alloc hb4.size _, fun k hk => ho4.lives k hk, by omega, by omega⟩)
              clear hs4 hr5 hb5 hr4 hm4 HRR HO HBL HMM HPN
              have HPN := Lib.hid H1.out.2
              go_upto_region 13 with fail
              obtain ⟨W1, hw9⟩ : ∃ y, y = w4.alloc (.cells #[.int .u8 (o : Nat), .int .i64 0, .int .i64 0, .int .i64 0, .string ⟨#[]⟩] 46) := ⟨_, rfl⟩
              rw [← hw9]
              rw [show w4.alloc (.cells (insD o 0 0 0 []).toArray 46) = W1 from hw9.symm] at HS5
              clear hw9 d2
              have HS := HS5
              clear HS5
              have hpn9 := HPN.out
              go_wp2_with fail
              refine (rnumber_p _ a n c l _ 8 _ W1 HS.out.rd (HL.out.below HS.out.bel) (by omega) hsz hpn9).mono ?_
              rintro e w7 ⟨x1, p2, b3, H2, hxl, rfl, hr7, hm7⟩
              have hxl : x1 < 18446744073709551616 := hxl
              have hs7 := HS.out.call hr7 hm7
              have c7 := hs7.row.cell 1
              have f7 := hs7.row.free 1
              simp only [insD, List.getElem?_cons_zero, List.getElem?_cons_succ] at c7
              clear HS HPN
              have HPN := Lib.hid (H2).out.2
              have hs8 := hs7.set 1 (.int .i64 (i64 x1))
              have HS7 := Lib.hid hs8
              clear hr7 hm7 hs7 hs8 hpn9
              go_upto_region 14 with fail
              rw [i64w hxl]
              clear c7 f7 hxl
              obtain ⟨W2, hw9⟩ : ∃ y, y = w7.setCell ⟨w4.heap.size, 1, none⟩ (.int .i64 (i64 x1)) := ⟨_, rfl⟩
              rw [← hw9] at HS7 ⊢
              clear hw9
              have HS : Hid (RiS w a n c w3 W2 p2 b3 w4.heap.size (insD o (i64 x1) 0 0 []) (.slice af j cf) j xs) := HS7
              clear HS7
              have hpn9 := HPN.out
              go_wp2_with fail
              refine (rnumber_p _ a n c l _ 8 _ W2 HS.out.rd (HL.out.below HS.out.bel) (by omega) hsz hpn9).mono ?_
              rintro e w7 ⟨x2, p3, b4, H3, hxl, rfl, hr7, hm7⟩
              have hxl : x2 < 18446744073709551616 := hxl
              have hs7 := HS.out.call hr7 hm7
              have c7 := hs7.row.cell 2
              have f7 := hs7.row.free 2
              simp only [insD, List.getElem?_cons_zero, List.getElem?_cons_succ] at c7
              clear HS HPN
              have HPN := Lib.hid (H3).out.2
              have hs8 := hs7.set 2 (.int .i64 (i64 x2))
              have HS7 := Lib.hid hs8
              clear hr7 hm7 hs7 hs8 hpn9
              go_upto_region 15 with fail
              rw [i64w hxl]
              clear c7 f7 hxl
              obtain ⟨W3, hw9⟩ : ∃ y, y = w7.setCell ⟨w4.heap.size, 2, none⟩ (.int .i64 (i64 x2)) := ⟨_, rfl⟩
              rw [← hw9] at HS7 ⊢
              clear hw9
              have HS : Hid (RiS w a n c w3 W3 p3 b4 w4.heap.size (insD o (i64 x1) (i64 x2) 0 []) (.slice af j cf) j xs) := HS7
              clear HS7
              have hpn9 := HPN.out
              go_wp2_with fail
              refine (rnumber_p _ a n c l _ 8 _ W3 HS.out.rd (HL.out.below HS.out.bel) (by omega) hsz hpn9).mono ?_
              rintro e w7 ⟨x3, p4, b5, H4, hxl, rfl, hr7, hm7⟩
              have hxl : x3 < 18446744073709551616 := hxl
              have hs7 := HS.out.call hr7 hm7
              have c7 := hs7.row.cell 3
              have f7 := hs7.row.free 3
              simp only [insD, List.getElem?_cons_zero, List.getElem?_cons_succ] at c7
              clear HS HPN
              have HPN := Lib.hid (H4).out.2
              have hs8 := hs7.set 3 (.int .i64 (i64 x3))
              have HS7 := Lib.hid hs8
              clear hr7 hm7 hs7 hs8 hpn9
              go_upto_region 16 with fail
              rw [i64w hxl]
              clear c7 f7 hxl
              obtain ⟨W4, hw9⟩ : ∃ y, y = w7.setCell ⟨w4.heap.size, 3, none⟩ (.int .i64 (i64 x3)) := ⟨_, rfl⟩
              rw [← hw9] at HS7 ⊢
              clear hw9
              have HS : Hid (RiS w a n c w3 W4 p4 b5 w4.heap.size (insD o (i64 x1) (i64 x2) (i64 x3) []) (.slice af j cf) j xs) := HS7
              clear HS7
              have hpn9 := HPN.out
              go_wp2_with fail
              refine (rrdtext_p _ a n c l _ _ W4 HS.out.rd (HL.out.below HS.out.bel) hsz hpn9 HNE).mono ?_
              rintro e w7 ⟨S, p5, b6, H5, rfl, hr7, hm7⟩
              have hs7 := HS.out.call hr7 hm7
              have c7 := hs7.row.cell 4
              have f7 := hs7.row.free 4
              simp only [insD, List.getElem?_cons_zero, List.getElem?_cons_succ] at c7
              clear HS HPN
              have hs8 := hs7.set 4 (.string (str S))
              have HS7 := Lib.hid hs8
              clear hr7 hm7 hs7 hs8 hpn9
              go_upto_region 17 with fail
              clear c7 f7
              obtain ⟨W5, hw9⟩ : ∃ y, y = w7.setCell ⟨w4.heap.size, 4, none⟩ (.string (str S)) := ⟨_, rfl⟩
              rw [← hw9] at HS7 ⊢
              clear hw9
              have HS : Hid (RiS w a n c w3 W5 p5 b6 w4.heap.size (insD o (i64 x1) (i64 x2) (i64 x3) S) (.slice af j cf) j xs) := HS7
              clear HS7
              have HO5 := Lib.hid (HS.out.own.alloc (.cells #[.int .u8 (o : Nat), .int .i64 (i64 x1), .int .i64 (i64 x2), .int .i64 (i64 x3), .string (str S)] 46))
              have HS5 := Lib.hid (Sl.litS W5 (insD o (i64 x1) (i64 x2) (i64 x3) S) 46 5 1 rfl (by decide))
              have H9 : Hid (w3.heap.size ≤ (W5.alloc (.cells #[.int .u8 (o : Nat), .int .i64 (i64 x1), .int .i64 (i64 x2), .int .i64 (i64 x3), .string (str S)] 46)).heap.size) := Lib.hid (by have := HS.out.mm.size; simp; omega)
              have e0 := HS.out.row.cell 0
              have e1 := HS.out.row.cell 1
              have e2 := HS.out.row.cell 2
              have e3 := HS.out.row.cell 3
              have e4 := HS.out.row.cell 4
              simp only [insD, List.getElem?_cons_zero, List.getElem?_cons_succ] at e0 e1 e2 e3 e4
              go_wp2_with (at_builtin; refine wpL_append etIns rfl _ _ rfl HO5.out rfl HS5.out rfl (by simp [insD, Value.oneCell']) (by omega) (by simp [maxLen]; omega) H9.out ?_; intro v6 w6 ho6 hg6)
              have hb6 : ∀ g, (Value.slice af j cf).ownBlock = some g → w3.heap.size ≤ g := fun g hg => HO5.out.lt g hg
              have hlo := HS.out.lo
              refine ⟨RbI.mk (j + 1) (xs ++ [⟨UInt8.ofNat o, i64 x1, i64 x2, i64 x3, S⟩]) p5 b6 (by omega) (by go_num) (by rw [List.length_append, HXS.out]; rfl) H5.out.2 ?_ ?_ ?_ ?_, by simp [intOf]; omega⟩
              · exact (HS.out.rd.alloc _).grown hg6 (fun e => by have := hb6 _ e.symm; omega)
              · exact (HS.out.mm.alloc _).trans ((Mods.grown hg6).mono fun g hg => .inr (hb6 g hg))
              · have e : inCells (xs ++ [⟨UInt8.ofNat o, i64 x1, i64 x2, i64 x3, S⟩]) = inCells xs ++ insD o (i64 x1) (i64 x2) (i64 x3) S := by rw [insD_C hol]; simp [inCells]
                rw [e]; exact ho6
              · rcases HGI.out with ⟨_, g1, g2⟩ | ⟨h, _⟩
                · rcases ins_chain H1.out.1 H2.out.1 H3.out.1 H4.out.1 H5.out.1 with ⟨h1, h2⟩ | ⟨h1, h2⟩
                  · exact .inl ⟨h1, g1, many_snoc _ _ _ _ _ _ g2 h2⟩
                  · exact .inr ⟨h1, by rw [lenP, g1]; exact many_stop _ _ _ _ _ g2 h2 (by omega)⟩
                · cases h
end Go.Proofs.YtoddklfblcfoiaaDoor
