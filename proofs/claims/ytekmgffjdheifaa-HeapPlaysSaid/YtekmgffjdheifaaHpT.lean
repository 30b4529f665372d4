/-
  What law 24 is handed: objects, words, things to do; its small helpers. Conditions: lists within a machine's reach.
-/
import Derived.Test.YtekmgffjdheifaaHpK
import Derived.Test.YtekmgffjdheifaaOpenZ
namespace Go.Proofs.Ytekmgffjdheifaa
open Go Go.RowKit
set_option linter.unusedVariables false
set_option linter.unusedSimpArgs false
set_option maxRecDepth 100000

def VWord : World → List Value → UInt8 × Int → Prop := VRec2 1 1 VByte (VInt .i64)
def VObj : World → List Value → UInt8 × Int × List (UInt8 × Int) × List UInt8 → Prop := VRec4 1 1 1 1 VByte (VInt .i64) (VSlZ VWord 2 16) VStrZ
def VOp : World → List Value → Int × Int × Int × (UInt8 × Int × List (UInt8 × Int) × List UInt8) × (UInt8 × Int) × List Int → Prop := VRec6 1 1 1 4 2 1 (VInt .i64) (VInt .i64) (VInt .i64) VObj VWord (VSlZ (VInt .i64) 1 8)
theorem opensWord : Opens Try.prog 47 2 VWord := opens_rec2 Try.underlying47 (by kernel_rfl) rfl rfl rfl rfl (opens_byte Try.underlying5 (by kernel_rfl)) (opens_int Try.underlying2 (by kernel_rfl))
theorem opensObj : OpensZ Try.prog 25 4 VObj := opensZ_rec4 Try.underlying25 (by kernel_rfl) rfl rfl rfl rfl rfl rfl rfl rfl (opens_byte Try.underlying5 (by kernel_rfl)).z (opens_int Try.underlying3 (by kernel_rfl)).z (opensZ_sl opensWord.z (by decide) Try.underlying23 (by kernel_rfl) (by kernel_rfl)) (opensZ_str Try.underlying9 (by kernel_rfl))
theorem opensOp : OpensZ Try.prog 64 10 VOp := opensZ_rec6 Try.underlying64 (by kernel_rfl) rfl rfl rfl rfl rfl rfl rfl rfl rfl rfl rfl rfl (opens_int Try.underlying3 (by kernel_rfl)).z (opens_int Try.underlying3 (by kernel_rfl)).z (opens_int Try.underlying3 (by kernel_rfl)).z opensObj opensWord.z (opensZ_sl (opens_int Try.underlying3 (by kernel_rfl)).z (by decide) Try.underlying43 (by kernel_rfl) (by kernel_rfl))
theorem reach47 : reachBytes < 140737488355328 := by have := reachBytes_lt; omega
/-- words, as cells, and their numbers -/
theorem words_sl {w : World} {v : Value} {l : List (UInt8 × Int)} (h : SlOf VWord 2 w v l) : Sl w 2 v l.length (wcells l) ∧ ∀ y ∈ l, (Lit.int .i64 y.2).wf = true := by
  obtain ⟨a, c, rfl, h1, h2, h3, h4⟩ := h
  have hw : ∀ i (hi : i < l.length), ∃ b off, a = some ⟨b, off, none⟩ ∧ w.cell? ⟨b, off + i * 2, none⟩ = some (.int .u8 (l[i].1.toNat : Int)) ∧ w.cell? ⟨b, off + i * 2 + 1, none⟩ = some (.int .i64 l[i].2) ∧ (Lit.int .i64 l[i].2).wf = true := fun i hi => by
    obtain ⟨b, off, cs, ha, hl, hv, hc⟩ := h4 i hi
    obtain ⟨c0, c1, hcs, _, _, v0, v1, vw⟩ := hv
    have e0 := hc 0 (by omega)
    have e1 := hc 1 (by omega)
    rw [hcs, v0, v1] at e0 e1
    exact ⟨b, off, ha, by simpa using e0, by simpa using e1, vw⟩
  refine ⟨⟨by rw [wcells_len], a, c, rfl, h1, h2, h3, fun j u hu => ?_⟩, fun y hy => ?_⟩
  · have hj := (List.getElem?_eq_some_iff.1 hu).1
    rw [wcells_len] at hj
    obtain ⟨b, off, ha, w0, w1, _⟩ := hw (j / 2) (by omega)
    obtain ⟨e0, e1⟩ := wcells_at l (j / 2) (by omega)
    rw [getD_lt (show j / 2 < l.length by omega)] at e0 e1
    refine ⟨b, off, ha, ?_⟩
    rcases (show j = j / 2 * 2 ∨ j = j / 2 * 2 + 1 by omega) with e | e
    · rw [e] at hu ⊢
      rw [e0] at hu
      rw [w0, hu]
    · rw [e] at hu ⊢
      rw [e1] at hu
      rw [← Nat.add_assoc, w1, hu]
  · obtain ⟨i, hi, rfl⟩ := List.mem_iff_getElem.1 hy
    obtain ⟨b, off, ha, w0, w1, hwf⟩ := hw i hi
    exact hwf
/-- an object that came in -/
structure ObIn (w : World) (cs : List Value) (o : Ob) (a : Option Addr) (n c : Nat) : Prop where
  cs : cs = [.int .u8 (o.k.toNat : Int), .int .i64 o.t, .slice a n c, .string (str o.s)]
  wt : (Lit.int .i64 o.t).wf = true
  len : o.l.length = n
  sl : Sl w 2 (.slice a n c) n (wcells o.l)
  wf : ∀ y ∈ o.l, (Lit.int .i64 y.2).wf = true
  nr : n * 16 ≤ reachBytes
  sr : o.s.length ≤ reachBytes
theorem obj_open {w : World} {cs : List Value} {d : UInt8 × Int × List (UInt8 × Int) × List UInt8} (h : VObj w cs d) : ∃ o a n c, ObIn w cs o a n c := by
  obtain ⟨c0, c1, c2, c3, hcs, l0, l1, l2, l3, v0, v1, ⟨⟨v, hv2, hsl⟩, hr⟩, ⟨⟨hs, _⟩, hsr⟩⟩ := h
  obtain ⟨k, t, l, s⟩ := d
  obtain ⟨a, c, rfl, h1, h2⟩ := hsl.form
  obtain ⟨hw, hwf⟩ := words_sl hsl
  refine ⟨⟨k, t, l, s⟩, a, l.length, c, ?_, v1.2, rfl, hw, hwf, hr, hsr⟩
  rw [hcs, show c0 = [_] from v0, v1.1, hv2, hs]
  rfl
structure Opn where
  K : Int
  k : Int
  i : Int
  o : Ob
  x : UInt8 × Int
  R : List Int
structure OpIn (w : World) (cs : List Value) (q : Opn) (a : Option Addr) (n c : Nat) (aR : Option Addr) (nR cR : Nat) : Prop where
  cs : cs = [.int .i64 q.K, .int .i64 q.k, .int .i64 q.i, .int .u8 (q.o.k.toNat : Int), .int .i64 q.o.t, .slice a n c, .string (str q.o.s), .int .u8 (q.x.1.toNat : Int), .int .i64 q.x.2, .slice aR nR cR]
  wk : (Lit.int .i64 q.k).wf = true
  wi : (Lit.int .i64 q.i).wf = true
  wx : (Lit.int .i64 q.x.2).wf = true
  ob : ∃ cs, ObIn w cs q.o a n c
  lenR : q.R.length = nR
  slR : Sl w 1 (.slice aR nR cR) nR (ints q.R)
  wR : ∀ y ∈ q.R, (Lit.int .i64 y).wf = true
  rR : nR * 8 ≤ reachBytes
theorem op_open {w : World} {cs : List Value} {d : Int × Int × Int × (UInt8 × Int × List (UInt8 × Int) × List UInt8) × (UInt8 × Int) × List Int} (h : VOp w cs d) : ∃ q a n c aR nR cR, OpIn w cs q a n c aR nR cR := by
  obtain ⟨c0, c1, c2, c3, c4, c5, hcs, l0, l1, l2, l3, l4, l5, v0, v1, v2, v3, v4, ⟨⟨v, hv5, hsl⟩, hr⟩⟩ := h
  obtain ⟨o, a, n, c, ho⟩ := obj_open v3
  obtain ⟨x0, x1, hx, _, _, vx0, vx1⟩ := v4
  obtain ⟨aR, cR, rfl, h1, h2⟩ := hsl.form
  have hi := hsl.ints
  obtain ⟨K, k, i, d3, x, R⟩ := d
  refine ⟨⟨K, k, i, o, x, R⟩, a, n, c, aR, R.length, cR, ?_, v1.2, v2.2, vx1.2, ⟨_, ho⟩, rfl, hi, fun y hy => ?_, hr⟩
  · rw [hcs, v0.1, v1.1, v2.1, ho.cs, hx, show x0 = [_] from vx0, vx1.1, hv5]
    rfl
  · obtain ⟨j, hj, rfl⟩ := List.mem_iff_getElem.1 hy
    obtain ⟨b, off, cs', _, _, hv, _⟩ := hsl.at j hj
    exact hv.2
theorem ObIn.below {w w' : World} {cs : List Value} {o : Ob} {a : Option Addr} {n c : Nat} (h : ObIn w cs o a n c) (hb : Below w.heap.size w w') : ObIn w' cs o a n c := ⟨h.cs, h.wt, h.len, h.sl.below hb, h.wf, h.nr, h.sr⟩
theorem OpIn.below {w w' : World} {cs : List Value} {q : Opn} {a : Option Addr} {n c : Nat} {aR : Option Addr} {nR cR : Nat} (h : OpIn w cs q a n c aR nR cR) (hb : Below w.heap.size w w') : OpIn w' cs q a n c aR nR cR :=
  ⟨h.cs, h.wk, h.wi, h.wx, by obtain ⟨cs, ho⟩ := h.ob; exact ⟨cs, ho.below hb⟩, h.lenR, h.slR.below hb, h.wR, h.rR⟩
/-- the things to do, by their number -/
structure OpsIn (w : World) (a : Option Addr) (n c : Nat) (L : List Opn) : Prop where
  len : L.length = n
  bnd : n ≤ c ∧ c ≤ 9223372036854775807
  at_ : ∀ i, i < n → ∃ b off cs aO nO cO aR nR cR, a = some ⟨b, off, none⟩ ∧ OpIn w cs (L.getD i ⟨0, 0, 0, noOb, (0, 0), []⟩) aO nO cO aR nR cR ∧ ∀ j, j < 10 → w.cell? ⟨b, off + i * 10 + j, none⟩ = cs[j]?
def opn0 : Opn := ⟨0, 0, 0, noOb, (0, 0), []⟩
theorem ops_open {w : World} {a : Option Addr} {n c : Nat} {l : List (Int × Int × Int × (UInt8 × Int × List (UInt8 × Int) × List UInt8) × (UInt8 × Int) × List Int)} (h : SlOf VOp 10 w (.slice a n c) l) : ∃ L, OpsIn w a n c L := by
  have hl := h.len
  have key : ∀ i, i < n → ∃ q : Opn, ∃ b off cs aO nO cO aR nR cR, a = some ⟨b, off, none⟩ ∧ OpIn w cs q aO nO cO aR nR cR ∧ ∀ j, j < 10 → w.cell? ⟨b, off + i * 10 + j, none⟩ = cs[j]? := fun i hi => by
    obtain ⟨b, off, cs, ha, hcl, hv, hc⟩ := h.at i (by omega)
    obtain ⟨q, aO, nO, cO, aR, nR, cR, hq⟩ := op_open hv
    exact ⟨q, b, off, cs, aO, nO, cO, aR, nR, cR, ha, hq, hc⟩
  obtain ⟨L, hL, hq⟩ := list_of n key
  refine ⟨L, hL, hl.2, fun i hi => ?_⟩
  have := hq i (by omega)
  rw [← getD_lt (show i < L.length by omega) ⟨0, 0, 0, noOb, (0, 0), []⟩] at this
  exact this
theorem OpsIn.below {w w' : World} {a : Option Addr} {n c : Nat} {L : List Opn} (h : OpsIn w a n c L) (hb : Below w.heap.size w w') : OpsIn w' a n c L :=
  ⟨h.len, h.bnd, fun i hi => by
    obtain ⟨b, off, cs, aO, nO, cO, aR, nR, cR, ha, hq, hc⟩ := h.at_ i hi
    refine ⟨b, off, cs, aO, nO, cO, aR, nR, cR, ha, hq.below hb, fun j hj => ?_⟩
    have hcj := hc j hj
    have hjl : j < cs.length := by rw [hq.cs]; simpa using hj
    rw [List.getElem?_eq_getElem hjl] at hcj ⊢
    exact (hb.cell (p := ⟨b, off + i * 10 + j, none⟩) (lt_of_cell hcj)).trans hcj⟩
end Go.Proofs.Ytekmgffjdheifaa
