/-
  Law 24's 'same' at like answers; both heaps in one memory. Conditions: the answers read.
-/
import Derived.Test.YtekmgffjdheifaaHqW
namespace Go.Proofs.Ytekmgffjdheifaa
open Go Go.RowKit
set_option linter.unusedVariables false
set_option linter.unusedSimpArgs false
set_option maxRecDepth 100000

set_option maxHeartbeats 1600000 in
theorem sameT_p (t : Told) (a : Option Addr) (n c : Nat) (a2 : Option Addr) (c2 : Nat) (w : World) (hl : Sl w 2 (.slice a n c) n (wcells t.o.l)) (hl2 : Sl w 2 (.slice a2 n c2) n (wcells t.o.l)) :
    Calls Try.prog 35 #[.agg #[.int .u8 (t.o.k.toNat : Int), .int .i64 t.o.t, .slice a n c, .string (str t.o.s), .int .u8 (t.x.1.toNat : Int), .int .i64 t.x.2, .int .i64 t.n, .bool t.is, .int .i64 t.e], .agg #[.int .u8 (t.o.k.toNat : Int), .int .i64 t.o.t, .slice a2 n c2, .string (str t.o.s), .int .u8 (t.x.1.toNat : Int), .int .i64 t.x.2, .int .i64 t.n, .bool t.is, .int .i64 t.e]] w fun e w' => e = .returned (.bool true) ∧ Below w.heap.size w w' := by
  obtain ⟨w1, hw1⟩ : ∃ x, x = (w.alloc (.cells #[.int .u8 (t.o.k.toNat : Int), .int .i64 t.o.t, .slice a n c, .string (str t.o.s), .int .u8 (t.x.1.toNat : Int), .int .i64 t.x.2, .int .i64 t.n, .bool t.is, .int .i64 t.e] 61)).alloc (.cells #[.int .u8 (t.o.k.toNat : Int), .int .i64 t.o.t, .slice a2 n c2, .string (str t.o.s), .int .u8 (t.x.1.toNat : Int), .int .i64 t.x.2, .int .i64 t.n, .bool t.is, .int .i64 t.e] 61) := ⟨_, rfl⟩
  have hb1 : Below w.heap.size w w1 := by rw [hw1]; exact ((Below.refl _ _).alloc (Nat.le_refl _) _).alloc (by simp) _
  have hrA : Row w1 w.heap.size 61 [.int .u8 (t.o.k.toNat : Int), .int .i64 t.o.t, .slice a n c, .string (str t.o.s), .int .u8 (t.x.1.toNat : Int), .int .i64 t.x.2, .int .i64 t.n, .bool t.is, .int .i64 t.e] := by rw [hw1]; exact (Row.new w _ 61).alloc _
  have hrB : Row w1 (w.heap.size + 1) 61 [.int .u8 (t.o.k.toNat : Int), .int .i64 t.o.t, .slice a2 n c2, .string (str t.o.s), .int .u8 (t.x.1.toNat : Int), .int .i64 t.x.2, .int .i64 t.n, .bool t.is, .int .i64 t.e] := by
    rw [hw1]
    have := Row.new (w.alloc (.cells [.int .u8 (t.o.k.toNat : Int), .int .i64 t.o.t, .slice a n c, .string (str t.o.s), .int .u8 (t.x.1.toNat : Int), .int .i64 t.x.2, .int .i64 t.n, .bool t.is, .int .i64 t.e].toArray 61)) [.int .u8 (t.o.k.toNat : Int), .int .i64 t.o.t, .slice a2 n c2, .string (str t.o.s), .int .u8 (t.x.1.toNat : Int), .int .i64 t.x.2, .int .i64 t.n, .bool t.is, .int .i64 t.e] 61
    rw [World.size_alloc] at this
    exact this
  have HL := Lib.hid (hl.below hb1)
  have HL2 := Lib.hid (hl2.below hb1)
  have HA := Lib.hid hrA
  have HB := Lib.hid hrB
  have HB1 := Lib.hid hb1
  have A0 := hrA.cell 0
  have A1 := hrA.cell 1
  have A2 := hrA.cell 2
  have A3 := hrA.cell 3
  have B0 := hrB.cell 0
  have B1 := hrB.cell 1
  have B2 := hrB.cell 2
  have B3 := hrB.cell 3
  simp only [List.getElem?_cons_zero, List.getElem?_cons_succ] at A0 A1 A2 A3 B0 B1 B2 B3
  clear hl hl2 hrA hrB hb1
  go_enter Try.func35, Try.ntmps35
  go_upto_region 1 with fail
  rw [← hw1]
  clear hw1
  try go_frame
  go_wp2_with fail
  refine (same_t t.o.k.toNat t.o.t a n c a2 c2 t.o.l t.o.s w1 HL.out HL2.out).mono ?_
  rintro e w2 ⟨rfl, hb2⟩
  have rA := HA.out.after hb2
  have rB := HB.out.after hb2
  have HB2 := Lib.hid (HB1.out.trans (hb2.mono HB1.out.size))
  clear HA HB HL HL2 HB1 hb2 A0 A1 A2 A3 B0 B1 B2 B3
  have A4 := rA.cell 4
  have A5 := rA.cell 5
  have A6 := rA.cell 6
  have A7 := rA.cell 7
  have A8 := rA.cell 8
  have B4 := rB.cell 4
  have B5 := rB.cell 5
  have B6 := rB.cell 6
  have B7 := rB.cell 7
  have B8 := rB.cell 8
  simp only [List.getElem?_cons_zero, List.getElem?_cons_succ] at A4 A5 A6 A7 A8 B4 B5 B6 B7 B8
  clear rA rB
  have h1 : ((t.x.1.toNat : Int) == (t.x.1.toNat : Int)) = true := by simp
  have h2 : (t.x.2 == t.x.2) = true := by simp
  have h3 : (t.n == t.n) = true := by simp
  have h4 : (t.is == t.is) = true := by simp
  have h5 : (t.e == t.e) = true := by simp
  go_wp2_with fail
  go_ret
  exact ⟨rfl, HB2.out⟩
theorem hq_rq : ∀ x, RQ x → ¬ HQ x := fun x h k => by rcases h with h | h <;> rcases k with k | k <;> omega
theorem rq_hq : ∀ x, HQ x → ¬ RQ x := fun x h k => hq_rq x k h
theorem rq_nz : ∀ x, RQ x → NZ x := fun x h => by rcases h with h | h <;> (show x ≠ 0; omega)
/-- both heaps, at which the same was done -/
structure PP (m b r : Nat) (w0 : World) (H : List Th) (n : Nat) (col : Nat → Nat) (w : World) : Prop where
  P : Pl m b w0 H n col w
  R : RfAt col w r m H
theorem PP.down {m b r : Nat} {w0 : World} {H : List Th} {n : Nat} {col : Nat → Nat} {w w' : World} (h : PP m b r w0 H n col w) (hb : Below w.heap.size w w') : PP m b r w0 H n col w' := ⟨h.P.down hb, h.R.fresh hb⟩
theorem plz_limit {m b : Nat} {w0 : World} {H : List Th} {n : Nat} {col : Nat → Nat} {w : World} (h : Pl m b w0 H n col w) : Calls Try.prog 39 #[.pointer (some ⟨b, 0, none⟩)] w fun e w' => e = .returned (.int .i64 (m : Nat)) ∧ w = w' := by
  obtain ⟨bm, bt, ks, at_, ts, tf, hH⟩ := h.A
  exact limit_p hH
/-- in a region that draws: what lay below stays -/
def RW (B : Nat) (w w' : World) : Prop := ∀ k, k < B → w'.heap[k]? = w.heap[k]?
theorem RW_refl (B : Nat) (w : World) : RW B w w := fun _ _ => rfl
theorem RW_trans (B : Nat) (x y z : World) (h : RW B x y) (k : RW B y z) : RW B x z := fun i hi => (k i hi).trans (h i hi)
theorem RW.of {B : Nat} {w0 w w' : World} (h : Below B w0 w) (k : Below B w0 w') : RW B w w' := fun i hi => (k.block i hi).trans (h.block i hi).symm
theorem laterW_cell {B : Nat} {w : World} {b o : Nat} {v : Value} (h : w.cell? ⟨b, o, none⟩ = some v) (hb : b < B) : ∀ x : Later (RW B) w.drew, x.w.cell? ⟨b, o, none⟩ = some v := fun x => by
  have h1 : x.w.heap[b]? = w.heap[b]? := x.later b hb
  unfold World.cell? at h ⊢
  simp only at h ⊢
  rw [h1]
  exact h
instance laterRW (B : Nat) (w : World) : Nonempty (Later (RW B) w) := nonemptyLater (RW_refl B) w
end Go.Proofs.Ytekmgffjdheifaa
