/-
  Seal and Open at known bodies.
-/
import Derived.Test.YtobagfndagjajaaDoorBlkL1
import Derived.Test.YtobagfndagjajaaDoorOpen
import Derived.Deep.CutBlock
namespace Go.Proofs.YtobagfndagjajaaDoor
open Go.RowKit
set_option linter.unusedVariables false
set_option linter.unusedSimpArgs false

theorem seal_yes (K : UInt8) (k : Nat) (hk : Hid (K.toNat = k)) (h0 : K ≠ 0) (a : Option Addr) (n c : Nat) (b : List UInt8) (w : World) (hl : Sl w 1 (.slice a n c) n (bvs b)) (hn : n ≤ 248) :
    Calls Tryd.prog 11 #[.int .u8 (k : Int), .slice a n c] w fun e w' => ∃ v, e = .returned (.tuple #[v, .int .i64 0]) ∧ Own w' w.heap.size 1 v 256 (bvs (blkL K b)) ∧ Below w.heap.size w w' := by
  have hb : b.length = n := by have := hl.len.1; omega
  have hE : blkE K b = 0 := by rw [blkE, if_neg (by rintro (h | h); exact h0 h; omega)]
  have := seal_p K a n c b w hl (blkL K b) 256 0 ⟨by rw [blkQ, if_pos hE], (blkL_len K b (by omega)).symm, hE.symm⟩
  rw [hk.out] at this
  exact this
theorem seal_non (K : UInt8) (k : Nat) (hk : Hid (K.toNat = k)) (a : Option Addr) (n c : Nat) (b : List UInt8) (w : World) (hl : Sl w 1 (.slice a n c) n (bvs b)) (h : K = 0 ∨ 248 < n) :
    Calls Tryd.prog 11 #[.int .u8 (k : Int), .slice a n c] w fun e w' => ∃ v, e = .returned (.tuple #[v, .int .i64 1]) ∧ Own w' w.heap.size 1 v 0 (bvs []) ∧ Below w.heap.size w w' := by
  have hb : b.length = n := by have := hl.len.1; omega
  have hE : blkE K b = 1 := by rw [blkE, if_pos (by rw [hb]; exact h)]
  have := seal_p K a n c b w hl [] 0 1 ⟨by rw [blkQ, if_neg (by rw [hE]; decide)], rfl, hE.symm⟩
  rw [hk.out] at this
  exact this
theorem open_yes (K : UInt8) (k : Nat) (hk : Hid (K.toNat = k)) (h0 : K ≠ 0) (a : Option Addr) (c n : Nat) (b : List UInt8) (w : World) (hb : Hid (b.length = n)) (hn : n ≤ 248) (hl : Sl w 1 (.slice a 256 c) 256 (bvs (blkL K b))) :
    Calls Tryd.prog 16 #[.slice a 256 c] w fun e w' => ∃ v, e = .returned (.tuple #[.int .u8 (k : Int), v, .int .i64 0]) ∧ Own w' w.heap.size 1 v n (bvs b) ∧ Below w.heap.size w w' := by
  obtain ⟨h1, h2, h3⟩ := seal_open K b h0 (by rw [hb.out]; exact hn)
  have := open_p a 256 c (blkL K b) w hl k b n 0 ⟨by rw [h1, h2, hk.out]; rfl, by rw [h1, h3]; rfl, hb.out.symm, by rw [h1]; rfl⟩
  exact this
theorem open_bad (a : Option Addr) (m c : Nat) (b : List UInt8) (w : World) (hl : Sl w 1 (.slice a m c) m (bvs b)) (h : Hid (opOk b = false)) :
    Calls Tryd.prog 16 #[.slice a m c] w fun e w' => ∃ v, e = .returned (.tuple #[.int .u8 0, v, .int .i64 8]) ∧ Own w' w.heap.size 1 v 0 (bvs []) ∧ Below w.heap.size w w' :=
  open_p a m c b w hl 0 [] 0 8 ⟨by rw [h.out]; rfl, by rw [h.out]; rfl, rfl, by rw [h.out]; rfl⟩
theorem open_good (a : Option Addr) (m c : Nat) (b : List UInt8) (w : World) (hl : Sl w 1 (.slice a m c) m (bvs b)) (h : Hid (opOk b = true)) (k N : Nat) (hk : Hid ((opK b).toNat = k)) (hN : Hid ((opB b).length = N)) :
    Calls Tryd.prog 16 #[.slice a m c] w fun e w' => ∃ v, e = .returned (.tuple #[.int .u8 (k : Int), v, .int .i64 0]) ∧ Own w' w.heap.size 1 v N (bvs (opB b)) ∧ Below w.heap.size w w' :=
  open_p a m c b w hl k (opB b) N 0 ⟨by rw [h.out, hk.out]; rfl, by rw [h.out]; rfl, hN.out.symm, by rw [h.out]; rfl⟩
theorem reseal (a : Option Addr) (c : Nat) (b : List UInt8) (h : Hid (opOk b = true)) (k N : Nat) (hk : Hid ((opK b).toNat = k)) (w : World) (hl : Sl w 1 (.slice a N c) N (bvs (opB b))) :
    Calls Tryd.prog 11 #[.int .u8 (k : Int), .slice a N c] w fun e w' => ∃ v, e = .returned (.tuple #[v, .int .i64 0]) ∧ Own w' w.heap.size 1 v 256 (bvs b) ∧ Below w.heap.size w w' := by
  obtain ⟨h1, h2⟩ := open_seal h.out
  have h3 := (opOk_parts h.out).1
  have := seal_p (opK b) a N c (opB b) w hl b 256 0 ⟨by rw [blkQ, if_pos h1, h2], h3.symm, h1.symm⟩
  rw [hk.out] at this
  exact this
theorem open_len {b : List UInt8} (h : b.length ≠ 256) : opOk b = false := by
  cases ho : opOk b with
  | false => rfl
  | true => exact absurd (opOk_parts ho).1 h
end Go.Proofs.YtobagfndagjajaaDoor
