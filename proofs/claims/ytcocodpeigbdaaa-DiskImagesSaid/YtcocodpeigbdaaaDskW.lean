/-
  Law 03's works. No condition.
-/
import Derived.Test.YtcocodpeigbdaaaDskQ
namespace Go.Proofs.Ytcocodpeigbdaaa
open Go.RowKit
set_option linter.unusedVariables false
set_option linter.unusedSimpArgs false

def wk0 : Dk := newD 16
def wk1 : Dk := writeD wk0 3 [7]
def wk2 : Dk := barrierD wk1
def wk3 : Dk := writeD wk2 3 [8]
def wk4 : Dk := offD wk3
def wk5 : Dk := onD wk4 [] (-1)
theorem wk_e1 : (0 : Int) = writeE wk0 3 [7] := by kernel_rfl
theorem wk_e2 : (0 : Int) = barrierE wk1 := by kernel_rfl
theorem wk_e3 : (0 : Int) = writeE wk2 3 [8] := by kernel_rfl
theorem wk_e4 : (0 : Int) = readE wk3 3 := by kernel_rfl
theorem wk_b4 : readB wk3 3 = fullB [8] := by kernel_rfl
theorem wk_e5 : (0 : Int) = onE wk4 := by kernel_rfl
theorem wk_e6 : (0 : Int) = readE wk5 3 := by kernel_rfl
theorem wk_b6 : readB wk5 3 = fullB [7] := by kernel_rfl
theorem wk_s : wk5.steps = 3 := by kernel_rfl
theorem wk_f0 : wk0.Fits 0 := newD_fits (by decide)
theorem wk_f1 : wk1.Fits 2 := writeD_fits wk_f0 _ _
theorem wk_f2 : wk2.Fits 4 := barrierD_fits wk_f1
theorem wk_f3 : wk3.Fits 6 := writeD_fits wk_f2 _ _
theorem wk_f4 : wk4.Fits 8 := offD_fits wk_f3
theorem wk_f5 : wk5.Fits 10 := onD_fits wk_f4 _ _
theorem DkAt.c4 {e : TypeId} {c : Nat} {col : Nat → Nat} {w : World} {b : Nat} {D : Dk} (h : DkAt e c col w b D) : w.cell? ⟨b, 4, none⟩ = some (.int .i64 D.steps) := by
  obtain ⟨aS, cS, aP, cP, sv, pv, h⟩ := h
  exact h.row.cell 4
/-- a Read that tells a whole sector -/
theorem read_ok (c : Nat) (col : Nat → Nat) (b : Nat) (D : Dk) (k : Nat) (s : Int) (w : World) (F : List UInt8) (h : DkAt 74 c col w b D) (hF : D.Fits k) (hk : k < 1073741823) (hE : (0 : Int) = readE D s) (hB : readB D s = F) (hlen : F.length = 256) :
    Calls Try.prog 15 #[.pointer (some ⟨b, 0, none⟩), .int .i64 s] w fun e w' => ∃ a cc, e = .returned (.tuple #[.slice a 256 cc, .int .i64 0]) ∧ Own w' w.heap.size 1 (.slice a 256 cc) 256 (bvs F) ∧ Below w.heap.size w w' := by
  have hp := hF.pen
  refine (read_p c col b D s w F h (by omega) (by omega) 0 (Lib.hid hE) (Lib.hid hB.symm)).mono ?_
  rintro e w2 ⟨v, rfl, ho, hb⟩
  rw [hlen] at ho
  obtain ⟨a, cc, rfl⟩ := ho.form
  exact ⟨a, cc, rfl, ho, hb⟩
theorem new16 (w : World) (col : Nat → Nat) : Calls Try.prog 11 #[.int .i64 16] w fun e w' => ∃ b, e = .returned (.tuple #[.pointer (some ⟨b, 0, none⟩), .int .i64 0]) ∧ MadeNew 74 1 col w b wk0 w' := by
  refine (new_yes 16 1 (by decide) col w (Lib.hid (by decide))).mono ?_
  rintro e w' ⟨b, rfl, _, h⟩
  exact ⟨b, rfl, h⟩
theorem one_ne : ∀ c : Nat, c = 1 → NZ c := fun c h => by rw [h]; exact Nat.one_ne_zero
set_option maxRecDepth 100000 in
set_option maxHeartbeats 2000000 in
theorem works_any (w : World) : Calls Try.prog 10 #[] w fun e w' => e = .returned (.bool true) ∧ Below w.heap.size w w' := by
  go_enter Try.func10, Try.ntmps10
  go_wp2_with fail
  refine (new16 w col0).mono ?_
  rintro e w1 ⟨b, rfl, col1, k1, h1⟩
  have K1 : Hid (St NZ col0 w col1 w1) := Lib.hid (k1.mono (fun _ h => h.elim))
  have hb2 : Below w1.heap.size w1 (w1.alloc (.cells #[.int .u8 7] 5)) := (Below.refl _ _).alloc (Nat.le_refl _) _
  have H2 := Lib.hid (h1.st (St.fresh hb2 (fun _ => False) col1) (fun h => h) (fun h => h))
  have K2 := Lib.hid (K1.out.down hb2)
  have S2 : Hid (Sl (w1.alloc (.cells #[.int .u8 7] 5)) 1 (.slice (some ⟨w1.heap.size, 0, none⟩) 1 1) 1 (bvs [7])) := Lib.hid (Sl.one w1 (.int .u8 7) 5)
  clear hb2 h1 k1
  go_wp2_with fail
  refine (write_p 1 col1 b wk0 3 0 _ 1 1 [7] _ H2.out wk_f0 (by decide) S2.out 0 (Lib.hid wk_e1) wk1 (Lib.hid rfl)).mono ?_
  rintro e w3 ⟨rfl, col3, k3, h3⟩
  have K3 := Lib.hid (K2.out.trans (k3.mono one_ne))
  clear k3
  go_wp2_with fail
  refine (barrier_p 1 col3 b wk1 2 w3 h3 wk_f1 (by decide) 0 (Lib.hid wk_e2) wk2 (Lib.hid rfl)).mono ?_
  rintro e w4 ⟨rfl, col4, k4, h4⟩
  have K4 := Lib.hid (K3.out.trans (k4.mono one_ne))
  have hb5 : Below w4.heap.size w4 (w4.alloc (.cells #[.int .u8 8] 5)) := (Below.refl _ _).alloc (Nat.le_refl _) _
  have H5 := Lib.hid (h4.st (St.fresh hb5 (fun _ => False) col4) (fun h => h) (fun h => h))
  have K5 := Lib.hid (K4.out.down hb5)
  have S5 : Hid (Sl (w4.alloc (.cells #[.int .u8 8] 5)) 1 (.slice (some ⟨w4.heap.size, 0, none⟩) 1 1) 1 (bvs [8])) := Lib.hid (Sl.one w4 (.int .u8 8) 5)
  clear hb5 h4 k4 h3
  go_wp2_with fail
  refine (write_p 1 col4 b wk2 3 4 _ 1 1 [8] _ H5.out wk_f2 (by decide) S5.out 0 (Lib.hid wk_e3) wk3 (Lib.hid rfl)).mono ?_
  rintro e w6 ⟨rfl, col6, k6, h6⟩
  have K6 := Lib.hid (K5.out.trans (k6.mono one_ne))
  clear k6 H5 S5 K4 K3 K2 H2 S2
  go_wp2_with fail
  refine (read_ok 1 col6 b wk3 6 3 w6 (fullB [8]) h6 wk_f3 (by decide) wk_e4 wk_b4 (fullB_len (by decide))).mono ?_
  rintro e w7 ⟨a7, c7, rfl, ho7, hb7⟩
  have H7 := Lib.hid (h6.st (St.new hb7 (fun _ => False) col6 9) (fun h => h) (fun h => h))
  have K7 := Lib.hid (K6.out.trans (St.new hb7 NZ col6 9))
  have O7 : Hid (OwnC (recol col6 w6.heap.size 9) w7 9 1 (.slice a7 256 c7) 256 (bvs (fullB [8]))) := Lib.hid (OwnC.new ho7)
  clear hb7 ho7 h6
  go_wp2_with fail
  refine (off_p 1 _ b wk3 w7 H7.out wk4 (Lib.hid rfl)).mono ?_
  rintro e w8 ⟨⟨v8, rfl⟩, col8, k8, h8⟩
  have K8 := Lib.hid (K7.out.trans (k8.mono one_ne))
  have O8 := Lib.hid (O7.out.st k8 (by decide))
  obtain ⟨b9, o9, rfl, hc9⟩ := O8.out.1.sl.byte (k := 0) (by decide)
  rw [show (((fullB [8]).getD 0 0).toNat : Int) = 8 by rfl, Nat.add_zero] at hc9
  have H8 := Lib.hid h8
  clear k8 H7 O7 h8
  go_wp2_with fail
  refine (on_p 1 col8 b wk4 8 w8 H8.out wk_f4 (by decide) (-1) none 0 0 [] (Sl.nil _ _) (fun h => absurd rfl h) 0 (Lib.hid wk_e5) wk5 (Lib.hid rfl)).mono ?_
  rintro e w10 ⟨rfl, col10, k10, h10⟩
  have K10 := Lib.hid (K8.out.trans (k10.mono one_ne))
  have H10 := Lib.hid h10
  clear k10 hc9 H8 h10
  go_wp2_with fail
  refine (read_ok 1 col10 b wk5 10 3 w10 (fullB [7]) H10.out wk_f5 (by decide) wk_e6 wk_b6 (fullB_len (by decide))).mono ?_
  rintro e w11 ⟨a11, c11, rfl, ho11, hb11⟩
  have K11 := Lib.hid (K10.out.down hb11)
  obtain ⟨b12, o12, rfl, hc12⟩ := ho11.sl.byte (k := 0) (by decide)
  rw [show (((fullB [7]).getD 0 0).toNat : Int) = 7 by rfl, Nat.add_zero] at hc12
  have hst := (H10.out.st (St.fresh hb11 (fun _ => False) col10) (fun h => h) (fun h => h)).c4
  rw [wk_s] at hst
  clear ho11 hb11
  go_wp2_with fail
  refine (steps_any b 3 w11 hst).mono ?_
  rintro e w12 ⟨rfl, rfl⟩
  go_wp2_with fail
  go_ret
  exact ⟨rfl, K11.out.below⟩
end Go.Proofs.Ytcocodpeigbdaaa
