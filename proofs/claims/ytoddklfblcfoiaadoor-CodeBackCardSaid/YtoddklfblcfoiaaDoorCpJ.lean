/-
  The law of the bytes of codes, walked. Condition: the table as laid; within a machine's reach.
-/
import Derived.Test.YtoddklfblcfoiaaDoorCpI
import Derived.Test.YtoddklfblcfoiaaDoorCpG
import Derived.Test.YtoddklfblcfoiaaDoorCoJ
namespace Go.Proofs.YtoddklfblcfoiaaDoor
open Go Go.RowKit
set_option linter.unusedVariables false
set_option linter.unusedSimpArgs false
set_option maxRecDepth 100000

def noC : Cod := ⟨[], []⟩
def rD (l : List UInt8) : Cod := (readC l).getD noC
def rE (l : List UInt8) : Int := match readC l with | none => 8 | some _ => 0
theorem noC_mem (w : World) : CodM w nilV nilV noC := ⟨⟨[], Sl.nil w 1, .nil⟩, Sl.nil w 2⟩
theorem rD_len (l : List UInt8) (n : Nat) (h : l.length = n) (hn : n ≤ 1000000000) : (codL (rD l)).length ≤ 1000000000 := by
  unfold rD
  cases hr : readC l with
  | none => exact (by decide : (codL noC).length ≤ 1000000000)
  | some C =>
    show (codL C).length ≤ _
    rw [(write_read hr).1]
    omega
theorem read_any {l : List UInt8} {w : World} {e : Ending} {w' : World} (h : ReadR l w e w') (E : Int) (HE : E = rE l) :
    ∃ aG nG kG aS nS kS, e = .returned (.tuple #[.agg #[.slice aG nG kG, .slice aS nS kS], .int .i64 E]) ∧ CodM w' (.slice aG nG kG) (.slice aS nS kS) (rD l) ∧ Below w.heap.size w w' := by
  unfold rE at HE
  unfold rD
  rcases h with ⟨C, vF, vR, vs, h1, h2, h3, h4⟩ | ⟨h1, h2, h3⟩
  · rw [h1.out] at HE ⊢
    subst HE
    have h5 := h3.codM
    obtain ⟨⟨aG, kG, e1⟩, aS, kS, e2⟩ := h5.form
    rw [e1, e2] at h5 h2
    exact ⟨aG, _, kG, aS, _, kS, h2, h5, h4⟩
  · rw [h1] at HE ⊢
    subst HE
    exact ⟨none, 0, 0, none, 0, 0, h2, noC_mem w', h3⟩
theorem in_front {w : World} {g off n : Nat} {l : List UInt8} (h : Sl w 1 (.slice (some ⟨g, off, none⟩) (n + 6) (n + 6)) (n + 6) (bvs (l ++ tailL))) (hn : l.length = n) : Sl w 1 (.slice (some ⟨g, off, none⟩) n (n + 6)) n (bvs l) := by
  have h1 := h.front (m := n) (by omega)
  have e : (bvs (l ++ tailL)).take (n * 1) = bvs l := by
    unfold bvs
    rw [Nat.mul_one, ← List.map_take, List.take_append_of_le_length (by omega), List.take_of_length_le (by omega)]
  rw [e] at h1
  exact h1
/-- what a law was handed, in some later world -/
structure BtS (W : World) (k : Nat) (aF : Option Addr) (nF kF : Nat) (aR : Option Addr) (nR kR : Nat) (c : Cod) (a : Option Addr) (n cc : Nat) (l : List UInt8) (w : World) : Prop where
  box : Row w k 25 [.slice aF nF kF, .slice aR nR kR]
  cod : CodM w (.slice aF nF kF) (.slice aR nR kR) c
  bs : Sl w 1 (.slice a n cc) n (bvs l)
  bel : Below W.heap.size W w
theorem BtS.fresh {W : World} {k : Nat} {aF : Option Addr} {nF kF : Nat} {aR : Option Addr} {nR kR : Nat} {c : Cod} {a : Option Addr} {n cc : Nat} {l : List UInt8} {w w' : World} (h : BtS W k aF nF kF aR nR kR c a n cc l w) (hb : Below w.heap.size w w') : BtS W k aF nF kF aR nR kR c a n cc l w' :=
  ⟨h.box.after hb, h.cod.below hb, h.bs.below hb, h.bel.trans (hb.mono h.bel.size)⟩
set_option maxHeartbeats 4000000 in
theorem law_bytes (aF : Option Addr) (nF kF : Nat) (aR : Option Addr) (nR kR : Nat) (c : Cod) (a : Option Addr) (n cc : Nat) (l : List UInt8) (W : World) (hc : CodM W (.slice aF nF kF) (.slice aR nR kR) c) (HZ : Hid (CodZ c)) (hl : Sl W 1 (.slice a n cc) n (bvs l)) (h : ∃ b fuel n, PrimsR W b fuel n) :
    Calls Tryd.prog 3 #[.agg #[.slice aF nF kF, .slice aR nR kR], .slice a n cc] W fun e w' => e = .returned (.bool true) ∧ Below W.heap.size W w' := by
  obtain ⟨pb, fuel, pn, hP⟩ := h
  have HP0 := Lib.hid hP
  have HN : Hid (l.length = n) := Lib.hid hl.len.1
  have hnn := hl.len.2.1
  obtain ⟨k, hk⟩ : ∃ y, y = W.heap.size := ⟨_, rfl⟩
  obtain ⟨w1, hw1⟩ : ∃ y, y = W.alloc (.cells #[.slice aF nF kF, .slice aR nR kR] 25) := ⟨_, rfl⟩
  have HS1 : Hid (BtS W k aF nF kF aR nR kR c a n cc l w1) := Lib.hid (by
    have hb1 : Below W.heap.size W w1 := by rw [hw1]; exact (Below.refl _ _).alloc (Nat.le_refl _) _
    exact ⟨by rw [hw1, hk]; exact Row.new W _ _, hc.below hb1, hl.below hb1, hb1⟩)
  obtain ⟨B, hB⟩ : ∃ y, y = decide (3000 < sizeV c) := ⟨_, rfl⟩
  have HB := Lib.hid hB
  clear hP hB hl hc
  have hlg := large_p aF nF kF aR nR kR c w1 HS1.out.cod HZ B HB
  have q0 : w1.cell? ⟨k, 0, none⟩ = some (.slice aF nF kF) := HS1.out.box.cell 0
  have q1 : w1.cell? ⟨k, 1, none⟩ = some (.slice aR nR kR) := HS1.out.box.cell 1
  go_enter Tryd.func3, Tryd.ntmps3
  go_upto_region 1 with fail
  rw [← hw1, ← hk]
  clear hw1 hk
  go_upto_region 2 with fail
  refine hlg.mono ?_
  rintro e w2 ⟨rfl, hb2⟩
  clear hlg q0 q1
  have HS := Lib.hid (HS1.out.fresh hb2)
  clear HS1 hb2
  cases B with
  | true =>
    have hwk := works_p W pb fuel pn HP0 _ (Lib.hid HS.out.bel)
    go_wp2_with fail
    refine hwk.mono ?_
    rintro e wz ⟨rfl, hbz⟩
    clear hwk
    go_wp2_with fail
    go_ret
    exact ⟨rfl, HS.out.bel.trans (hbz.mono HS.out.bel.size)⟩
  | false =>
    by_cases hn : n ≤ 32768
    · have hn' : ¬ (32768 : Int) < n := by omega
      have HSM : Hid (sizeV c ≤ 3000) := Lib.hid (by have := of_decide_eq_false HB.out.symm; omega)
      clear HB
      have HCL : Hid ((codL c).length ≤ 1000000000) := Lib.hid (Nat.le_trans (codL_small HSM.out) (by decide))
      have q0 : w2.cell? ⟨k, 0, none⟩ = some (.slice aF nF kF) := HS.out.box.cell 0
      have q1 : w2.cell? ⟨k, 1, none⟩ = some (.slice aR nR kR) := HS.out.box.cell 1
      have hwr := write_p aF nF kF aR nR kR c w2 HS.out.cod HCL
      go_upto_region 4 with fail
      refine hwr.mono ?_
      rintro e w3 ⟨v3, rfl, ho3, hb3⟩
      clear hwr q0 q1
      obtain ⟨m, hm⟩ : ∃ y, y = (codL c).length := ⟨_, rfl⟩
      have hm9 : m ≤ 1000000000 := by rw [hm]; exact HCL.out
      rw [← hm] at ho3
      obtain ⟨a3, c3, rfl⟩ := ho3.form
      have HS3 := Lib.hid (HS.out.fresh hb3)
      have HO3 := Lib.hid ho3.sl
      clear HS hb3 ho3 hm
      have hro := roomy_any a n cc l w3 HS3.out.bs (by omega)
      go_upto_region 4 with fail
      go_upto_region 5 with fail
      refine hro.mono ?_
      rintro e w4 ⟨g4, o4, rfl, ho4, hb4⟩
      clear hro
      have HS4 := Lib.hid (HS3.out.fresh hb4)
      have HO4 := Lib.hid (HO3.out.below hb4)
      have HI4 := Lib.hid ho4.sl
      clear HS3 HO3 hb4 ho4
      obtain ⟨E, hE⟩ : ∃ y, y = rE l := ⟨_, rfl⟩
      have hrd := (read_p (some ⟨g4, o4, none⟩) n (n + 6) l w4 (in_front HI4.out HN.out) (by omega)).mono (fun e w' h => read_any h E hE)
      go_upto_region 6 with fail
      refine hrd.mono ?_
      rintro e w5 ⟨aG, nG, kG, aS, nS, kS, rfl, hD5, hb5⟩
      clear hrd
      have HS5 := Lib.hid (HS4.out.fresh hb5)
      have HO5 := Lib.hid (HO4.out.below hb5)
      have HI5 := Lib.hid (HI4.out.below hb5)
      have HD5 := Lib.hid hD5
      have HE := Lib.hid hE
      clear HS4 HO4 HI4 hb5 hD5 hE
      go_upto_region 6 with fail
      obtain ⟨w6, hw6⟩ : ∃ y, y = w5.alloc (.cells #[.slice aG nG kG, .slice aS nS kS] 25) := ⟨_, rfl⟩
      have hb6 : Below w5.heap.size w5 w6 := by rw [hw6]; exact (Below.refl _ _).alloc (Nat.le_refl _) _
      have HS6 := Lib.hid (HS5.out.fresh hb6)
      have HO6 := Lib.hid (HO5.out.below hb6)
      have HI6 := Lib.hid (HI5.out.below hb6)
      have HD6 := Lib.hid (HD5.out.below hb6)
      obtain ⟨k6, hk6⟩ : ∃ y, y = w5.heap.size := ⟨_, rfl⟩
      have HX6 : Hid (Row w6 k6 25 [.slice aG nG kG, .slice aS nS kS]) := Lib.hid (by rw [hw6, hk6]; exact Row.new w5 _ _)
      rw [← hw6, ← hk6]
      clear HS5 HO5 HI5 HD5 hb6 hw6 hk6
      have hrd := (rread_p a n cc l w6 HS6.out.bs (by omega)).mono (fun e w' h => read_any h E HE.out)
      go_upto_region 7 with fail
      refine hrd.mono ?_
      rintro e w7 ⟨aG2, nG2, kG2, aS2, nS2, kS2, rfl, hD7, hb7⟩
      clear hrd
      have HS7 := Lib.hid (HS6.out.fresh hb7)
      have HO7 := Lib.hid (HO6.out.below hb7)
      have HI7 := Lib.hid (HI6.out.below hb7)
      have HD7 := Lib.hid (HD6.out.below hb7)
      have HX7 := Lib.hid (HX6.out.after hb7)
      have HF7 := Lib.hid hD7
      clear HS6 HO6 HI6 HD6 HX6 hb7 hD7
      go_upto_region 7 with fail
      obtain ⟨w8, hw8⟩ : ∃ y, y = w7.alloc (.cells #[.slice aG2 nG2 kG2, .slice aS2 nS2 kS2] 25) := ⟨_, rfl⟩
      have hb8 : Below w7.heap.size w7 w8 := by rw [hw8]; exact (Below.refl _ _).alloc (Nat.le_refl _) _
      have HS8 := Lib.hid (HS7.out.fresh hb8)
      have HO8 := Lib.hid (HO7.out.below hb8)
      have HI8 := Lib.hid (HI7.out.below hb8)
      have HD8 := Lib.hid (HD7.out.below hb8)
      have HX8 := Lib.hid (HX7.out.after hb8)
      have HF8 := Lib.hid (HF7.out.below hb8)
      obtain ⟨k8, hk8⟩ : ∃ y, y = w7.heap.size := ⟨_, rfl⟩
      have HY8 : Hid (Row w8 k8 25 [.slice aG2 nG2 kG2, .slice aS2 nS2 kS2]) := Lib.hid (by rw [hw8, hk8]; exact Row.new w7 _ _)
      rw [← hw8, ← hk8]
      clear HS7 HO7 HI7 HD7 HX7 HF7 hb8 hw8 hk8
      have q0 : w8.cell? ⟨k, 0, none⟩ = some (.slice aF nF kF) := HS8.out.box.cell 0
      have q1 : w8.cell? ⟨k, 1, none⟩ = some (.slice aR nR kR) := HS8.out.box.cell 1
      have hrw := rwrite_p aF nF kF aR nR kR c w8 HS8.out.cod HCL
      go_upto_region 8 with fail
      refine hrw.mono ?_
      rintro e w9 ⟨v9, rfl, ho9, hb9⟩
      clear hrw q0 q1
      have HS9 := Lib.hid (HS8.out.fresh hb9)
      have HI9 := Lib.hid (HI8.out.below hb9)
      have HD9 := Lib.hid (HD8.out.below hb9)
      have HX9 := Lib.hid (HX8.out.after hb9)
      have HF9 := Lib.hid (HF8.out.below hb9)
      have HY9 := Lib.hid (HY8.out.after hb9)
      have hm2 : (codL c).length = m := HO8.out.len.1
      rw [hm2] at ho9
      obtain ⟨a9, c9, rfl⟩ := ho9.form
      have heq : Calls Tryd.prog 16 #[.slice a3 m c3, .slice a9 m c9] w9 fun e w' => e = .returned (.bool true) ∧ Below w9.heap.size w9 w' :=
        (eqb_any a3 m c3 a9 m c9 (codL c) (codL c) w9 (HO8.out.below hb9) ho9.sl (by omega) (by omega)).mono (fun e w' h => by rw [decide_eq_true rfl] at h; exact h)
      clear HS8 HO8 HI8 HD8 HX8 HF8 HY8 hb9 ho9 hm2
      go_upto_region 8 with fail
      refine heq.mono ?_
      rintro e wa ⟨rfl, hba⟩
      clear heq
      have HSa := Lib.hid (HS9.out.fresh hba)
      have HIa := Lib.hid (HI9.out.below hba)
      have HDa := Lib.hid (HD9.out.below hba)
      have HXa := Lib.hid (HX9.out.after hba)
      have HFa := Lib.hid (HF9.out.below hba)
      have HYa := Lib.hid (HY9.out.after hba)
      clear HS9 HI9 HD9 HX9 HF9 HY9 hba
      have hee : (E == E) = true := by simp
      have d0 : wa.cell? ⟨k6, 0, none⟩ = some (.slice aG nG kG) := HXa.out.cell 0
      have d1 : wa.cell? ⟨k6, 1, none⟩ = some (.slice aS nS kS) := HXa.out.cell 1
      have d2 : wa.cell? ⟨k8, 0, none⟩ = some (.slice aG2 nG2 kG2) := HYa.out.cell 0
      have d3 : wa.cell? ⟨k8, 1, none⟩ = some (.slice aS2 nS2 kS2) := HYa.out.cell 1
      have HDL : Hid ((codL (rD l)).length ≤ 1000000000) := Lib.hid (rD_len l n HN.out (by omega))
      have hsm := same_p aG nG kG aS nS kS (rD l) aG2 nG2 kG2 aS2 nS2 kS2 (rD l) wa HDa.out HFa.out HDL HDL true (Lib.hid (by simp))
      go_upto_region 8 with fail
      refine hsm.mono ?_
      rintro e wb ⟨rfl, hbb⟩
      clear hsm d0 d1 d2 d3
      have HSb := Lib.hid (HSa.out.fresh hbb)
      have HIb := Lib.hid (HIa.out.below hbb)
      clear HSa HIa HDa HXa HFa HYa hbb
      have hkp := kept_any g4 o4 a n cc l wb HIb.out HSb.out.bs (by omega)
      go_upto_region 8 with fail
      refine hkp.mono ?_
      rintro e wc ⟨rfl, hbc⟩
      clear hkp
      have HS := Lib.hid (HSb.out.fresh hbc)
      clear HSb HIb hbc
      go_upto_region 8 with fail
      have hwk := works_p W pb fuel pn HP0 _ (Lib.hid HS.out.bel)
      go_wp2_with fail
      refine hwk.mono ?_
      rintro e wz ⟨rfl, hbz⟩
      clear hwk
      go_wp2_with fail
      go_ret
      exact ⟨rfl, HS.out.bel.trans (hbz.mono HS.out.bel.size)⟩
    · have hn' : (32768 : Int) < n := by omega
      have hwk := works_p W pb fuel pn HP0 _ (Lib.hid HS.out.bel)
      go_wp2_with fail
      refine hwk.mono ?_
      rintro e wz ⟨rfl, hbz⟩
      clear hwk
      go_wp2_with fail
      go_ret
      exact ⟨rfl, HS.out.bel.trans (hbz.mono HS.out.bel.size)⟩
theorem opensU8 : Opens Tryd.prog 5 1 VByte := opens_byte Tryd.underlying5 (by kernel_rfl)
theorem bytes_top (cs : Array Value) (d : List (List DIns) × List DSta) (a : Option Addr) (n cc : Nat) (l : List UInt8) (W : World) (h0 : VCod W cs.toList d) (h1 : SlOf VByte 1 W (.slice a n cc) l) (h : ∃ b fuel n, PrimsR W b fuel n) :
    Calls Tryd.prog 3 #[.agg cs, .slice a n cc] W fun e w' => e = .returned (.bool true) ∧ Below W.heap.size W w' := by
  obtain ⟨aF, nF, kF, aR, nR, kR, c, hcs, hc, hz, hi⟩ := cod_open h0
  obtain rfl : cs = #[.slice aF nF kF, .slice aR nR kR] := by cases cs; simp_all
  have hl := h1.bytes
  have hn := h1.len.1
  subst hn
  exact law_bytes aF nF kF aR nR kR c a _ cc l W hc (Lib.hid hz) hl h
end Go.Proofs.YtoddklfblcfoiaaDoor
