/-
  The laws' anchor, walked. Condition: the table as laid.
-/
import Derived.Test.YtoddklfblcfoiaaDoorCpE
import Derived.Test.YtoddklfblcfoiaaDoorCoL
namespace Go.Proofs.YtoddklfblcfoiaaDoor
open Go Go.RowKit
set_option linter.unusedVariables false
set_option linter.unusedSimpArgs false
set_option maxRecDepth 100000

def exL : List Ins := [exI1, exI2, exI3, exI4]
def exR : List Sta := [⟨[114], [105, 110, 116]⟩]
theorem exC_ok : CodOk exC := by
  refine ⟨⟨by decide, fun f hf => ?_⟩, by decide, fun x hx => ?_⟩
  · simp only [exC, List.mem_singleton] at hf
    subst hf
    refine ⟨by decide, fun x hx => ?_⟩
    simp only [List.mem_cons, List.not_mem_nil, or_false] at hx
    rcases hx with rfl | rfl | rfl | rfl <;> exact ⟨⟨by decide, by decide⟩, ⟨by decide, by decide⟩, ⟨by decide, by decide⟩, by decide⟩
  · simp only [exC, List.mem_singleton] at hx
    subst hx
    exact ⟨by decide, by decide⟩
theorem anchor_mem (w : World) : ∃ w4, w4 = (((w.alloc (.cells #[.int .u8 1, .int .i64 5, .int .i64 0, .int .i64 0, .string ⟨#[]⟩, .int .u8 16, .int .i64 0, .int .i64 0, .int .i64 0, .string ⟨#[105, 116, 111, 115]⟩, .int .u8 16, .int .i64 0, .int .i64 0, .int .i64 0, .string ⟨#[112, 114, 105, 110, 116]⟩, .int .u8 25, .int .i64 0, .int .i64 0, .int .i64 0, .string ⟨#[]⟩] 46)).alloc (.cells #[.slice (some ⟨w.heap.size, 0, none⟩) 4 4] 44)).alloc (.cells #[.string ⟨#[114]⟩, .string ⟨#[105, 110, 116]⟩] 48)).alloc (.cells #[.slice (some ⟨w.heap.size + 1, 0, none⟩) 1 1, .slice (some ⟨w.heap.size + 1 + 1, 0, none⟩) 1 1] 25)
    ∧ CodM w4 (.slice (some ⟨w.heap.size + 1, 0, none⟩) 1 1) (.slice (some ⟨w.heap.size + 1 + 1, 0, none⟩) 1 1) exC ∧ Row w4 (w.heap.size + 1 + 1 + 1) 25 [.slice (some ⟨w.heap.size + 1, 0, none⟩) 1 1, .slice (some ⟨w.heap.size + 1 + 1, 0, none⟩) 1 1] ∧ Below w.heap.size w w4 ∧ w4.heap.size = w.heap.size + 4 := by
  refine ⟨_, rfl, ?_⟩
  obtain ⟨w1, hw1⟩ : ∃ y, y = w.alloc (.cells (inCells exL).toArray 46) := ⟨_, rfl⟩
  have h1 := Sl.litS w (inCells exL) 46 5 4 rfl (by decide)
  rw [← hw1] at h1
  have s1 : w1.heap.size = w.heap.size + 1 := by rw [hw1]; simp
  have b1 : Below w.heap.size w w1 := by rw [hw1]; exact (Below.refl _ _).alloc (Nat.le_refl _) _
  obtain ⟨w2, hw2⟩ : ∃ y, y = w1.alloc (.cells #[.slice (some ⟨w.heap.size, 0, none⟩) 4 4] 44) := ⟨_, rfl⟩
  have h2 := Sl.one w1 (.slice (some ⟨w.heap.size, 0, none⟩) 4 4) 44
  rw [← hw2] at h2
  have s2 : w2.heap.size = w.heap.size + 1 + 1 := by rw [hw2]; simp [s1]
  have b2 : Below w1.heap.size w1 w2 := by rw [hw2]; exact (Below.refl _ _).alloc (Nat.le_refl _) _
  obtain ⟨w3, hw3⟩ : ∃ y, y = w2.alloc (.cells (stCells exR).toArray 48) := ⟨_, rfl⟩
  have h3 := Sl.litS w2 (stCells exR) 48 2 1 rfl (by decide)
  rw [← hw3] at h3
  have s3 : w3.heap.size = w.heap.size + 1 + 1 + 1 := by rw [hw3]; simp [s2]
  have b3 : Below w2.heap.size w2 w3 := by rw [hw3]; exact (Below.refl _ _).alloc (Nat.le_refl _) _
  obtain ⟨w4, hw4⟩ : ∃ y, y = w3.alloc (.cells #[.slice (some ⟨w.heap.size + 1, 0, none⟩) 1 1, .slice (some ⟨w.heap.size + 1 + 1, 0, none⟩) 1 1] 25) := ⟨_, rfl⟩
  have h4 := Row.new w3 [.slice (some ⟨w.heap.size + 1, 0, none⟩) 1 1, .slice (some ⟨w.heap.size + 1 + 1, 0, none⟩) 1 1] 25
  have b4 : Below w3.heap.size w3 w4 := by rw [hw4]; exact (Below.refl _ _).alloc (Nat.le_refl _) _
  have s4 : w4.heap.size = w.heap.size + 4 := by rw [hw4]; simp [s3]
  rw [s3] at h4
  rw [s1] at h2
  rw [s2] at h3
  have hc : CodM w3 (.slice (some ⟨w.heap.size + 1, 0, none⟩) 1 1) (.slice (some ⟨w.heap.size + 1 + 1, 0, none⟩) 1 1) exC :=
    ⟨⟨[.slice (some ⟨w.heap.size, 0, none⟩) 4 4], h2.below b3, .cons ((h1.below b2).below b3) .nil⟩, h3⟩
  have e4 : w4 = (((w.alloc (.cells #[.int .u8 1, .int .i64 5, .int .i64 0, .int .i64 0, .string ⟨#[]⟩, .int .u8 16, .int .i64 0, .int .i64 0, .int .i64 0, .string ⟨#[105, 116, 111, 115]⟩, .int .u8 16, .int .i64 0, .int .i64 0, .int .i64 0, .string ⟨#[112, 114, 105, 110, 116]⟩, .int .u8 25, .int .i64 0, .int .i64 0, .int .i64 0, .string ⟨#[]⟩] 46)).alloc (.cells #[.slice (some ⟨w.heap.size, 0, none⟩) 4 4] 44)).alloc (.cells #[.string ⟨#[114]⟩, .string ⟨#[105, 110, 116]⟩] 48)).alloc (.cells #[.slice (some ⟨w.heap.size + 1, 0, none⟩) 1 1, .slice (some ⟨w.heap.size + 1 + 1, 0, none⟩) 1 1] 25) := by
    rw [hw4, hw3, hw2, hw1]
    rfl
  rw [← e4]
  refine ⟨hc.below b4, by rw [hw4]; exact h4, ?_, s4⟩
  exact ((b1.trans (b2.mono (by omega))).trans (b3.mono (by omega))).trans (b4.mono (by omega))

theorem CodA.below {w w' : World} {base : Nat} {vF vR : Value} {c : Cod} {vs : List Value} (h : CodA w base vF vR c vs) (hb : Below w.heap.size w w') : CodA w' base vF vR c vs :=
  h.mods (Mods.fresh hb (fun _ => False)) (fun k _ _ hf => hf)
theorem exC_small : ∀ l ∈ exC.f, l.length ≤ 1000000 ∧ ∀ x ∈ l, x.t.length ≤ 1000000 := by
  intro l hl
  simp only [exC, List.mem_singleton] at hl
  subst hl
  refine ⟨by decide, fun x hx => ?_⟩
  simp only [List.mem_cons, List.not_mem_nil, or_false] at hx
  rcases hx with rfl | rfl | rfl | rfl <;> decide
theorem exD_small : ∀ l ∈ exD.f, l.length ≤ 1000000 ∧ ∀ x ∈ l, x.t.length ≤ 1000000 := by
  intro l hl
  simp only [exD, List.mem_singleton] at hl
  subst hl
  refine ⟨by decide, fun x hx => ?_⟩
  simp only [List.mem_cons, List.not_mem_nil, or_false] at hx
  rcases hx with rfl | rfl | rfl <;> decide
theorem Sl.restN {w : World} {b off n c m s : Nat} {xs : List Value} (h : Sl w s (.slice (some ⟨b, off, none⟩) n c) n xs) (hm : m ≤ n) (hc : m < c) : Sl w s (.slice (some ⟨b, off + m * s, none⟩) (n - m) (c - m)) (n - m) (xs.drop (m * s)) := by
  obtain ⟨hl, a', c', he, g1, g2, g3, g4⟩ := h
  cases he
  refine ⟨by rw [List.length_drop, hl, Nat.sub_mul], _, _, rfl, by omega, by omega, (fun e => by cases e), fun j u hu => ?_⟩
  rw [List.getElem?_drop] at hu
  obtain ⟨b', off', e, hcell⟩ := g4 _ u hu
  cases e
  exact ⟨_, _, rfl, by rw [Nat.add_assoc]; exact hcell⟩
theorem run_rest {P : Program} (w : World) {t e : TypeId} {z : Nat} (ht : P.underlying t = some (.slice e)) (hsz : (P.info? e).map (·.size) = some z) (b off n c l : Nat) (h1 : l ≤ n) (h2 : n ≤ c) (h3 : c ≠ l) :
    (Instr.slice t (.slice (some ⟨b, off, none⟩) n c) (some (.int .i64 (l : Nat))) none none).run P w = .ok (.slice (some ⟨b, off + l * z, none⟩) (n - l) (c - l)) w := by
  obtain ⟨i, hi', hs⟩ := Option.map_eq_some_iff.1 hsz
  simp [Instr.slice, run_underlying ht, bounds_l w n c l .i64 h1, sizeOf, typeInfo, hi', hs, add_eq, h3]
set_option maxHeartbeats 4000000 in
theorem works_p (W : World) (pb fuel pn : Nat) (HP0 : Hid (PrimsR W pb fuel pn)) (w : World) (hW : Hid (Below W.heap.size W w)) :
    Calls Tryd.prog 11 #[] w fun e w' => e = .returned (.bool true) ∧ Below w.heap.size w w' := by
  go_enter Tryd.func11, Tryd.ntmps11
  go_upto_region 2 with fail
  obtain ⟨w4, hw4, hC4, hR4, hB4, hS4⟩ := anchor_mem w
  rw [← hw4]
  have HC4 := Lib.hid hC4
  have HR4 := Lib.hid hR4
  have HB4 := Lib.hid hB4
  have c0 := hR4.cell 0
  have c1 := hR4.cell 1
  simp only [List.getElem?_cons_zero, List.getElem?_cons_succ] at c0 c1
  clear hw4 hC4 hR4 hB4
  have hwr := write_p _ _ _ _ _ _ exC w4 HC4.out (Lib.hid (Nat.le_trans exC_len (by decide)))
  go_upto_region 3 with fail
  refine hwr.mono ?_
  rintro e w5 ⟨v5, rfl, ho5, hb5⟩
  clear hwr c0 c1
  obtain ⟨n, hn⟩ : ∃ y, y = (codL exC).length := ⟨_, rfl⟩
  rw [← hn] at ho5
  have hn2 : n ≤ 1000000000 := by rw [hn]; exact Nat.le_trans exC_len (by decide)
  obtain ⟨a5, c5, rfl⟩ := ho5.form
  have hrd : Calls Tryd.prog 14 #[.slice a5 n c5] w5 fun e w' => ∃ aG kG aS kS vs, e = .returned (.tuple #[.agg #[.slice aG 1 kG, .slice aS 1 kS], .int .i64 0]) ∧ CodA w' w5.heap.size (.slice aG 1 kG) (.slice aS 1 kS) exC vs ∧ Below w5.heap.size w5 w' :=
    (read_p a5 n c5 (codL exC) w5 ho5.sl hn2).mono (fun e w' h => by
      rcases h with ⟨C, vF, vR, vs, h1, h2, h3, h4⟩ | ⟨h1, _⟩
      · have h5 := h1.out
        rw [read_write exC_ok] at h5
        cases h5
        obtain ⟨⟨aG, kG, e1⟩, aS, kS, e2⟩ := h3.codM.form
        subst e1 e2
        exact ⟨aG, kG, aS, kS, vs, h2, h3, h4⟩
      · rw [read_write exC_ok] at h1
        cases h1)
  have HC5 := Lib.hid (HC4.out.below hb5)
  have HR5 := Lib.hid (HR4.out.after hb5)
  have HB5 := Lib.hid (HB4.out.trans (hb5.mono HB4.out.size))
  have HS5 : Hid (w.heap.size ≤ w5.heap.size) := Lib.hid HB5.out.size
  clear HC4 HR4 HB4 hb5 ho5 hn
  go_upto_region 4 with fail
  refine hrd.mono ?_
  rintro e w6 ⟨aG, kG, aS, kS, vs, rfl, hA6, hb6⟩
  clear hrd hn2
  have HC6 := Lib.hid (HC5.out.below hb6)
  have HR6 := Lib.hid (HR5.out.after hb6)
  have HB6 := Lib.hid (HB5.out.trans (hb6.mono HB5.out.size))
  have HA6 := Lib.hid hA6
  clear HC5 HR5 HB5 hb6 hA6
  go_upto_region 4 with fail
  obtain ⟨w7, hw7⟩ : ∃ y, y = w6.alloc (.cells #[.slice aG 1 kG, .slice aS 1 kS] 25) := ⟨_, rfl⟩
  have hb7 : Below w6.heap.size w6 w7 := by rw [hw7]; exact (Below.refl _ _).alloc (Nat.le_refl _) _
  have hD7 : Row w7 w6.heap.size 25 [.slice aG 1 kG, .slice aS 1 kS] := by rw [hw7]; exact Row.new w6 _ _
  rw [← hw7]
  obtain ⟨q, hq⟩ : ∃ y, y = w6.heap.size := ⟨_, rfl⟩
  have HQ : Hid (w5.heap.size ≤ q ∧ aG ≠ none ∧ ∀ b, (Value.slice aG 1 kG).ownBlock = some b → b < q) := Lib.hid ⟨by rw [hq]; have := HA6.out.own; exact Nat.le_of_lt (by
    obtain ⟨g, off, cap, h1, h2⟩ := this.open (by decide) (by decide)
    have h3 := this.lt g (by rw [h1]; rfl)
    have h4 := this.lives g (by rw [h1]; rfl)
    omega), by
    obtain ⟨g, off, cap, h1, h2⟩ := HA6.out.own.open (by decide) (by decide)
    cases h1
    simp, fun b hb => by rw [hq]; exact HA6.out.own.lives b hb⟩
  rw [← hq] at hD7 ⊢
  have HC7 := Lib.hid (HC6.out.below hb7)
  have HR7 := Lib.hid (HR6.out.after hb7)
  have HB7 := Lib.hid (HB6.out.trans (hb7.mono HB6.out.size))
  have HA7 : Hid (CodA w7 w5.heap.size (.slice aG 1 kG) (.slice aS 1 kS) exC vs) := Lib.hid (HA6.out.below hb7)
  have HD7 := Lib.hid hD7
  clear HC6 HR6 HB6 hb7 HA6 hD7 hw7 hq
  have hrn : Calls Tryd.prog 14 #[.slice none 0 0] w7 fun e w' => e = .returned (.tuple #[.agg #[nilV, nilV], .int .i64 8]) ∧ Below w7.heap.size w7 w' :=
    (read_p none 0 0 [] w7 (Sl.nil w7 1) (by decide)).mono (fun e w' h => by
      rcases h with ⟨C, vF, vR, vs, h1, h2, h3, h4⟩ | ⟨_, h2, h3⟩
      · have h5 := h1.out
        have h6 : readC [] = none := by decide
        rw [h6] at h5
        cases h5
      · exact ⟨h2, h3⟩)
  go_upto_region 5 with fail
  refine hrn.mono ?_
  rintro e w8 ⟨rfl, hb8⟩
  clear hrn
  unfold nilV
  have HC8 := Lib.hid (HC7.out.below hb8)
  have HR8 := Lib.hid (HR7.out.after hb8)
  have HB8 := Lib.hid (HB7.out.trans (hb8.mono HB7.out.size))
  have HA8 := Lib.hid (HA7.out.below hb8)
  have HD8 := Lib.hid (HD7.out.after hb8)
  clear HC7 HR7 HB7 HA7 HD7 hb8
  go_upto_region 5 with fail
  obtain ⟨w9, hw9⟩ : ∃ y, y = w8.alloc (.cells #[.slice none 0 0, .slice none 0 0] 25) := ⟨_, rfl⟩
  have hb9 : Below w8.heap.size w8 w9 := by rw [hw9]; exact (Below.refl _ _).alloc (Nat.le_refl _) _
  rw [← hw9]
  have HC9 := Lib.hid (HC8.out.below hb9)
  have HR9 := Lib.hid (HR8.out.after hb9)
  have HB9 := Lib.hid (HB8.out.trans (hb9.mono HB8.out.size))
  have HA9 := Lib.hid (HA8.out.below hb9)
  have HD9 := Lib.hid (HD8.out.after hb9)
  clear HC8 HR8 HB8 HA8 HD8 hb9 hw9
  have htk : Calls Tryd.prog 22 #[.string ⟨#[112, 117, 116]⟩] w9 fun e w' => e = .returned (.tuple #[.int .i64 3, .bool true]) ∧ Below w9.heap.size w9 w' :=
    (takes_p W pb fuel pn HP0 [112, 117, 116] w9 (hW.out.trans (HB9.out.mono hW.out.size))).mono (fun e w' h => h)
  go_upto_region 6 with fail
  refine htk.mono ?_
  rintro e wa ⟨rfl, hba⟩
  clear htk
  have HCa := Lib.hid (HC9.out.below hba)
  have HRa := Lib.hid (HR9.out.after hba)
  have HBa := Lib.hid (HB9.out.trans (hba.mono HB9.out.size))
  have HAa := Lib.hid (HA9.out.below hba)
  have HDa := Lib.hid (HD9.out.after hba)
  clear HC9 HR9 HB9 HA9 HD9 hba
  go_upto_region 6 with fail
  obtain ⟨gF, oF, aV, cV, rfl, hcF, hsF⟩ := HAa.out.codM.fun_at 0 exL rfl
  obtain ⟨k, hk⟩ : ∃ y, y = w.heap.size + 1 + 1 + 1 := ⟨_, rfl⟩
  rw [← hk] at HRa ⊢
  have HK := Lib.hid hk
  clear hk hsF
  have c0 := HRa.out.cell 0
  have c1 := HRa.out.cell 1
  have d0 := HDa.out.cell 0
  have d1 := HDa.out.cell 1
  simp only [List.getElem?_cons_zero, List.getElem?_cons_succ] at c0 c1 d0 d1
  have hcF : wa.cell? ⟨gF, oF, none⟩ = some (.slice aV 4 cV) := hcF
  have HCL : Hid ((codL exC).length ≤ 1000000000) := Lib.hid (Nat.le_trans exC_len (by decide))
  have hsm := same_p _ _ _ _ _ _ exC _ _ _ _ _ _ exC wa HCa.out HAa.out.codM HCL HCL true (Lib.hid (by simp))
  go_upto_region 7 with fail
  refine hsm.mono ?_
  rintro e wb ⟨rfl, hbb⟩
  clear hsm c0 c1 d0 d1 hcF
  have HCb := Lib.hid (HCa.out.below hbb)
  have HRb := Lib.hid (HRa.out.after hbb)
  have HBb := Lib.hid (HBa.out.trans (hbb.mono HBa.out.size))
  have HAb := Lib.hid (HAa.out.below hbb)
  have HDb := Lib.hid (HDa.out.after hbb)
  clear HCa HRa HBa HAa HDa hbb
  have c0 := HRb.out.cell 0
  have c1 := HRb.out.cell 1
  simp only [List.getElem?_cons_zero, List.getElem?_cons_succ] at c0 c1
  have hck := check_p W pb fuel pn HP0 _ _ _ _ _ _ exC wb (Lib.hid (hW.out.trans (HBb.out.mono hW.out.size))) HCb.out (by decide) exC_small (by decide) 0 (Lib.hid exC_check.symm)
  go_upto_region 8 with fail
  refine hck.mono ?_
  rintro e wc ⟨rfl, hbc⟩
  clear hck c0 c1
  have HBc := Lib.hid (HBb.out.trans (hbc.mono HBb.out.size))
  have HAc := Lib.hid (HAb.out.below hbc)
  have HDc := Lib.hid (HDb.out.after hbc)
  clear HCb HRb HBb HAb HDb hbc
  go_upto_region 8 with fail
  clear hcF
  obtain ⟨v, rfl⟩ : ∃ v, vs = [v] := by
    have h1 := HAc.out.own.1
    match vs, h1 with
    | [v], _ => exact ⟨v, rfl⟩
  have hv : ∃ g o c, v = .slice (some ⟨g, o, none⟩) 4 c ∧ 4 ≤ c ∧ c ≤ 9223372036854775807 ∧ g ≠ gF ∧ Sl wc 5 (.slice (some ⟨g, o, none⟩) 4 c) 4 (inCells exL) := by
    cases HAc.out.fns with
    | cons h1 h2 h3 =>
      obtain ⟨g, o, c, rfl, _, _, h4, h5, _⟩ := h1.open (by decide) (by decide)
      exact ⟨g, o, c, rfl, h4, h5, fun e => h2 g rfl (by rw [e]; rfl), h1.sl⟩
  obtain ⟨gv, ov, cv, rfl, hv1, hv2, hv3, hv4⟩ := hv
  have d0 := HDc.out.cell 0
  have d1 := HDc.out.cell 1
  simp only [List.getElem?_cons_zero, List.getElem?_cons_succ] at d0 d1
  have dF : wc.cell? ⟨gF, oF, none⟩ = some (.slice (some ⟨gv, ov, none⟩) 4 cv) := HAc.out.own.get 0 (Nat.zero_lt_one)
  have dz : wc.frozen? ⟨gF, oF, none⟩ = false := HAc.out.own.free 0 (Nat.zero_lt_one)
  have q0 := later_cell d0
  have q1 := later_cell dF
  have hsl : ∀ wx : World, (Instr.slice 44 (.slice (some ⟨gv, ov, none⟩) 4 cv) (some (.int .i64 1)) none none).run Tryd.prog wx = .ok (.slice (some ⟨gv, ov + 5, none⟩) 3 (cv - 1)) wx := fun wx =>
    run_rest wx Tryd.underlying44 (z := 5) (by kernel_rfl) gv ov 4 cv 1 (by decide) hv1 (by omega)
  have HV := Lib.hid hv4
  clear hv4 d0 d1
  refine wp_region_idx Rb Rb_refl Rb_trans [(0,0),(0,1),(0,2),(0,3),(0,4),(0,5),(0,6),(0,7),(2,8)] (by kernel_rfl) (by kernel_rfl) (by kernel_rfl) ?_
  simp only [pickO, List.getD_cons_succ, List.getD_cons_zero]
  refine wpCan_seg 8 (by kernel_rfl) ?_
  simp only [List.take_succ_cons, List.take_zero, List.drop_succ_cons, List.drop_zero, List.map_cons, List.map_nil]
  iterate 8 (go_big_quiet_step (fail))
  refine wpQuiet_nil ?_
  clear q0 q1 hsl dF dz
  have HOd : Hid (Own wc.drew w5.heap.size 1 (.slice (some ⟨gF, oF, none⟩) 1 kG) 1 [.slice (some ⟨gv, ov, none⟩) 4 cv]) := Lib.hid HAc.out.own.drew
  refine wpCan_list (k := 1) (fun KK hK => ?_) (fun h => by cases h)
  refine wpL_storeOwn (g := 0) rfl _ _ _ rfl rfl rfl rfl rfl (by kernel_rfl) HOd.out 0 rfl (Nat.zero_lt_one) ?_
  intro wd hgd hod
  have hmd : Mods (fun g => g = gF) wc wd := (Mods.fresh (Below.refl wc.heap.size wc).drew _).trans ((Mods.grown hgd).mono fun g e => (Option.some.inj e).symm)
  have HDd : Hid (Row wd q 25 [.slice (some ⟨gF, oF, none⟩) 1 kG, .slice aS 1 kS]) := Lib.hid (HDc.out.mods hmd (by have := HQ.out.2.2 gF rfl; omega))
  have HCd : Hid (CodM wd (.slice (some ⟨gF, oF, none⟩) 1 kG) (.slice aS 1 kS) exD) := Lib.hid (by
    refine ⟨⟨_, hod.sl, .cons ?_ .nil⟩, (HAc.out.roots.mods hmd (fun g hg e => HAc.out.ne g hg (by rw [e]; rfl))).sl⟩
    have h1 := HV.out.mods hmd (fun g hg e => by have e2 : gv = g := by simpa [Value.ownBlock] using hg
                                                 omega)
    exact h1.restN (m := 1) (by decide) (by omega))
  have HBd : Hid (Below w.heap.size w wd) := Lib.hid (below_mods HBc.out hmd (by
    rintro g rfl
    have h1 := HAc.out.own.lt g rfl
    have h2 := HS5.out
    omega) HBc.out.size)
  clear hmd hgd hod
  refine hK _ _ (fun h => by cases h) ?_
  clear hK KK HOd HAc HBc HDc HV
  unfold wpCan
  have d0 := HDd.out.cell 0
  have d1 := HDd.out.cell 1
  simp only [List.getElem?_cons_zero, List.getElem?_cons_succ] at d0 d1
  have hck := check_p W pb fuel pn HP0 _ _ _ _ _ _ exD wd (Lib.hid (hW.out.trans (HBd.out.mono hW.out.size))) HCd.out (by decide) exD_small (by decide) 17 (Lib.hid exD_check.symm)
  go_wp2_with fail
  refine hck.mono ?_
  rintro e we ⟨rfl, hbe⟩
  clear hck
  go_wp2_with fail
  go_ret
  exact ⟨rfl, HBd.out.trans (hbe.mono HBd.out.size)⟩
end Go.Proofs.YtoddklfblcfoiaaDoor
